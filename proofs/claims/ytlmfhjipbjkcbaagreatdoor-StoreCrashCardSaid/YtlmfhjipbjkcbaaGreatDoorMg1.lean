/- x -/
import Derived.Test.YtlmfhjipbjkcbaaGreatDoorPtc
import Derived.Test.YtlmfhjipbjkcbaaGreatDoorPln2
set_option maxHeartbeats 4000000
set_option maxRecDepth 100000
set_option linter.unusedSimpArgs false
set_option linter.unusedVariables false
namespace Go.Proofs.YtlmfhjipbjkcbaaGreatDoor
open Go.RowKit Go.Sort Go.Lib
def mcmpI (a b:Int):Int:=if a<b then -1 else if b<a then 1 else 0
theorem cmpI_lt {a b:Int}(h:a<b):mcmpI a b=-1:=by simp [mcmpI,h]
theorem cmpI_gt {a b:Int}(h:b<a):mcmpI a b=1:=by simp [mcmpI,h];omega
theorem mcmpI_eq {a b:Int}(h:a=b):mcmpI a b=0:=by simp [mcmpI,h]
theorem compare_any (a b:Int) (w:World):Calls Tryz.prog 148 #[.int .i64 a,.int .i64 b] w fun e w'=>e=.returned (.int .i64 (mcmpI a b))∧w=w':=by
 rcases Int.lt_trichotomy a b with h|h|h
 ·have H:=hid (cmpI_lt h)
  go_enter Tryz.func148,Tryz.ntmps148
  go_wp2
  go_ret
  rw [H.out];exact ⟨rfl,rfl⟩
 ·have H:=hid (mcmpI_eq h)
  subst h
  go_enter Tryz.func148,Tryz.ntmps148
  go_wp2
  go_ret
  rw [H.out];exact ⟨rfl,rfl⟩
 ·have H:=hid (cmpI_gt h)
  have h2:¬a<b:=by omega
  go_enter Tryz.func148,Tryz.ntmps148
  go_wp2
  go_ret
  rw [H.out];exact ⟨rfl,rfl⟩
def orI (a b c:Int):Int:=if a≠0 then a else if b≠0 then b else c
theorem or_any (g:Nat) (a b c:Int) (w:World) (h0:w.cell? ⟨g,0,none⟩=some (.int .i64 a)) (h1:w.cell? ⟨g,1,none⟩=some (.int .i64 b)) (h2:w.cell? ⟨g,2,none⟩=some (.int .i64 c)) :
 Calls Tryz.prog 147 #[.slice (some ⟨g,0,none⟩) 3 3] w fun e w'=>e=.returned (.int .i64 (orI a b c))∧w=w':=by
 have H0:=hid h0;have H1:=hid h1;have H2:=hid h2
 clear h0 h1 h2
 go_enter Tryz.func147,Tryz.ntmps147
 go_wp2
 go_loop [8] (fun i=>∃k:Nat,k≤3∧i=.int .i64 k∧Hid ((0<k→a=0)∧(1<k→b=0)∧(2<k→c=0))) (fun i=>3-(intOf i).toNat)
 case atStart=>exact ⟨0,by omega,rfl,hid ⟨fun h=>by omega,fun h=>by omega,fun h=>by omega⟩⟩
 case round =>
  obtain ⟨k,hk,rfl,I⟩:=hrel
  by_cases hlt:k<3
  ·obtain ⟨z,hz,Hz⟩:∃z,w.cell? ⟨g,k,none⟩=some (.int .i64 z)∧Hid (z=if k=0 then a else if k=1 then b else c):=by
    rcases (show k=0∨k=1∨k=2 by omega) with rfl|rfl|rfl
    ·exact ⟨a,H0.out,hid rfl⟩
    ·exact ⟨b,H1.out,hid rfl⟩
    ·exact ⟨c,H2.out,hid rfl⟩
   by_cases hzz:z=0
   ·have hb:(z != 0)=false:=by simp [hzz]
    have HZ:=hid hzz;clear hzz
    go_wp2
    go_round
    case rel =>
     have hz':=Hz.out.symm.trans HZ.out
     obtain ⟨i1,i2,i3⟩:=I.out
     refine ⟨k+1,by omega,by go_num,hid ⟨fun _=>?_,fun _=>?_,fun _=>?_⟩⟩
     ·rcases (show k=0∨0<k by omega) with rfl|h
      ·simpa using hz'
      ·exact i1 h
     ·rcases (show k=1∨1<k by omega) with rfl|h
      ·simpa using hz'
      ·exact i2 h
     ·rcases (show k=2∨2<k by omega) with rfl|h
      ·simpa using hz'
      ·exact i3 h
    case measure=>simp [intOf];omega
   ·have hb:(z != 0)=true:=by simp [hzz]
    have HO:Hid (orI a b c=z):=hid (by
     obtain ⟨i1,i2,i3⟩:=I.out
     have hz':=Hz.out
     rcases (show k=0∨k=1∨k=2 by omega) with rfl|rfl|rfl
     ·simp at hz';subst hz';simp [orI,hzz]
     ·simp at hz';subst hz';simp [orI,hzz,i1]
     ·simp at hz';subst hz';simp [orI,i1,i2])
    clear hzz
    go_wp2
    go_ret
    rw [HO.out];exact ⟨rfl,rfl⟩
  ·have HO:Hid (orI a b c=0):=hid (by
    obtain ⟨i1,i2,i3⟩:=I.out
    have:=i1 (by omega);have:=i2 (by omega);have:=i3 (by omega)
    simp [orI, *])
   go_wp2
   go_ret
   rw [HO.out];exact ⟨rfl,rfl⟩
structure Cur where
 a:Option Addr
 n:Nat
 c:Nat
 l:List Pt
 i:Nat
def Cur.cells (x:Cur):List Value:=[.slice x.a x.n x.c,.int .i64 x.i]
def Cur.val (x:Cur):Value:=.agg #[.slice x.a x.n x.c,.int .i64 x.i]
def Cur.Ok (w:World) (x:Cur):Prop:=Src w 3 (.slice x.a x.n x.c) x.n (pts x.l)∧x.l≠[]∧x.n≤x.c
def Cur.p (x:Cur):Pt:=x.l.headD default
def ahead (x y:Cur):Bool:=decide (x.p.t<y.p.t) || decide (x.p.t=y.p.t)&&(decide (y.p.s<x.p.s) || decide (y.p.s=x.p.s)&&decide (y.i<x.i))
theorem Cur.Ok.ext {w w':World}{x:Cur}(h:x.Ok w) (hx:Ext w w'):x.Ok w':=⟨h.1.ext hx,h.2⟩
theorem or_ahead (x y:Cur):decide (orI (mcmpI x.p.t y.p.t) (mcmpI y.p.s x.p.s) (mcmpI y.i x.i)<0)=ahead x y:=by
 rw [Bool.eq_iff_iff]
 simp only [yaL,ahead,Bool.or_eq_true,yaK]
 unfold orI mcmpI
 repeat' split
 all_goals omega
theorem Cur.Ok.first {w:World}{x:Cur}(h:x.Ok w):∃b off,x.a=some ⟨b,off,none⟩∧0<x.n∧x.l.length=x.n∧w.cell? ⟨b,off,none⟩=some (.int .i64 x.p.t)∧w.cell? ⟨b,off+1,none⟩=some (.int .i64 x.p.v)∧w.cell? ⟨b,off+2,none⟩=some (.int .i64 x.p.s):=by
 have hl:=zbI h.1
 have hn:0<x.n:=by rw [←hl];exact List.length_pos_iff.2 h.2.1
 obtain ⟨b,off,p,h1,h2,h3,h4,h5⟩:=zbz h.1 hn
 have hp:p=x.p:=by
  cases hx:x.l with
  | nil=>rw [hx] at h2;simp at h2
  | cons q t=>rw [hx] at h2;simp at h2;simp [Cur.p,hx,h2]
 subst hp
 simp only [Nat.zero_mul,Nat.add_zero] at h3 h4 h5
 exact ⟨b,off,h1,hn,hl,h3,h4,h5⟩
theorem before_any (x y:Cur) (w:World) (hx:x.Ok w) (hy:y.Ok w) :
 Calls Tryz.prog 77 #[x.val,y.val] w fun e w'=>e=.returned (.bool (ahead x y))∧Ext w w':=by
 obtain ⟨xb,xo,x1,x2,_,x3,x4,x5⟩:=hx.first
 obtain ⟨yb,yo,y1,y2,_,y3,y4,y5⟩:=hy.first
 unfold Cur.val
 rw [x1,y1]
 have HA:=hid (or_ahead x y)
 generalize x.n=xn at *
 generalize x.c=xc at *
 generalize y.n=yn at *
 generalize y.c=yc at *
 clear hx hy x1 y1
 have lx:=yaf w _ x3
 have ly:=yaf w _ y3
 generalize (x.i:Int)=xi at *
 generalize (y.i:Int)=yi at *
 generalize x.p.t=xt at *
 generalize x.p.v=xv at *
 generalize x.p.s=xs at *
 generalize y.p.t=yt at *
 generalize y.p.v=yv at *
 generalize y.p.s=ys at *
 go_enter Tryz.func77,Tryz.ntmps77
 go_wp2_with fail
 generalize hW:World.alloc _ _=W
 have HX:Hid (Ext w W):=hid (by subst hW;exact ((Ext.refl w).alloc _).alloc _)
 have c0:W.cell? ⟨w.heap.size,0,none⟩=some (.slice (some ⟨xb,xo,none⟩) xn xc):=by subst hW;simp [go_sem]
 have c1:W.cell? ⟨w.heap.size,1,none⟩=some (.int .i64 xi):=by subst hW;simp [go_sem]
 have d0:W.cell? ⟨w.heap.size+1,0,none⟩=some (.slice (some ⟨yb,yo,none⟩) yn yc):=by subst hW;simp [go_sem]
 have d1:W.cell? ⟨w.heap.size+1,1,none⟩=some (.int .i64 yi):=by subst hW;simp [go_sem]
 replace x3:=(HX.out.cell (p:=⟨xb,xo,none⟩) lx).trans x3
 replace x4:=(HX.out.cell (p:=⟨xb,xo+1,none⟩) lx).trans x4
 replace x5:=(HX.out.cell (p:=⟨xb,xo+2,none⟩) lx).trans x5
 replace y3:=(HX.out.cell (p:=⟨yb,yo,none⟩) ly).trans y3
 replace y4:=(HX.out.cell (p:=⟨yb,yo+1,none⟩) ly).trans y4
 replace y5:=(HX.out.cell (p:=⟨yb,yo+2,none⟩) ly).trans y5
 clear hW
 have C0:=hid c0;have C1:=hid c1;have D0:=hid d0;have D1:=hid d1
 replace c0:=zaf (T:=fun _=>false) c0 rfl
 replace d0:=zaf (T:=fun _=>false) d0 rfl
 replace x3:=zaf (T:=fun _=>false) x3 rfl
 replace x4:=zaf (T:=fun _=>false) x4 rfl
 replace x5:=zaf (T:=fun _=>false) x5 rfl
 replace y3:=zaf (T:=fun _=>false) y3 rfl
 replace y4:=zaf (T:=fun _=>false) y4 rfl
 replace y5:=zaf (T:=fun _=>false) y5 rfl
 refine zao 11 (fun w'=>∃p:Turned,w'=turned W (fun _=>false) p.d p.f p.os) (.reads [0,1,2,3,4,5,6,7] (.two 8 (.one 9 (.one 10 (.one 11 .done))) 9 (.one 8 (.one 10 (.one 11 .done))))) (by kernel_rfl) (by kernel_rfl) (fun _ _ dd _ _ hh=>by cases dd<;>exact hh) ?_ ?_
 ·exact zad (Ext.drewN W 1)
 refine zak ?_
 simp only [zac,yab,yaa]
 repeat (go_big_quiet_step (fail))
 refine yaF ?_
 clear c0 d0 x3 x4 x5 y3 y4 y5 c1 d1
 refine wpPlan_two ?_ ?_
 all_goals
  simp only [zac,yab,yaa]
  go_wp2_with fail
  refine zal (zad (((Ext.refl W).alloc _).drew)) (zae ?_)
  simp only [zac,yab,yaa]
  go_wp2_with fail
  refine zal (zad ((((Ext.refl W).alloc _).alloc _).drew)) (zae ?_)
  simp only [zac,yab,yaa]
  go_wp2_with fail
  refine zal (zad ((((Ext.refl W).alloc _).alloc _).drew)) (zae ?_)
  simp only [zac,yab,yaa]
  go_wp2_with fail
  refine zal (zad ((((Ext.refl W).alloc _).alloc _).drew)) (zav ?_)
  generalize hV:World.drew (World.alloc _ _)=V
  have HV:Hid (Ext W V):=hid (by subst hV;exact (((Ext.refl W).alloc _).alloc _).drew)
  have c1:V.cell? ⟨w.heap.size,1,none⟩=some (.int .i64 xi):=(HV.out.cell (p:=⟨w.heap.size,1,none⟩) (yaf W _ C1.out)).trans C1.out
  have d1:V.cell? ⟨w.heap.size+1,1,none⟩=some (.int .i64 yi):=(HV.out.cell (p:=⟨w.heap.size+1,1,none⟩) (yaf W _ D1.out)).trans D1.out
  obtain ⟨e0,e1,e2,e3⟩:V.cell? ⟨W.heap.size,0,none⟩=_∧V.cell? ⟨W.heap.size,2,none⟩=_∧V.cell? ⟨W.heap.size+1,0,none⟩=_∧V.cell? ⟨W.heap.size+1,2,none⟩=_:=by
   subst hV;exact ⟨by simp [go_sem];rfl,by simp [go_sem];rfl,by simp [go_sem];rfl,by simp [go_sem];rfl⟩
  clear hV
  go_wp2_with fail
  refine zam [] [0,1,2,3,4,5,6,7,8,9,10,11,12,13,14] [15,16,17,18] (by kernel_rfl) (by kernel_rfl) (fun _ _ dd _ _ hh=>by cases dd<;>exact hh) ?_
  simp only [zac,yab,yaa]
  refine yaF ?_
  repeat (go_big_quiet_step ((go_at_call 148;exact Calls.quiet_eq (compare_any _ _ _))))
  refine yaF ?_
  intro w2 hw'
  have HX2:Hid (Ext V w2):=hid (by obtain ⟨k,rfl⟩:=hw';exact Ext.drewN _ _)
  clear hw' c1 d1 e0 e1 e2 e3
  go_wp2_with fail
  refine (or_any _ _ _ _ _ (by simp [go_sem];rfl) (by simp [go_sem];rfl) (by simp [go_sem];rfl)).mono ?_
  rintro e w3 ⟨rfl,hw3⟩
  have HX3:Hid (Ext w w3):=hid (by subst hw3;exact (((HX.out.trans HV.out).trans HX2.out).alloc _))
  clear hw3
  go_wp2_with fail
  go_ret
  rw [HA.out]
  exact ⟨rfl,HX3.out⟩
end Go.Proofs.YtlmfhjipbjkcbaaGreatDoor
