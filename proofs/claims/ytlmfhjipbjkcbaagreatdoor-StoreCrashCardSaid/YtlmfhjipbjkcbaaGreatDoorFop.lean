/- x -/
import Derived.Test.YtlmfhjipbjkcbaaGreatDoorWtg
import Derived.Test.YtlmfhjipbjkcbaaGreatDoorFrl
set_option maxHeartbeats 8000000
set_option maxRecDepth 100000
set_option linter.unusedSimpArgs false
set_option linter.unusedVariables false
namespace Go.Proofs.YtlmfhjipbjkcbaaGreatDoor
section
open Go.RowKit Go.Sort Go.Lib
structure SlB (w:World) (a:Option Addr) (n c:Nat) (l:List UInt8):Prop where
 src:Src w 1 (.slice a n c) n (u8s l)
 le:n≤c
 few:n<4611686018427387904
theorem SlB.len {w:World}{a:Option Addr}{n c:Nat}{l:List UInt8}(h:SlB w a n c l):l.length=n:=zax h.src
theorem SlB.ext {w w':World}{a:Option Addr}{n c:Nat}{l:List UInt8}(h:SlB w a n c l) (hx:Ext w w'):SlB w' a n c l:=⟨h.src.ext hx,h.le,h.few⟩
theorem SlB.cut {w:World}{a:Option Addr}{n c k:Nat}{l:List UInt8}(h:SlB w a n c l) (hk:k≤n):SlB w (cutA a c k) (n-k) (c-k) (l.drop k):=by
 refine ⟨?_,by have:=h.le;omega,by have:=h.few;omega⟩
 have hl:=zax h.src
 have:=zde (h:=n) (l:=k) (m:=c) h.src hk (Nat.le_refl _) h.le (Nat.le_refl _)
 rw [show u8s (l.drop k)=((u8s l).drop k).take (n-k) by simp only [u8s];rw [←List.map_drop,yai (by simp;omega)]]
 exact this
theorem Ext.keep {w w':World}{b:Nat}{o:Obj}(hx:Ext w w') (h:w.heap[b]?=some o):w'.heap[b]?=some o:=(hx.block (zab h)).trans h
theorem Ext.stored {w w1 w2:World}{b:Nat}(h:Ext w w1) (hc:Chg (·=b) w1 w2) (hb:w.heap.size≤b):Ext w w2:=((Chg.of_ext h).trans hc (fun _ _ e=>e)).ext (fun i hi e=>by omega)
def i64n (u:Nat):Int:=wrap64 (u:Int)
def Mk.zero:Mk:=⟨false,0,0⟩
def markE (x:Int):Mk×Nat×Int:=(Mk.zero,0,x)
def zcf (m:Mk) (k:Nat):Mk×Nat×Int:=if mkR m=true then (m,k,0) else markE 11
def markD (l:List UInt8) (g:Int) (k:Nat):Mk×Nat×Int :=
 if (varR (l.drop k)).2.2≠0 then markE (varR (l.drop k)).2.2 else zcf ⟨true,zag (varR (l.drop k)).1,g⟩ (k+(varR (l.drop k)).2.1)
def markC (l:List UInt8) (g:Int) (k:Nat):Mk×Nat×Int :=
 if (varR (l.drop k)).2.2≠0 then markE (varR (l.drop k)).2.2
 else if (varR (l.drop k)).1=0 then zcf ⟨false,0,g⟩ (k+(varR (l.drop k)).2.1)
 else if (varR (l.drop k)).1=1 then markD l g (k+(varR (l.drop k)).2.1)
 else markE 11
def markR (l:List UInt8):Mk×Nat×Int:=if (varR l).2.2≠0 then markE (varR l).2.2 else markC l (i64n (varR l).1) (varR l).2.1
def MarkTo (w:World) (r:Mk×Nat×Int) (e:Ending) (w':World):Prop:=e=.returned (.tuple #[r.1.val,.int .i64 (r.2.1:Int),.int .i64 r.2.2])∧Ext w w'
theorem zaM {P:Program}{fn:Func}{p u v:Tmp}{ty t:TypeId}{b:Nat}{cells:Array Value}{fr:Nat×Nat}{d:TypeDesc}(h:fn.results=#[.cell p ty,.tmp u,.tmp v]) (tmps:Array Value) (w:World)
 (hp:tmps.getD p undef=.pointer (some ⟨b,0,none⟩)) (hb:w.heap[b]?=some (.cells cells t fr)) (hu:P.underlying ty=some d) (hd:d.isRow=true) (hi:(P.info? ty).map (·.size)=some cells.size) :
 (results fn tmps).run P w=.ok (.tuple #[.agg cells,tmps.getD u undef,tmps.getD v undef]) w:=by
 have:=run_loadVar_mid (P:=P) w b 0 ty cells.toList d (by simpa using World.rangeAt_of_block hb 0 cells.size) hu hd (by simpa using hi)
 have hp':tmps[p]?.getD undef=.pointer (some ⟨b,0,none⟩):=by simpa using hp
 simp only [results,h]
 simp [Sem.run_bind,hp',asAddr,Result.andThen,this]
theorem zaE:(Tryz.prog.info? 46).map (·.size)=some 3:=by kernel_rfl
theorem waterRead_any (w:World) (a:Option Addr) (n c:Nat) (l:List UInt8) (hl:SlB w a n c l) (hg:HasET w) :
 Calls Tryz.prog 172 #[.slice a n c] w (MarkTo w (markR l)):=by
 have HL:=hid hl
 have HG:=hid hg
 have hlen:=hl.len
 have hv:=zaT l
 obtain ⟨u,k,x,hV⟩:∃u k x,varR l=(u,k,x):=⟨_,_,_,rfl⟩
 have HR:Hid (markR l=if x≠0 then markE x else markC l (i64n u) k):=hid (by unfold markR;rw [hV])
 have HV:=hid hV
 rw [hV] at hv
 obtain ⟨hv1,hv2,hv3,-⟩:=hv
 simp only at hv1 hv2 hv3
 have hkn:k≤n:=by omega
 have HLEN:=hid hlen
 clear hV hg hl hlen hv2
 by_cases hx:x=0
 ·subst hx
  have HR1:Hid (markR l=markC l (i64n u) k):=hid (by rw [HR.out,if_neg (by simp)])
  have HSL:=hid (HL.out.cut hkn)
  have hs1:=zbi Tryz.underlying51 sz_u8 a n c k hkn
  have hv:=zaT (l.drop k)
  have HZ:=hid (varR_zero (l:=l.drop k))
  obtain ⟨f,j,y,hV⟩:∃f j y,varR (l.drop k)=(f,j,y):=⟨_,_,_,rfl⟩
  have HC:Hid (markC l (i64n u) k=if y≠0 then markE y else if f=0 then zcf ⟨false,0,i64n u⟩ (k+j) else if f=1 then markD l (i64n u) (k+j) else markE 11):=hid (by unfold markC;rw [hV])
  have HV2:=hid hV
  rw [hV] at hv HZ
  obtain ⟨hw1,hw2,hw3,-⟩:=hv
  simp only at hw1 hw2 hw3 HZ
  rw [yaC,HLEN.out] at hw2
  have hjn:k+j≤n:=by omega
  have HSL2:=hid (HL.out.cut hjn)
  have hs2:∀W,(Instr.slice 51 (.slice a n c) (some (.int .i64 ((k:Int)+(j:Int)))) none none).run Tryz.prog W=.ok (.slice (cutA a c (k+j)) (n-(k+j)) (c-(k+j))) W:=fun W=>by
   have:=zbi Tryz.underlying51 sz_u8 a n c (k+j) hjn W
   rw [Int.natCast_add] at this
   exact this
  have HI:Hid (wrap64 (u:Int)=i64n u):=hid rfl
  generalize i64n u=g at *
  have hgw:=HI.out
  clear hV hw2 HR HI
  have hkj:(k:Int)+(j:Int)=((k+j:Nat):Int):=by omega
  have HKJ:=hid hkj
  clear hkj
  generalize cutA a c k=a1 at *
  generalize n-k=n1 at *
  generalize c-k=c1 at *
  generalize cutA a c (k+j)=a2 at *
  generalize n-(k+j)=n2 at *
  generalize c-(k+j)=c2 at *
  by_cases hy:y=0
  ·subst hy
   clear HZ
   by_cases hf:f=1
   ·subst hf
    have HR2:Hid (markR l=markD l g (k+j)):=hid (by rw [HR1.out,HC.out,if_neg (by simp),if_neg (by simp),if_pos rfl])
    clear HR1 HC
    have hv:=zaT (l.drop (k+j))
    obtain ⟨t,m,z,hV⟩:∃t m z,varR (l.drop (k+j))=(t,m,z):=⟨_,_,_,rfl⟩
    have HC:Hid (markD l g (k+j)=if z≠0 then markE z else zcf ⟨true,zag t,g⟩ (k+j+m)):=hid (by unfold markD;rw [hV])
    rw [hV] at hv
    obtain ⟨hw1,-,hw3,-⟩:=hv
    simp only at hw1 hw3
    have HV3:=hid hV
    clear hV
    have HSUM:Hid ((k:Int)+(j:Int)+(m:Int)=((k+j+m:Nat):Int)):=hid (by omega)
    by_cases hz:z=0
    ·as_aux_lemma =>
      subst hz
      have HR3:Hid (markR l=zcf ⟨true,zag t,g⟩ (k+j+m)):=hid (by rw [HR2.out,HC.out,if_neg (by simp)])
      clear HR2 HC
      obtain ⟨zt,hzt⟩:∃zt,zt=zag t:=⟨_,rfl⟩
      rw [←hzt] at HR3
      have HZT:=hid hzt
      clear hzt
      (
        go_enter Tryz.func172,Tryz.ntmps172
        go_wp2_with fail
        refine (zaB _ a n c l (HL.out.src.ext ((Ext.refl w).alloc _)) HL.out.few (HG.out.ext ((Ext.refl w).alloc _))).mono ?_
        rw [HV.out]
        have HBX:=hid (heap_alloc_new w (.cells #[.bool false,.int .i64 0,.int .i64 0] 46 (0,0)))
        have HX:=hid ((Ext.refl w).alloc (.cells #[.bool false,.int .i64 0,.int .i64 0] 46 (0,0)))
        (rintro e' wn ⟨rfl,hx1⟩;replace HBX:=hid (hx1.keep HBX.out);replace HX:=hid (HX.out.trans hx1);(try clear f0 f1 f2);have f0:=zaa HBX.out 0;have f1:=zaa HBX.out 1;have f2:=zaa HBX.out 2;clear hx1)
        go_wp2_with (first|(refine zai rfl _ _ _ rfl _ _ _ _ rfl rfl HBX.out rfl zaE (by simp [Value.oneCell']) ?_;rintro wx hbx hcx;replace HBX:=hid hbx;replace HX:=hid (HX.out.stored hcx (Nat.le_refl _));(try clear f0 f1 f2);have f0:=zaa hbx 0;have f1:=zaa hbx 1;have f2:=zaa hbx 2;clear hbx hcx))
        refine (zaB _ a1 n1 c1 (l.drop k) (HSL.out.src.ext HX.out) HSL.out.few (HG.out.ext HX.out)).mono ?_
        rw [HV2.out]
        (rintro e' wn ⟨rfl,hx1⟩;replace HBX:=hid (hx1.keep HBX.out);replace HX:=hid (HX.out.trans hx1);(try clear f0 f1 f2);have f0:=zaa HBX.out 0;have f1:=zaa HBX.out 1;have f2:=zaa HBX.out 2;clear hx1)
        go_wp2_with (first|(refine zai rfl _ _ _ rfl _ _ _ _ rfl rfl HBX.out rfl zaE (by simp [Value.oneCell']) ?_;rintro wx hbx hcx;replace HBX:=hid hbx;replace HX:=hid (HX.out.stored hcx (Nat.le_refl _));(try clear f0 f1 f2);have f0:=zaa hbx 0;have f1:=zaa hbx 1;have f2:=zaa hbx 2;clear hbx hcx)))
      refine (zcF _ a2 n2 c2 (l.drop (k+j)) (HSL2.out.src.ext HX.out) HSL2.out.few (HG.out.ext HX.out)).mono ?_
      rw [HV3.out]
      simp only
      rw [←HZT.out]
      (rintro e' wn ⟨rfl,hx1⟩;replace HBX:=hid (hx1.keep HBX.out);replace HX:=hid (HX.out.trans hx1);(try clear f0 f1 f2);have f0:=zaa HBX.out 0;have f1:=zaa HBX.out 1;have f2:=zaa HBX.out 2;clear hx1)
      have z1:=zan HBX.out 1
      go_wp2_with (first|(refine zai rfl _ _ _ rfl _ _ _ _ rfl rfl HBX.out rfl zaE (by simp [Value.oneCell']) ?_;rintro wx hbx hcx;replace HBX:=hid hbx;replace HX:=hid (HX.out.stored hcx (Nat.le_refl _));(try clear f0 f1 f2);have f0:=zaa hbx 0;have f1:=zaa hbx 1;have f2:=zaa hbx 2;clear hbx hcx))
      have HBX2:=hid (zaq HBX.out (i:=1) (.int .i64 zt))
      have HX2:=hid (HX.out.setCell (p:=⟨w.heap.size,1,none⟩) (Nat.le_refl _) (.int .i64 zt))
      clear z1 f0 f1 f2
      generalize World.setCell _ _ _=w5 at *
      clear HBX HX
      have HBX:Hid (w5.heap[w.heap.size]?=some (.cells #[.bool true,.int .i64 zt,.int .i64 g] 46 (0,0))):=hid (by have:=HBX2.out;simpa using this)
      have HX:=HX2
      clear HX2 HBX2
      have HRI:=hid (zea ⟨true,zt,g⟩ w5)
      obtain ⟨R,hR⟩:∃R,mkR ⟨true,zt,g⟩=R:=⟨_,rfl⟩
      rw [hR] at HRI
      have HF:Hid (markR l=if R=true then (⟨true,zt,g⟩,k+j+m,0) else markE 11):=hid (by rw [HR3.out];unfold zcf;rw [hR])
      clear hR
      refine HRI.out.mono ?_
      cases R
      ·(rintro e' wn ⟨rfl,hx1⟩;replace HBX:=hid (hx1.keep HBX.out);replace HX:=hid (HX.out.trans hx1);(try clear f0 f1 f2);have f0:=zaa HBX.out 0;have f1:=zaa HBX.out 1;have f2:=zaa HBX.out 2;clear hx1)
       go_wp2_with (first|(refine zai rfl _ _ _ rfl _ _ _ _ rfl rfl HBX.out rfl zaE (by simp [Value.oneCell']) ?_;rintro wx hbx hcx;replace HBX:=hid hbx;replace HX:=hid (HX.out.stored hcx (Nat.le_refl _));(try clear f0 f1 f2);have f0:=zaa hbx 0;have f1:=zaa hbx 1;have f2:=zaa hbx 2;clear hbx hcx))
       refine yaE (zaM Tryz.results172 _ _ rfl HBX.out Tryz.underlying46 rfl zaE) rfl ⟨?_,HX.out⟩
       rw [HF.out]
       rfl
      ·(rintro e' wn ⟨rfl,hx1⟩;replace HBX:=hid (hx1.keep HBX.out);replace HX:=hid (HX.out.trans hx1);(try clear f0 f1 f2);have f0:=zaa HBX.out 0;have f1:=zaa HBX.out 1;have f2:=zaa HBX.out 2;clear hx1)
       go_wp2_with (first|(refine zai rfl _ _ _ rfl _ _ _ _ rfl rfl HBX.out rfl zaE (by simp [Value.oneCell']) ?_;rintro wx hbx hcx;replace HBX:=hid hbx;replace HX:=hid (HX.out.stored hcx (Nat.le_refl _));(try clear f0 f1 f2);have f0:=zaa hbx 0;have f1:=zaa hbx 1;have f2:=zaa hbx 2;clear hbx hcx))
       refine yaE (zaM Tryz.results172 _ _ rfl HBX.out Tryz.underlying46 rfl zaE) rfl ⟨?_,HX.out⟩
       rw [HF.out]
       show Ending.returned (.tuple #[_,.int .i64 ((k:Int)+(j:Int)+(m:Int)),_])=_
       rw [HSUM.out]
       rfl
    ·as_aux_lemma =>
      have HR3:Hid (markR l=markE z):=hid (by rw [HR2.out,HC.out,if_pos hz])
      have hze:(z==0)=false:=by simp [hz]
      have hzn:(z != 0)=true:=by simp [hz]
      clear HR2 HC hz
      obtain ⟨zt,hzt⟩:∃zt,zt=zag t:=⟨_,rfl⟩
      have HZT:=hid hzt
      clear hzt
      (
        go_enter Tryz.func172,Tryz.ntmps172
        go_wp2_with fail
        refine (zaB _ a n c l (HL.out.src.ext ((Ext.refl w).alloc _)) HL.out.few (HG.out.ext ((Ext.refl w).alloc _))).mono ?_
        rw [HV.out]
        have HBX:=hid (heap_alloc_new w (.cells #[.bool false,.int .i64 0,.int .i64 0] 46 (0,0)))
        have HX:=hid ((Ext.refl w).alloc (.cells #[.bool false,.int .i64 0,.int .i64 0] 46 (0,0)))
        (rintro e' wn ⟨rfl,hx1⟩;replace HBX:=hid (hx1.keep HBX.out);replace HX:=hid (HX.out.trans hx1);(try clear f0 f1 f2);have f0:=zaa HBX.out 0;have f1:=zaa HBX.out 1;have f2:=zaa HBX.out 2;clear hx1)
        go_wp2_with (first|(refine zai rfl _ _ _ rfl _ _ _ _ rfl rfl HBX.out rfl zaE (by simp [Value.oneCell']) ?_;rintro wx hbx hcx;replace HBX:=hid hbx;replace HX:=hid (HX.out.stored hcx (Nat.le_refl _));(try clear f0 f1 f2);have f0:=zaa hbx 0;have f1:=zaa hbx 1;have f2:=zaa hbx 2;clear hbx hcx))
        refine (zaB _ a1 n1 c1 (l.drop k) (HSL.out.src.ext HX.out) HSL.out.few (HG.out.ext HX.out)).mono ?_
        rw [HV2.out]
        (rintro e' wn ⟨rfl,hx1⟩;replace HBX:=hid (hx1.keep HBX.out);replace HX:=hid (HX.out.trans hx1);(try clear f0 f1 f2);have f0:=zaa HBX.out 0;have f1:=zaa HBX.out 1;have f2:=zaa HBX.out 2;clear hx1)
        go_wp2_with (first|(refine zai rfl _ _ _ rfl _ _ _ _ rfl rfl HBX.out rfl zaE (by simp [Value.oneCell']) ?_;rintro wx hbx hcx;replace HBX:=hid hbx;replace HX:=hid (HX.out.stored hcx (Nat.le_refl _));(try clear f0 f1 f2);have f0:=zaa hbx 0;have f1:=zaa hbx 1;have f2:=zaa hbx 2;clear hbx hcx)))
      refine (zcF _ a2 n2 c2 (l.drop (k+j)) (HSL2.out.src.ext HX.out) HSL2.out.few (HG.out.ext HX.out)).mono ?_
      rw [HV3.out]
      simp only
      rw [←HZT.out]
      (rintro e' wn ⟨rfl,hx1⟩;replace HBX:=hid (hx1.keep HBX.out);replace HX:=hid (HX.out.trans hx1);(try clear f0 f1 f2);have f0:=zaa HBX.out 0;have f1:=zaa HBX.out 1;have f2:=zaa HBX.out 2;clear hx1)
      have z1:=zan HBX.out 1
      go_upto_region 10 with fail
      have HBX2:=hid (zaq HBX.out (i:=1) (.int .i64 zt))
      have HX2:=hid (HX.out.setCell (p:=⟨w.heap.size,1,none⟩) (Nat.le_refl _) (.int .i64 zt))
      clear z1 f0 f1 f2
      generalize World.setCell _ _ _=w5 at *
      clear HBX HX
      have HBX:Hid (w5.heap[w.heap.size]?=some (.cells #[.bool true,.int .i64 zt,.int .i64 g] 46 (0,0))):=hid (by have:=HBX2.out;simpa using this)
      have HX:=HX2
      clear HX2 HBX2
      go_wp2_with (first|(refine zai rfl _ _ _ rfl _ _ _ _ rfl rfl HBX.out rfl zaE (by simp [Value.oneCell']) ?_;rintro wx hbx hcx;replace HBX:=hid hbx;replace HX:=hid (HX.out.stored hcx (Nat.le_refl _));(try clear f0 f1 f2);have f0:=zaa hbx 0;have f1:=zaa hbx 1;have f2:=zaa hbx 2;clear hbx hcx))
      refine yaE (zaM Tryz.results172 _ _ rfl HBX.out Tryz.underlying46 rfl zaE) rfl ⟨?_,HX.out⟩
      rw [HR3.out]
      rfl
   ·by_cases hf0:f=0
    ·as_aux_lemma =>
      subst hf0
      have HR2:Hid (markR l=zcf ⟨false,0,g⟩ (k+j)):=hid (by rw [HR1.out,HC.out,if_neg (by simp),if_pos rfl])
      clear HR1 HC hf
      (
        go_enter Tryz.func172,Tryz.ntmps172
        go_wp2_with fail
        refine (zaB _ a n c l (HL.out.src.ext ((Ext.refl w).alloc _)) HL.out.few (HG.out.ext ((Ext.refl w).alloc _))).mono ?_
        rw [HV.out]
        have HBX:=hid (heap_alloc_new w (.cells #[.bool false,.int .i64 0,.int .i64 0] 46 (0,0)))
        have HX:=hid ((Ext.refl w).alloc (.cells #[.bool false,.int .i64 0,.int .i64 0] 46 (0,0)))
        (rintro e' wn ⟨rfl,hx1⟩;replace HBX:=hid (hx1.keep HBX.out);replace HX:=hid (HX.out.trans hx1);(try clear f0 f1 f2);have f0:=zaa HBX.out 0;have f1:=zaa HBX.out 1;have f2:=zaa HBX.out 2;clear hx1)
        go_wp2_with (first|(refine zai rfl _ _ _ rfl _ _ _ _ rfl rfl HBX.out rfl zaE (by simp [Value.oneCell']) ?_;rintro wx hbx hcx;replace HBX:=hid hbx;replace HX:=hid (HX.out.stored hcx (Nat.le_refl _));(try clear f0 f1 f2);have f0:=zaa hbx 0;have f1:=zaa hbx 1;have f2:=zaa hbx 2;clear hbx hcx))
        refine (zaB _ a1 n1 c1 (l.drop k) (HSL.out.src.ext HX.out) HSL.out.few (HG.out.ext HX.out)).mono ?_
        rw [HV2.out]
        (rintro e' wn ⟨rfl,hx1⟩;replace HBX:=hid (hx1.keep HBX.out);replace HX:=hid (HX.out.trans hx1);(try clear f0 f1 f2);have f0:=zaa HBX.out 0;have f1:=zaa HBX.out 1;have f2:=zaa HBX.out 2;clear hx1)
        go_wp2_with (first|(refine zai rfl _ _ _ rfl _ _ _ _ rfl rfl HBX.out rfl zaE (by simp [Value.oneCell']) ?_;rintro wx hbx hcx;replace HBX:=hid hbx;replace HX:=hid (HX.out.stored hcx (Nat.le_refl _));(try clear f0 f1 f2);have f0:=zaa hbx 0;have f1:=zaa hbx 1;have f2:=zaa hbx 2;clear hbx hcx)))
      have HRI:=hid (fun w5=>zea ⟨false,0,g⟩ w5)
      obtain ⟨R,hR⟩:∃R,mkR ⟨false,0,g⟩=R:=⟨_,rfl⟩
      rw [hR] at HRI
      have HF:Hid (markR l=if R=true then (⟨false,0,g⟩,k+j,0) else markE 11):=hid (by rw [HR2.out];unfold zcf;rw [hR])
      clear hR
      refine (HRI.out _).mono ?_
      cases R
      ·(rintro e' wn ⟨rfl,hx1⟩;replace HBX:=hid (hx1.keep HBX.out);replace HX:=hid (HX.out.trans hx1);(try clear f0 f1 f2);have f0:=zaa HBX.out 0;have f1:=zaa HBX.out 1;have f2:=zaa HBX.out 2;clear hx1)
       go_wp2_with (first|(refine zai rfl _ _ _ rfl _ _ _ _ rfl rfl HBX.out rfl zaE (by simp [Value.oneCell']) ?_;rintro wx hbx hcx;replace HBX:=hid hbx;replace HX:=hid (HX.out.stored hcx (Nat.le_refl _));(try clear f0 f1 f2);have f0:=zaa hbx 0;have f1:=zaa hbx 1;have f2:=zaa hbx 2;clear hbx hcx))
       refine yaE (zaM Tryz.results172 _ _ rfl HBX.out Tryz.underlying46 rfl zaE) rfl ⟨?_,HX.out⟩
       rw [HF.out]
       rfl
      ·(rintro e' wn ⟨rfl,hx1⟩;replace HBX:=hid (hx1.keep HBX.out);replace HX:=hid (HX.out.trans hx1);(try clear f0 f1 f2);have f0:=zaa HBX.out 0;have f1:=zaa HBX.out 1;have f2:=zaa HBX.out 2;clear hx1)
       go_wp2_with (first|(refine zai rfl _ _ _ rfl _ _ _ _ rfl rfl HBX.out rfl zaE (by simp [Value.oneCell']) ?_;rintro wx hbx hcx;replace HBX:=hid hbx;replace HX:=hid (HX.out.stored hcx (Nat.le_refl _));(try clear f0 f1 f2);have f0:=zaa hbx 0;have f1:=zaa hbx 1;have f2:=zaa hbx 2;clear hbx hcx))
       refine yaE (zaM Tryz.results172 _ _ rfl HBX.out Tryz.underlying46 rfl zaE) rfl ⟨?_,HX.out⟩
       rw [HF.out]
       show Ending.returned (.tuple #[_,.int .i64 ((k:Int)+(j:Int)),_])=_
       rw [HKJ.out]
       rfl
    ·as_aux_lemma =>
      have HR2:Hid (markR l=markE 11):=hid (by rw [HR1.out,HC.out,if_neg (by simp),if_neg hf0,if_neg hf])
      have hfe:((f:Int)==1)=false:=by simp;omega
      have hfg:(1:Int)<(f:Int):=by omega
      clear HR1 HC hf hf0
      (
        go_enter Tryz.func172,Tryz.ntmps172
        go_wp2_with fail
        refine (zaB _ a n c l (HL.out.src.ext ((Ext.refl w).alloc _)) HL.out.few (HG.out.ext ((Ext.refl w).alloc _))).mono ?_
        rw [HV.out]
        have HBX:=hid (heap_alloc_new w (.cells #[.bool false,.int .i64 0,.int .i64 0] 46 (0,0)))
        have HX:=hid ((Ext.refl w).alloc (.cells #[.bool false,.int .i64 0,.int .i64 0] 46 (0,0)))
        (rintro e' wn ⟨rfl,hx1⟩;replace HBX:=hid (hx1.keep HBX.out);replace HX:=hid (HX.out.trans hx1);(try clear f0 f1 f2);have f0:=zaa HBX.out 0;have f1:=zaa HBX.out 1;have f2:=zaa HBX.out 2;clear hx1)
        go_wp2_with (first|(refine zai rfl _ _ _ rfl _ _ _ _ rfl rfl HBX.out rfl zaE (by simp [Value.oneCell']) ?_;rintro wx hbx hcx;replace HBX:=hid hbx;replace HX:=hid (HX.out.stored hcx (Nat.le_refl _));(try clear f0 f1 f2);have f0:=zaa hbx 0;have f1:=zaa hbx 1;have f2:=zaa hbx 2;clear hbx hcx))
        refine (zaB _ a1 n1 c1 (l.drop k) (HSL.out.src.ext HX.out) HSL.out.few (HG.out.ext HX.out)).mono ?_
        rw [HV2.out]
        (rintro e' wn ⟨rfl,hx1⟩;replace HBX:=hid (hx1.keep HBX.out);replace HX:=hid (HX.out.trans hx1);(try clear f0 f1 f2);have f0:=zaa HBX.out 0;have f1:=zaa HBX.out 1;have f2:=zaa HBX.out 2;clear hx1)
        go_wp2_with (first|(refine zai rfl _ _ _ rfl _ _ _ _ rfl rfl HBX.out rfl zaE (by simp [Value.oneCell']) ?_;rintro wx hbx hcx;replace HBX:=hid hbx;replace HX:=hid (HX.out.stored hcx (Nat.le_refl _));(try clear f0 f1 f2);have f0:=zaa hbx 0;have f1:=zaa hbx 1;have f2:=zaa hbx 2;clear hbx hcx)))
      refine yaE (zaM Tryz.results172 _ _ rfl HBX.out Tryz.underlying46 rfl zaE) rfl ⟨?_,HX.out⟩
      rw [HR2.out]
      rfl
  ·as_aux_lemma =>
    obtain ⟨rfl,rfl⟩:=HZ.out hy
    have HR2:Hid (markR l=markE y):=hid (by rw [HR1.out,HC.out,if_pos hy])
    have hye:(y==0)=false:=by simp [hy]
    have hyn:(y != 0)=true:=by simp [hy]
    clear HR1 HC HZ hy
    (
      go_enter Tryz.func172,Tryz.ntmps172
      go_wp2_with fail
      refine (zaB _ a n c l (HL.out.src.ext ((Ext.refl w).alloc _)) HL.out.few (HG.out.ext ((Ext.refl w).alloc _))).mono ?_
      rw [HV.out]
      have HBX:=hid (heap_alloc_new w (.cells #[.bool false,.int .i64 0,.int .i64 0] 46 (0,0)))
      have HX:=hid ((Ext.refl w).alloc (.cells #[.bool false,.int .i64 0,.int .i64 0] 46 (0,0)))
      (rintro e' wn ⟨rfl,hx1⟩;replace HBX:=hid (hx1.keep HBX.out);replace HX:=hid (HX.out.trans hx1);(try clear f0 f1 f2);have f0:=zaa HBX.out 0;have f1:=zaa HBX.out 1;have f2:=zaa HBX.out 2;clear hx1)
      go_wp2_with (first|(refine zai rfl _ _ _ rfl _ _ _ _ rfl rfl HBX.out rfl zaE (by simp [Value.oneCell']) ?_;rintro wx hbx hcx;replace HBX:=hid hbx;replace HX:=hid (HX.out.stored hcx (Nat.le_refl _));(try clear f0 f1 f2);have f0:=zaa hbx 0;have f1:=zaa hbx 1;have f2:=zaa hbx 2;clear hbx hcx))
      refine (zaB _ a1 n1 c1 (l.drop k) (HSL.out.src.ext HX.out) HSL.out.few (HG.out.ext HX.out)).mono ?_
      rw [HV2.out]
      (rintro e' wn ⟨rfl,hx1⟩;replace HBX:=hid (hx1.keep HBX.out);replace HX:=hid (HX.out.trans hx1);(try clear f0 f1 f2);have f0:=zaa HBX.out 0;have f1:=zaa HBX.out 1;have f2:=zaa HBX.out 2;clear hx1)
      go_wp2_with (first|(refine zai rfl _ _ _ rfl _ _ _ _ rfl rfl HBX.out rfl zaE (by simp [Value.oneCell']) ?_;rintro wx hbx hcx;replace HBX:=hid hbx;replace HX:=hid (HX.out.stored hcx (Nat.le_refl _));(try clear f0 f1 f2);have f0:=zaa hbx 0;have f1:=zaa hbx 1;have f2:=zaa hbx 2;clear hbx hcx)))
    refine yaE (zaM Tryz.results172 _ _ rfl HBX.out Tryz.underlying46 rfl zaE) rfl ⟨?_,HX.out⟩
    rw [HR2.out]
    rfl
 ·as_aux_lemma =>
   have HR2:Hid (markR l=markE x):=hid (by rw [HR.out,if_pos hx])
   have hne:(x != 0)=true:=by simp [hx]
   clear HR hx
   go_enter Tryz.func172,Tryz.ntmps172
   go_wp2_with fail
   refine (zaB _ a n c l (HL.out.src.ext ((Ext.refl w).alloc _)) HL.out.few (HG.out.ext ((Ext.refl w).alloc _))).mono ?_
   rw [HV.out]
   rintro e' w1 ⟨rfl,hx1⟩
   have HBX:=hid hx1.newBlock
   have HX:=hid (((Ext.refl w).alloc _).trans hx1)
   clear hx1
   go_wp2_with (first|(refine zai rfl _ _ _ rfl _ _ _ _ rfl rfl HBX.out rfl zaE (by simp [Value.oneCell']) ?_;rintro wx hbx hcx;replace HBX:=hid hbx;replace HX:=hid (HX.out.stored hcx (Nat.le_refl _));(try clear f0 f1 f2);have f0:=zaa hbx 0;have f1:=zaa hbx 1;have f2:=zaa hbx 2;clear hbx hcx))
   rw [HR2.out]
   exact yaE (zaM Tryz.results172 _ _ rfl HBX.out Tryz.underlying46 rfl zaE) rfl ⟨rfl,HX.out⟩
structure Fl where
 nm:ByteArray
 a:Int
 b:Int
 k:Int
structure Tr where
 w:Int
 o:Int
 u:Int
 m:Bool
 f:ByteArray
def Fl.cells (p:Fl):List Value:=[.string p.nm,.int .i64 p.a,.int .i64 p.b,.int .i64 p.k]
def Tr.cells (p:Tr):List Value:=[.int .i64 p.w,.int .i64 p.o,.int .i64 p.u,.bool p.m,.string p.f]
abbrev Fl.val (p:Fl):Value:=.agg #[.string p.nm,.int .i64 p.a,.int .i64 p.b,.int .i64 p.k]
abbrev Tr.val (p:Tr):Value:=.agg #[.int .i64 p.w,.int .i64 p.o,.int .i64 p.u,.bool p.m,.string p.f]
def fls (l:List Fl):List Value:=l.flatMap Fl.cells
def trs (l:List Tr):List Value:=l.flatMap Tr.cells
theorem fls_len (l:List Fl):(fls l).length=l.length*4:=by
 induction l with
 | nil=>rfl
 | cons p l ih=>simp [fls,Fl.cells] at ih ⊢;omega
theorem trs_len (l:List Tr):(trs l).length=l.length*5:=by
 induction l with
 | nil=>rfl
 | cons p l ih=>simp [trs,Tr.cells] at ih ⊢;omega
theorem fls_one (l:List Fl):∀u∈fls l,u.oneCell'=true:=by
 intro u hu
 simp only [fls,List.mem_flatMap,Fl.cells] at hu
 obtain ⟨p,_,hu⟩:=hu
 simp at hu
 rcases hu with rfl|rfl|rfl|rfl<;>rfl
theorem trs_one (l:List Tr):∀u∈trs l,u.oneCell'=true:=by
 intro u hu
 simp only [trs,List.mem_flatMap,Tr.cells] at hu
 obtain ⟨p,_,hu⟩:=hu
 simp at hu
 rcases hu with rfl|rfl|rfl|rfl|rfl<;>rfl
theorem fls_append (a b:List Fl):fls (a++b)=fls a++fls b:=by simp [fls]
theorem trs_append (a b:List Tr):trs (a++b)=trs a++trs b:=by simp [trs]
theorem fls_at (l:List Fl) (k:Nat) (p:Fl) (h:l[k]?=some p):(fls l)[k*4]?=some (.string p.nm)∧(fls l)[k*4+1]?=some (.int .i64 p.a)∧(fls l)[k*4+2]?=some (.int .i64 p.b)∧(fls l)[k*4+3]?=some (.int .i64 p.k):=by
 induction l generalizing k with
 | nil=>simp at h
 | cons q l ih =>
  cases k with
  | zero=>simp at h;subst h;simp [fls,Fl.cells]
  | succ k =>
   simp at h
   have:=ih k h
   rw [show (k+1)*4=k*4+4 by omega]
   simpa [fls,Fl.cells] using this
theorem trs_at (l:List Tr) (k:Nat) (p:Tr) (h:l[k]?=some p):(trs l)[k*5]?=some (.int .i64 p.w)∧(trs l)[k*5+1]?=some (.int .i64 p.o)∧(trs l)[k*5+2]?=some (.int .i64 p.u)∧(trs l)[k*5+3]?=some (.bool p.m)∧(trs l)[k*5+4]?=some (.string p.f):=by
 induction l generalizing k with
 | nil=>simp at h
 | cons q l ih =>
  cases k with
  | zero=>simp at h;subst h;simp [trs,Tr.cells]
  | succ k =>
   simp at h
   have:=ih k h
   rw [show (k+1)*5=k*5+5 by omega]
   simpa [trs,Tr.cells] using this
theorem fls_src {w:World}{a:Option Addr}{n c:Nat}{l:List Fl}(h:Src w 4 (.slice a n c) n (fls l)) {k:Nat}(hk:k<n) :
 ∃b off p,a=some ⟨b,off,none⟩∧l[k]?=some p∧w.cell? ⟨b,off+k*4,none⟩=some (.string p.nm)∧w.cell? ⟨b,off+k*4+1,none⟩=some (.int .i64 p.a)∧w.cell? ⟨b,off+k*4+2,none⟩=some (.int .i64 p.b)∧w.cell? ⟨b,off+k*4+3,none⟩=some (.int .i64 p.k):=by
 rcases h with ⟨_,h,_⟩|⟨ad,c',h,hl,h2,_⟩
 ·omega
 ·simp at h
  obtain ⟨rfl,rfl⟩:=h
  rw [fls_len] at hl
  have hkl:k<l.length:=by omega
  obtain ⟨e0,e1,e2,e3⟩:=fls_at l k l[k] (yac hkl)
  have c0:=h2 _ _ e0
  have c1:=h2 _ _ e1
  have c2:=h2 _ _ e2
  have c3:=h2 _ _ e3
  obtain ⟨b,off,spot⟩:=ad
  have hz:=h2 0 _ (fls_at l 0 _ (yac (show 0<l.length by omega))).1
  have hspot:spot=none:=by simpa [Addr.add] using World.cell?_spot hz
  subst hspot
  rw [yak] at c0 c1 c2 c3
  exact ⟨b,off,l[k],rfl,yac hkl,c0,c1,c2,c3⟩
theorem trs_src {w:World}{a:Option Addr}{n c:Nat}{l:List Tr}(h:Src w 5 (.slice a n c) n (trs l)) {k:Nat}(hk:k<n) :
 ∃b off p,a=some ⟨b,off,none⟩∧l[k]?=some p∧w.cell? ⟨b,off+k*5,none⟩=some (.int .i64 p.w)∧w.cell? ⟨b,off+k*5+1,none⟩=some (.int .i64 p.o)∧w.cell? ⟨b,off+k*5+2,none⟩=some (.int .i64 p.u)∧w.cell? ⟨b,off+k*5+3,none⟩=some (.bool p.m)∧w.cell? ⟨b,off+k*5+4,none⟩=some (.string p.f):=by
 rcases h with ⟨_,h,_⟩|⟨ad,c',h,hl,h2,_⟩
 ·omega
 ·simp at h
  obtain ⟨rfl,rfl⟩:=h
  rw [trs_len] at hl
  have hkl:k<l.length:=by omega
  obtain ⟨e0,e1,e2,e3,e4⟩:=trs_at l k l[k] (yac hkl)
  have c0:=h2 _ _ e0
  have c1:=h2 _ _ e1
  have c2:=h2 _ _ e2
  have c3:=h2 _ _ e3
  have c4:=h2 _ _ e4
  obtain ⟨b,off,spot⟩:=ad
  have hz:=h2 0 _ (trs_at l 0 _ (yac (show 0<l.length by omega))).1
  have hspot:spot=none:=by simpa [Addr.add] using World.cell?_spot hz
  subst hspot
  rw [yak] at c0 c1 c2 c3 c4
  exact ⟨b,off,l[k],rfl,yac hkl,c0,c1,c2,c3,c4⟩
theorem zbA {w:World}{v:Value}{n:Nat}{l:List Fl}(h:Src w 4 v n (fls l)):l.length=n:=by
 rcases h with ⟨_,rfl,h⟩|⟨_,_,_,h,_⟩
 ·have:=fls_len l;rw [h] at this;simp at this;omega
 ·rw [fls_len] at h;omega
theorem zbm {w:World}{v:Value}{n:Nat}{l:List Tr}(h:Src w 5 v n (trs l)):l.length=n:=by
 rcases h with ⟨_,rfl,h⟩|⟨_,_,_,h,_⟩
 ·have:=trs_len l;rw [h] at this;simp at this;omega
 ·rw [trs_len] at h;omega
theorem zdT (b:ByteArray):b.toList=[]↔b.size=0:=by
 rw [ByteArray.toList_eq]
 constructor
 ·intro h
  have:=congrArg List.length h
  simpa using this
 ·intro h
  have:b.data.toList.length=0:=by simpa using h
  exact List.eq_nil_of_length_eq_zero this
def nmB (s:ByteArray):Bool:=decide (1≤s.size)&&decide (s.size≤64)
def inB (z lo hi:Int):Bool:=decide (lo≤z)&&decide (z≤hi)
def z60 (z:Int):Bool:=inB z 0 1152921504606846976
def flR (p:Fl):Bool:=nmB p.nm&&tmB p.a&&tmB p.b&&decide (p.a≤p.b)&&decide (0<p.k)&&z60 p.k
def trR (p:Tr):Bool:=(decide (1≤p.w)&&decide (p.w≤1099511627776)&&decide (0≤p.o)&&decide (p.o<p.w))&&(if p.m then nmB p.f&&tmB p.u else decide (p.u=0)&&decide (p.f.size=0))
theorem manTime_any (z:Int) (w:World) :
 Calls Tryz.prog 219 #[.int .i64 z] w fun e w'=>e=.returned (.bool (tmB z))∧w=w':=by
 by_cases h0:-1152921504606846976≤z
 ·by_cases h1:z≤1152921504606846976
  ·have HF:Hid (tmB z=true):=hid (by simp [tmB,h0,h1])
   go_enter Tryz.func219,Tryz.ntmps219
   go_wp2_with fail
   go_ret
   rw [HF.out]
   exact ⟨rfl,rfl⟩
  ·have HF:Hid (tmB z=false):=hid (by simp [tmB,h1])
   go_enter Tryz.func219,Tryz.ntmps219
   go_wp2_with fail
   go_ret
   rw [HF.out]
   exact ⟨rfl,rfl⟩
 ·have HF:Hid (tmB z=false):=hid (by simp [tmB,h0])
  go_enter Tryz.func219,Tryz.ntmps219
  go_wp2_with fail
  go_ret
  rw [HF.out]
  exact ⟨rfl,rfl⟩
theorem manName_any (s:ByteArray) (w:World) :
 Calls Tryz.prog 218 #[.string s] w fun e w'=>e=.returned (.bool (nmB s))∧w=w':=by
 have HF:Hid (nmB s=(decide (1≤s.size)&&decide (s.size≤64))):=hid rfl
 generalize nmB s=R at *
 by_cases h0:s.toList=[]
 ·have hR:Hid (R=false):=hid (by have:=(zdT s).mp h0;rw [HF.out];simp;omega)
  clear HF
  go_enter Tryz.func218,Tryz.ntmps218
  go_wp2_with fail
  go_ret
  rw [hR.out]
  exact ⟨rfl,rfl⟩
 ·have hs:Hid (¬s.size=0):=hid (fun h=>h0 ((zdT s).mpr h))
  have hie:s.toList.isEmpty=false:=by simpa using h0
  by_cases h1:(s.size:Int)≤64
  ·have hR:Hid (R=true):=hid (by have:=hs.out;rw [HF.out];simp;omega)
   clear HF
   go_enter Tryz.func218,Tryz.ntmps218
   go_wp2_with fail
   go_ret
   rw [hR.out]
   exact ⟨rfl,rfl⟩
  ·have hR:Hid (R=false):=hid (by have:=hs.out;rw [HF.out];simp;omega)
   clear HF
   go_enter Tryz.func218,Tryz.ntmps218
   go_wp2_with fail
   go_ret
   rw [hR.out]
   exact ⟨rfl,rfl⟩
def allZ (l:List Int):Bool:=l.all z60
theorem allZ_not {l:List Int}{k:Nat}{z:Int}(h:l[k]?=some z) (hz:z60 z=false):allZ l=false:=by
 unfold allZ
 rw [List.all_eq_false]
 exact ⟨z,yag h,by simp [hz]⟩
theorem allZ_all {l:List Int}(h:∀(k:Nat) (z:Int),l[k]?=some z→z60 z=true):allZ l=true:=by
 unfold allZ
 rw [yaV]
 intro z hz
 obtain ⟨k,hk⟩:=List.getElem?_of_mem hz
 exact h k z hk
theorem from0_any (w:World) (a:Option Addr) (n c:Nat) (l:List Int) (hl:Src w 1 (.slice a n c) n (zints l)) (hn:n<4611686018427387904) :
 Calls Tryz.prog 175 #[.slice a n c] w fun e w'=>e=.returned (.bool (allZ l))∧w=w':=by
 have HL:=hid hl
 have HLN:=hid (zdJ hl)
 clear hl
 go_enter Tryz.func175,Tryz.ntmps175
 go_wp2_with fail
 go_loopw [7] (fun i wr=>∃k:Nat,k≤n∧i=.int .i64 k∧w=wr∧Hid (∀(j:Nat) (z:Int),j<k→l[j]?=some z→z60 z=true)) (fun i _=>n-(RowKit.intOf i).toNat)
 case atStart=>exact ⟨0,by omega,rfl,rfl,hid (fun j z hj=>by omega)⟩
 case round =>
  obtain ⟨k,hk,rfl,rfl,HK⟩:=hrel
  by_cases hlt:k<n
  ·obtain ⟨b,off,z,rfl,hz,c0⟩:=zcZ HL.out hlt
   by_cases h0:z<0
   ·have hR:Hid (allZ l=false):=hid (allZ_not hz (by simp [z60,inB];omega))
    clear hz
    go_wp2_with fail
    go_ret
    rw [hR.out]
    exact ⟨rfl,rfl⟩
   ·by_cases h1:1152921504606846976<z
    ·have hR:Hid (allZ l=false):=hid (allZ_not hz (by simp [z60,inB];omega))
     clear hz
     go_wp2_with fail
     go_ret
     rw [hR.out]
     exact ⟨rfl,rfl⟩
    ·have hK':Hid (∀(j:Nat) (z:Int),j<k+1→l[j]?=some z→z60 z=true):=hid (fun j y hj hy=>by
      by_cases e:j=k
      ·subst e;rw [hz] at hy;cases hy;simp [z60,inB];omega
      ·exact HK.out j y (by omega) hy)
     clear hz
     go_wp2_with fail
     go_roundw
     case rel=>exact ⟨k+1,by omega,by go_num,(by first|rfl|trivial),hK'⟩
     case measure=>simp [RowKit.intOf];omega
  ·obtain rfl:k=n:=by omega
   have hR:Hid (allZ l=true):=hid (allZ_all (fun j z hz=>HK.out j z (by
    have h1:=HLN.out
    have h2:j<l.length:=by
     by_cases h:j<l.length
     ·exact h
     ·rw [List.getElem?_eq_none (by omega)] at hz;cases hz
    omega) hz))
   clear HK
   go_wp2_with fail
   go_ret
   rw [hR.out]
   exact ⟨rfl,rfl⟩
theorem src_z1 {W:World}{b:Nat}{z:Int}{t:TypeId}{fr:Nat×Nat}(h:W.heap[b]?=some (.cells #[.int .i64 z] t fr)):Src W 1 (.slice (some ⟨b,0,none⟩) 1 1) 1 (zints [z]):=by
 refine .inr ⟨_,_,rfl,rfl,fun j u hj=>?_,fun u hu=>by simp [zints] at hu;subst hu;rfl⟩
 rw [yak,Nat.zero_add,zaa h]
 simpa [zints] using hj
theorem fileRight_any (p:Fl) (w:World) :
 Calls Tryz.prog 176 #[p.val] w fun e w'=>e=.returned (.bool (flR p))∧Ext w w':=by
 obtain ⟨nm,a,b,k⟩:=p
 have HF:Hid (flR ⟨nm,a,b,k⟩=(nmB nm&&tmB a&&tmB b&&decide (a≤b)&&decide (0<k)&&z60 k)):=hid rfl
 have HZ:Hid (allZ [k]=z60 k):=hid (by simp [allZ])
 generalize flR ⟨nm,a,b,k⟩=R at *
 have H0:=hid (fun w=>from0_any w)
 have HN:=hid (fun w=>manName_any nm w)
 have HA:=hid (fun w=>manTime_any a w)
 have HB:=hid (fun w=>manTime_any b w)
 generalize nmB nm=cn at *
 generalize tmB a=ca at *
 generalize tmB b=cb at *
 generalize z60 k=ck at *
 cases cn
 ·as_aux_lemma =>
   have hR:Hid (R=false):=hid (by rw [HF.out];simp)
   clear HF
   go_enter Tryz.func176,Tryz.ntmps176
   go_wp2_with fail
   refine (HN.out _).mono ?_
   rintro e w' ⟨rfl,rfl⟩
   go_wp2_with fail
   go_ret
   rw [hR.out]
   exact ⟨rfl,(Ext.refl _).alloc _⟩
 ·cases ca
  ·as_aux_lemma =>
    have hR:Hid (R=false):=hid (by rw [HF.out];simp)
    clear HF
    go_enter Tryz.func176,Tryz.ntmps176
    go_wp2_with fail
    refine (HN.out _).mono ?_
    rintro e w' ⟨rfl,rfl⟩
    go_wp2_with fail
    refine (HA.out _).mono ?_
    rintro e w' ⟨rfl,rfl⟩
    go_wp2_with fail
    go_ret
    rw [hR.out]
    exact ⟨rfl,(Ext.refl _).alloc _⟩
  ·cases cb
   ·as_aux_lemma =>
     have hR:Hid (R=false):=hid (by rw [HF.out];simp)
     clear HF
     go_enter Tryz.func176,Tryz.ntmps176
     go_wp2_with fail
     refine (HN.out _).mono ?_
     rintro e w' ⟨rfl,rfl⟩
     go_wp2_with fail
     refine (HA.out _).mono ?_
     rintro e w' ⟨rfl,rfl⟩
     go_wp2_with fail
     refine (HB.out _).mono ?_
     rintro e w' ⟨rfl,rfl⟩
     go_wp2_with fail
     go_ret
     rw [hR.out]
     exact ⟨rfl,(Ext.refl _).alloc _⟩
   ·by_cases hab:a≤b
    ·by_cases hk:0<k
     ·have H1:=hid (fun (w:World) (b:Nat) (h:w.heap[b]?=some (Obj.cells #[.int .i64 k] 3 (0,0)))=>H0.out w _ 1 1 [k] (src_z1 h) (by decide))
      rw [HZ.out] at H1
      clear H0 HZ
      cases ck
      ·as_aux_lemma =>
        have hR:Hid (R=false):=hid (by rw [HF.out];simp)
        clear HF
        go_enter Tryz.func176,Tryz.ntmps176
        go_wp2_with fail
        refine (HN.out _).mono ?_
        rintro e w' ⟨rfl,rfl⟩
        go_wp2_with fail
        refine (HA.out _).mono ?_
        rintro e w' ⟨rfl,rfl⟩
        go_wp2_with fail
        refine (HB.out _).mono ?_
        rintro e w' ⟨rfl,rfl⟩
        go_wp2_with fail
        refine (H1.out _ _ (zaF w _ _)).mono ?_
        rintro e w' ⟨rfl,rfl⟩
        go_wp2_with fail
        go_ret
        rw [hR.out]
        exact ⟨rfl,((Ext.refl _).alloc _).alloc _⟩
      ·as_aux_lemma =>
        have hR:Hid (R=true):=hid (by rw [HF.out];simp [hab,hk])
        clear HF
        go_enter Tryz.func176,Tryz.ntmps176
        go_wp2_with fail
        refine (HN.out _).mono ?_
        rintro e w' ⟨rfl,rfl⟩
        go_wp2_with fail
        refine (HA.out _).mono ?_
        rintro e w' ⟨rfl,rfl⟩
        go_wp2_with fail
        refine (HB.out _).mono ?_
        rintro e w' ⟨rfl,rfl⟩
        go_wp2_with fail
        refine (H1.out _ _ (zaF w _ _)).mono ?_
        rintro e w' ⟨rfl,rfl⟩
        go_wp2_with fail
        go_ret
        rw [hR.out]
        exact ⟨rfl,((Ext.refl _).alloc _).alloc _⟩
     ·as_aux_lemma =>
       have hR:Hid (R=false):=hid (by rw [HF.out];simp [hk])
       clear HF
       go_enter Tryz.func176,Tryz.ntmps176
       go_wp2_with fail
       refine (HN.out _).mono ?_
       rintro e w' ⟨rfl,rfl⟩
       go_wp2_with fail
       refine (HA.out _).mono ?_
       rintro e w' ⟨rfl,rfl⟩
       go_wp2_with fail
       refine (HB.out _).mono ?_
       rintro e w' ⟨rfl,rfl⟩
       go_wp2_with fail
       go_ret
       rw [hR.out]
       exact ⟨rfl,(Ext.refl _).alloc _⟩
    ·as_aux_lemma =>
      have hR:Hid (R=false):=hid (by rw [HF.out];simp [hab])
      clear HF
      go_enter Tryz.func176,Tryz.ntmps176
      go_wp2_with fail
      refine (HN.out _).mono ?_
      rintro e w' ⟨rfl,rfl⟩
      go_wp2_with fail
      refine (HA.out _).mono ?_
      rintro e w' ⟨rfl,rfl⟩
      go_wp2_with fail
      refine (HB.out _).mono ?_
      rintro e w' ⟨rfl,rfl⟩
      go_wp2_with fail
      go_ret
      rw [hR.out]
      exact ⟨rfl,(Ext.refl _).alloc _⟩
theorem tierRight_any (p:Tr) (w:World) :
 Calls Tryz.prog 177 #[p.val] w fun e w'=>e=.returned (.bool (trR p))∧Ext w w':=by
 obtain ⟨d,q,u,m,f⟩:=p
 have HF:Hid (trR ⟨d,q,u,m,f⟩=((decide (1≤d)&&decide (d≤1099511627776)&&decide (0≤q)&&decide (q<d))&&(if m then nmB f&&tmB u else decide (u=0)&&decide (f.size=0)))):=hid rfl
 generalize trR ⟨d,q,u,m,f⟩=R at *
 have HN:=hid (fun w=>manName_any f w)
 have HU:=hid (fun w=>manTime_any u w)
 generalize nmB f=cn at *
 generalize tmB u=cu at *
 by_cases h1:d<1
 ·as_aux_lemma =>
   have hR:Hid (R=false):=hid (by rw [HF.out];have:¬1≤d:=(by omega);simp [this])
   clear HF
   go_enter Tryz.func177,Tryz.ntmps177
   go_wp2_with fail
   go_ret
   rw [hR.out]
   exact ⟨rfl,(Ext.refl _).alloc _⟩
 ·by_cases h2:1099511627776<d
  ·as_aux_lemma =>
    have hR:Hid (R=false):=hid (by rw [HF.out];have:¬d≤1099511627776:=(by omega);simp [this])
    clear HF
    go_enter Tryz.func177,Tryz.ntmps177
    go_wp2_with fail
    go_ret
    rw [hR.out]
    exact ⟨rfl,(Ext.refl _).alloc _⟩
  ·by_cases h3:q<0
   ·as_aux_lemma =>
     have hR:Hid (R=false):=hid (by rw [HF.out];have:¬0≤q:=(by omega);simp [this])
     clear HF
     go_enter Tryz.func177,Tryz.ntmps177
     go_wp2_with fail
     go_ret
     rw [hR.out]
     exact ⟨rfl,(Ext.refl _).alloc _⟩
   ·by_cases h4:d≤q
    ·as_aux_lemma =>
      have hR:Hid (R=false):=hid (by rw [HF.out];have:¬q<d:=(by omega);simp [this])
      clear HF
      go_enter Tryz.func177,Tryz.ntmps177
      go_wp2_with fail
      go_ret
      rw [hR.out]
      exact ⟨rfl,(Ext.refl _).alloc _⟩
    ·have HG:Hid ((decide (1≤d)&&decide (d≤1099511627776)&&decide (0≤q)&&decide (q<d))=true):=hid (by simp;omega)
     rw [HG.out,Bool.true_and] at HF
     clear HG
     cases m
     ·by_cases hu:u=0
      ·have hue:(u==0)=true:=by simp [hu]
       by_cases hf:f.toList=[]
       ·as_aux_lemma =>
         have hR:Hid (R=true):=hid (by rw [HF.out];have:=(zdT f).mp hf;simp [hu,this])
         clear HF
         go_enter Tryz.func177,Tryz.ntmps177
         go_wp2_with fail
         go_ret
         rw [hR.out]
         exact ⟨rfl,((Ext.refl _).alloc _).alloc _⟩
       ·as_aux_lemma =>
         have hR:Hid (R=false):=hid (by rw [HF.out];have:¬f.size=0:=fun h=>hf ((zdT f).mpr h);simp [this])
         clear HF
         go_enter Tryz.func177,Tryz.ntmps177
         go_wp2_with fail
         go_ret
         rw [hR.out]
         exact ⟨rfl,((Ext.refl _).alloc _).alloc _⟩
      ·have hue:(u==0)=false:=by simp [hu]
       ·as_aux_lemma =>
         have hR:Hid (R=false):=hid (by rw [HF.out];simp [hu])
         clear HF
         go_enter Tryz.func177,Tryz.ntmps177
         go_wp2_with fail
         go_ret
         rw [hR.out]
         exact ⟨rfl,((Ext.refl _).alloc _).alloc _⟩
     ·cases cn
      ·as_aux_lemma =>
        have hR:Hid (R=false):=hid (by rw [HF.out];simp)
        clear HF
        go_enter Tryz.func177,Tryz.ntmps177
        go_wp2_with fail
        refine (HN.out _).mono ?_
        rintro e w' ⟨rfl,rfl⟩
        go_wp2_with fail
        go_ret
        rw [hR.out]
        exact ⟨rfl,((Ext.refl _).alloc _).alloc _⟩
      ·cases cu
       ·as_aux_lemma =>
         have hR:Hid (R=false):=hid (by rw [HF.out];simp)
         clear HF
         go_enter Tryz.func177,Tryz.ntmps177
         go_wp2_with fail
         refine (HN.out _).mono ?_
         rintro e w' ⟨rfl,rfl⟩
         go_wp2_with fail
         refine (HU.out _).mono ?_
         rintro e w' ⟨rfl,rfl⟩
         go_wp2_with fail
         go_ret
         rw [hR.out]
         exact ⟨rfl,((Ext.refl _).alloc _).alloc _⟩
       ·as_aux_lemma =>
         have hR:Hid (R=true):=hid (by rw [HF.out];simp)
         clear HF
         go_enter Tryz.func177,Tryz.ntmps177
         go_wp2_with fail
         refine (HN.out _).mono ?_
         rintro e w' ⟨rfl,rfl⟩
         go_wp2_with fail
         refine (HU.out _).mono ?_
         rintro e w' ⟨rfl,rfl⟩
         go_wp2_with fail
         go_ret
         rw [hR.out]
         exact ⟨rfl,((Ext.refl _).alloc _).alloc _⟩
theorem i64n_u64n {g:Int}(h0:-9223372036854775808≤g) (h1:g≤9223372036854775807):i64n (u64n g)=g:=by
 unfold i64n u64n wrap64
 omega
theorem varR_one (u:Nat) (hu:u<2 ^ 64):varR (varP u)=(u,(varP u).length,0):=by
 have:=zbu hu []
 simpa using this
theorem mark_back (m:Mk) (hm:m.ok):((markR (markP m)).2.2=0∧(markR (markP m)).1=m)↔mkR m=true:=by
 obtain ⟨s,t,g⟩:=m
 have hg:=i64n_u64n hm.g0 hm.g1
 have hz:=zeb hm.t0 hm.t1
 simp only at hg hz
 cases s
 ·have e1:markR (markP ⟨false,t,g⟩)=zcf ⟨false,0,g⟩ ((varP (u64n g)).length+(varP 0).length):=by
   unfold markR markP
   rw [zbu (zbF g)]
   simp only [ne_eq,not_true,if_false,hg]
   unfold markC
   simp only [Bool.false_eq_true,if_false,List.drop_left']
   rw [varR_one 0 (by decide)]
   simp
  rw [e1]
  unfold zcf
  split
  ·rename_i h
   have:mkR ⟨false,t,g⟩=true↔t=0:=by
    simp [mkR] at h ⊢
    rintro rfl;exact h
   rw [this]
   constructor
   ·rintro ⟨_,h⟩;exact ((Mk.mk.injEq ..).mp h).2.1.symm
   ·rintro rfl;exact ⟨rfl,rfl⟩
  ·rename_i h
   constructor
   ·rintro ⟨h,_⟩;simp [markE] at h
   ·intro h2
    exfalso
    apply h
    simp [mkR] at h2 ⊢
    obtain ⟨h3,rfl⟩:=h2
    exact h3
 ·have e1:markR (markP ⟨true,t,g⟩)=zcf ⟨true,t,g⟩ ((varP (u64n g)).length+(varP 1).length+(varP (zig t)).length):=by
   unfold markR markP
   rw [zbu (zbF g)]
   simp only [ne_eq,not_true,if_false,hg]
   unfold markC
   simp only [if_true,List.drop_left']
   rw [zbu (by decide)]
   simp only [ne_eq,not_true,if_false,if_true,Nat.one_ne_zero]
   unfold markD
   rw [←yaj,List.drop_left' (by rw [yae]),varR_one _ hz]
   simp only [ne_eq,not_true,if_false,zag_zig]
  rw [e1]
  unfold zcf
  split
  ·rename_i h;simp [h]
  ·rename_i h;simp [h,markE]
def headL (k:UInt8) (l:List UInt8):List UInt8:=k::(le4 l.length++l)
def sealL (k:UInt8) (l:List UInt8):List UInt8:=headL k l++le4 (csum (headL k l))
theorem le4_len (u:Nat):(le4 u).length=4:=rfl
theorem headL_len (k:UInt8) (l:List UInt8):(headL k l).length=l.length+5:=by simp [headL,le4_len];omega
theorem zbh (k:UInt8) (l:List UInt8):(sealL k l).length=l.length+9:=by simp [sealL,headL_len,le4_len]
theorem src_four {W:World}{b u:Nat}{t:TypeId}(h:W.heap[b]?=some (.cells (four4 u) t (0,0))):Src W 1 (.slice (some ⟨b,0,none⟩) 4 4) 4 (u8s (le4 u)):=by
 refine .inr ⟨_,_,rfl,rfl,fun j u hj=>?_,zaH _⟩
 rw [yak,Nat.zero_add,zaa h]
 rw [←four4_u8s] at hj
 simpa using hj
def SealPost (w:World) (k:UInt8) (l:List UInt8) (e:Ending) (w':World):Prop:=∃a c,e=.returned (.tuple #[.slice a (sealL k l).length c,.int .i64 0])∧MadeTo w 5 1 (.slice a (sealL k l).length c) (sealL k l).length (u8s (sealL k l)) w'
theorem seal_any (w:World) (k:UInt8) (a:Option Addr) (n c:Nat) (l:List UInt8) (hl:Src w 1 (.slice a n c) n (u8s l)) (hn:n≤1048576) :
 Calls Tryz.prog 96 #[.int .u8 (k.toNat:Int),.slice a n c] w (SealPost w k l):=by
 have HL:=hid hl
 have hlen:=zax hl
 have HN:=hid hlen
 have hnn:¬1048576<n:=by omega
 have hmod:(n:Int)%4294967296=(n:Int):=by omega
 clear hl hlen
 go_enter Tryz.func96,Tryz.ntmps96
 go_wp2_with fail
 clear hmod
 refine (four_any _ n (by omega)).mono ?_
 rintro e w1 ⟨rfl,hx1⟩
 have HX1:=hid hx1
 obtain ⟨q0,q1,q2,q3,hq⟩:∃q0 q1 q2 q3:Int,four4 n=#[.int .u8 q0,.int .u8 q1,.int .u8 q2,.int .u8 q3]:=⟨_,_,_,_,rfl⟩
 rw [hq]
 have HQ:=hid hq
 clear hx1 hq
 go_upto_region 4 with fail
 obtain ⟨bm,hbm⟩:∃bm,bm=w1.heap.size:=⟨_,rfl⟩
 rw [←hbm]
 have HW:Hid (Ext w1 (w1.alloc (.cells #[.int .u8 q0,.int .u8 q1,.int .u8 q2,.int .u8 q3] 270))∧(w1.alloc (.cells #[.int .u8 q0,.int .u8 q1,.int .u8 q2,.int .u8 q3] 270)).heap[bm]?=some (.cells (four4 n) 270 (0,0))):=hid ⟨(Ext.refl _).alloc _,by rw [hbm,HQ.out];exact heap_alloc_new w1 _⟩
 generalize World.alloc _ _=W at *
 obtain ⟨m,hw9⟩:∃m:Nat,(n:Int)+9=(m:Int):=⟨n+9,by omega⟩
 obtain ⟨w3,hmk,hmade⟩:=make_room zcI W m (by omega) (by omega)
 have HMK:=hid hmade
 have HBM:Hid (w3.heap[bm]?=some (.cells (four4 n) 270 (0,0))):=hid ((HMK.out.ext.block (zab HW.out.2)).trans HW.out.2)
 clear hmade hbm
 go_upto_region 5 with (first
  | (at_make;refine wpList_makeS_run rfl _ _ _ rfl _ _ _ w3 rfl rfl hmk ?_;clear hmk hw9)
  | (at_builtin;go_must (refine zah (n:=0) (m:=1) zcI rfl _ _ rfl (v:=.slice _ _ _) rfl rfl (HMK.out.row.ext ((Ext.refl _).alloc _)) (byt_src (x:=k) (heap_alloc_new _ _)) (by unfold maxLen;omega) (by omega) ?_;intro v4 w4 happ);obtain ⟨a4,c4,rfl⟩:=happ.row.shape;have H4:=hid (HMK.out.more ((Ext.refl _).alloc _) happ);have HX4:=hid (((Chg.of_ext (S:=fun b=>W.heap.size≤b) (HMK.out.ext.alloc (.cells #[.int .u8 (k.toNat:Int)] 5 (0,0)))).trans happ.chg (fun i hi e=>HMK.out.own i e)).block bm (zab HW.out.2) (by have:=zab HW.out.2;omega));clear happ))
 have H4':Hid (MadeTo w 5 1 (.slice a4 1 c4) 1 (u8s [k]) w4):=hid (by
  have:=H4.out
  exact MadeTo.trans (HX1.out.trans HW.out.1) this)
 have HB4:Hid (w4.heap[bm]?=some (.cells (four4 n) 270 (0,0))):=hid (HX4.out.trans HW.out.2)
 clear H4 HX4 HMK HW HX1
 go_upto_region 6 with (first
  | (refine zah (n:=1) (m:=4) zcI rfl (.tmp 23) (.tmp 24) rfl rfl rfl H4'.out.row (src_four HB4.out) (by unfold maxLen;omega) (by omega) ?_;intro v5 w5 happ;obtain ⟨a5,c5,rfl⟩:=happ.row.shape;have H5:=hid (H4'.out.more (Ext.refl _) happ);clear happ)
  | (refine zah (n:=1+4) (m:=n) zcI rfl (.tmp 25) (.tmp 26) rfl rfl rfl H5.out.row (HL.out.ext H5.out.ext) (by unfold maxLen;omega) (by omega) ?_;intro v6 w6 happ;obtain ⟨a6,c6,rfl⟩:=happ.row.shape;have H6:=hid (H5.out.more (Ext.refl _) happ);clear happ))
 have HM:Hid (MadeTo w 5 1 (.slice a6 (5+n) c6) (5+n) (u8s (headL k l)) w6):=hid (by
  have:=H6.out
  have e2:headL k l=[k]++le4 n++l:=by rw [headL,HN.out];rfl
  rw [e2,zbE,zbE]
  rw [show 1+4+n=5+n by omega] at this
  exact this)
 clear H6 H5 H4' HB4 HQ
 go_wp2_with fail
 refine (frameSum_any w6 _ _ _ _ (HM.out.row.src (zaH _)) (by omega)).mono ?_
 rintro e w' ⟨rfl,rfl⟩
 have hcl:=csum_lt (headL k l)
 obtain ⟨cs,hcs⟩:∃cs,cs=csum (headL k l):=⟨_,rfl⟩
 rw [←hcs] at hcl ⊢
 have HCS:=hid hcs
 clear hcs
 go_wp2_with fail
 refine (four_any _ cs hcl).mono ?_
 rintro e w7 ⟨rfl,hx7⟩
 have HX7:=hid hx7
 obtain ⟨p0,p1,p2,p3,hq⟩:∃q0 q1 q2 q3:Int,four4 cs=#[.int .u8 q0,.int .u8 q1,.int .u8 q2,.int .u8 q3]:=⟨_,_,_,_,rfl⟩
 rw [hq]
 have HQ:=hid hq
 clear hx7 hq
 go_upto_region 7 with fail
 obtain ⟨bs,hbs⟩:∃bs,bs=w7.heap.size:=⟨_,rfl⟩
 rw [←hbs]
 have HW:Hid (Ext w7 (w7.alloc (.cells #[.int .u8 p0,.int .u8 p1,.int .u8 p2,.int .u8 p3] 270))∧(w7.alloc (.cells #[.int .u8 p0,.int .u8 p1,.int .u8 p2,.int .u8 p3] 270)).heap[bs]?=some (.cells (four4 cs) 270 (0,0))):=hid ⟨(Ext.refl _).alloc _,by rw [hbs,HQ.out];exact heap_alloc_new w7 _⟩
 generalize World.alloc _ _=W8 at *
 clear hbs
 go_wp2_with (refine zah (n:=5+n) (m:=4) zcI rfl (.tmp 31) (.tmp 32) rfl rfl rfl (HM.out.row.ext (HX7.out.trans HW.out.1)) (src_four HW.out.2) (by unfold maxLen;omega) (by omega) ?_;intro v9 w9 happ;obtain ⟨a9,c9,rfl⟩:=happ.row.shape;have H9:=hid (HM.out.more (HX7.out.trans HW.out.1) happ);clear happ)
 go_ret2
 have e:5+n+4=(sealL k l).length:=by rw [zbh,HN.out];omega
 have h5:=H9.out
 rw [←zbE,HCS.out,e] at h5
 exact ⟨a9,c9,by rw [←e];rfl,h5⟩
def lenL (l:List UInt8):Nat:=leN ((l.drop 1).take 4)
def openR (l:List UInt8):UInt8×List UInt8×Int :=
 if l.length<9 then (0,[],10)
 else if 1048576<lenL l then (0,[],3)
 else if l.length<lenL l+9 then (0,[],10)
 else if l.length≠lenL l+9 then (0,[],11)
 else if leN (l.drop (l.length-4))≠csum (l.take (l.length-4)) then (0,[],12)
 else (l.headD 0,(l.drop 5).take (l.length-9),0)
def zeh (w:World) (r:UInt8×List UInt8×Int) (e:Ending) (w':World):Prop :=
 ∃a c,e=.returned (.tuple #[.int .u8 (r.1.toNat:Int),.slice a r.2.1.length c,.int .i64 r.2.2])∧MadeTo w 5 1 (.slice a r.2.1.length c) r.2.1.length (u8s r.2.1) w'
theorem zeh.bad {w w':World}{x:Int}(hx:Ext w w'):zeh w (0,[],x) (.returned (.tuple #[.int .u8 0,.slice none 0 0,.int .i64 x])) w' :=
 ⟨none,0,rfl,Row.nil _ _ _,fun g hg=>by simp [Value.ownBlock] at hg,hx⟩
theorem fr_u8:∀W,(sizeOf 5).run Tryz.prog W=.ok 1 W:=fun _=>by kernel_rfl
theorem lenL_lt (l:List UInt8):lenL l<4294967296:=by
 have h1:=leN_lt ((l.drop 1).take 4)
 have h2:256 ^ ((l.drop 1).take 4).length≤256 ^ 4:=yaQ (by decide) (by rw [yaB];omega)
 unfold lenL
 omega
theorem zdR (l:List UInt8) (k:Nat):(u8s l).take k=u8s (l.take k):=by unfold u8s;rw [List.map_take]
theorem u8s_drop (l:List UInt8) (k:Nat):(u8s l).drop k=u8s (l.drop k):=by unfold u8s;rw [List.map_drop]
def longR (l:List UInt8):Nat×Int :=
 if l.length<9 then (0,10) else if 1048576<lenL l then (0,3) else if l.length<lenL l+9 then (0,10) else (lenL l+9,0)
theorem long_any (w:World) (a:Option Addr) (n c:Nat) (l:List UInt8) (hl:Src w 1 (.slice a n c) n (u8s l)) (hnc:n≤c) (hn:n<4611686018427387904) :
 Calls Tryz.prog 165 #[.slice a n c] w fun e w'=>e=.returned (.tuple #[.int .i64 ((longR l).1:Int),.int .i64 (longR l).2])∧Ext w w':=by
 have HL:=hid hl
 have hlen:=zax hl
 by_cases h9:n<9
 ·have HR:Hid (longR l=(0,10)):=hid (by unfold longR;rw [if_pos (by omega)])
  clear hl hlen
  go_enter Tryz.func165,Tryz.ntmps165
  go_wp2_with fail
  go_ret2
  rw [HR.out]
  exact ⟨rfl,Ext.refl _⟩
 ·have hlt:=lenL_lt l
  have HS:Hid (Src w 1 (.slice (cutA a c 1) 4 (c-1)) 4 (u8s ((l.drop 1).take 4))):=hid (by
   have:=zde (l:=1) (h:=5) (m:=c) hl (by omega) (by omega) (by omega) (by omega)
   rw [u8s_drop,zdR] at this
   exact this)
  have hs1:∀W,(Instr.slice 51 (.slice a n c) (some (.int .i64 1)) (some (.int .i64 5)) none).run Tryz.prog W=.ok (.slice (cutA a c 1) 4 (c-1)) W:=zcG Tryz.underlying51 fr_u8 a n c 1 5 (by omega) (by omega)
  have hs2:∀W,(Instr.sliceAt 51 (.slice a n c) (some (.int .i64 1)) (some (.int .i64 5)) none).run Tryz.prog W=.ok (.slice (cutA a c 1) 4 (c-1)) W:=zcU Tryz.underlying51 fr_u8 a n c 1 5 (by omega) (by omega)
  have hr:longR l=if 1048576<lenL l then (0,3) else if n<lenL l+9 then (0,10) else (lenL l+9,0):=by unfold longR;rw [if_neg (by omega),hlen]
  have hle:leN ((l.drop 1).take 4)=lenL l:=rfl
  have HLI:=hid (fun w' (hx:Ext w w')=>little_any w' _ _ _ (HS.out.ext hx))
  rw [hle] at HLI
  generalize lenL l=m at *
  generalize cutA a c 1=a1 at *
  generalize c-1=c1 at *
  generalize longR l=r at *
  have HR:=hid hr
  clear hl hlen hle HS hr
  go_enter Tryz.func165,Tryz.ntmps165
  go_wp2_with fail
  refine (HLI.out _ (Ext.refl _)).mono ?_
  rintro e w1 ⟨rfl,hx1⟩
  have HX1:=hid hx1
  clear hs1 hs2 hx1 HLI
  by_cases hb:1048576<m
  ·have HR2:=hid (HR.out.trans (if_pos hb))
   go_wp2_with fail
   go_ret2
   rw [HR2.out]
   exact ⟨rfl,HX1.out⟩
  ·by_cases hs:(n:Int)-9<(m:Int)
   ·have HR2:=hid ((HR.out.trans (if_neg hb)).trans (if_pos (by omega)))
    go_wp2_with fail
    go_ret2
    rw [HR2.out]
    exact ⟨rfl,HX1.out⟩
   ·have HR2:=hid ((HR.out.trans (if_neg hb)).trans (if_neg (by omega)))
    go_wp2_with fail
    go_ret2
    rw [HR2.out]
    exact ⟨by simp,HX1.out⟩
def zdc (l:List UInt8):UInt8×List UInt8×Int :=
 if leN (l.drop (l.length-4))≠csum (l.take (l.length-4)) then (0,[],12) else (l.headD 0,(l.drop 5).take (l.length-9),0)
theorem fwithin_any (w:World) (a:Option Addr) (n c:Nat) (l:List UInt8) (hl:Src w 1 (.slice a n c) n (u8s l)) (hnc:n≤c) (h9:9≤n) (hn:n≤1099511627776) :
 Calls Tryz.prog 166 #[.slice a n c] w (zeh w (zdc l)):=by
 have HL:=hid hl
 have hlen:=zax hl
 obtain ⟨m,hm⟩:∃m,n=m+4:=⟨n-4,by omega⟩
 have HR:Hid (zdc l=if leN (l.drop m)≠csum (l.take m) then (0,[],12) else (l.headD 0,(l.drop 5).take (m-5),0)):=hid (by
  unfold zdc
  rw [show l.length-4=m by omega,show l.length-9=m-5 by omega])
 have HS1:Hid (Src w 1 (.slice (cutA a c m) 4 (c-m)) 4 (u8s (l.drop m))):=hid (by
  have:=zde (l:=m) (h:=n) (m:=c) hl (by omega) (by omega) (by omega) (by omega)
  rw [u8s_drop,zdR,show n-m=4 by omega,yai (by simp;omega)] at this
  exact this)
 have HS2:Hid (Src w 1 (.slice (cutA a c 0) m c) m (u8s (l.take m))):=hid (by
  have:=zde (l:=0) (h:=m) (m:=c) hl (by omega) (by omega) (by omega) (by omega)
  rw [u8s_drop,zdR,List.drop_zero,Nat.sub_zero,Nat.sub_zero] at this
  exact this)
 have HS3:Hid (Src w 1 (.slice (cutA a c 5) (m-5) (c-5)) (m-5) (u8s ((l.drop 5).take (m-5)))):=hid (by
  have:=zde (l:=5) (h:=m) (m:=c) hl (by omega) (by omega) (by omega) (by omega)
  rw [u8s_drop,zdR] at this
  exact this)
 have hs1:=run_sliceAt_lo (P:=Tryz.prog) Tryz.underlying51 fr_u8 a n c m (by omega)
 have hs2:=run_sliceAt_hi (P:=Tryz.prog) Tryz.underlying51 fr_u8 a n c m (by omega)
 have hs3:∀W,(Instr.sliceAt 51 (.slice a n c) (some (.int .i64 5)) (some (.int .i64 (m:Int))) none).run Tryz.prog W=.ok (.slice (cutA a c 5) (m-5) (c-5)) W:=zcU Tryz.underlying51 fr_u8 a n c 5 m (by omega) (by omega)
 rw [show n-m=4 by omega] at hs1
 have hsub:(n:Int)-4=(m:Int):=by omega
 obtain ⟨b,off,k,rfl,hk,ck⟩:=byte_src hl (show 0<n by omega)
 have HK:Hid (l.headD 0=k):=hid (by
  cases l with
  | nil=>simp at hk
  | cons x l=>simp at hk ⊢;exact hk)
 rw [Nat.add_zero] at ck
 generalize cutA (some ⟨b,off,none⟩) c m=a1 at *
 generalize cutA (some ⟨b,off,none⟩) c 0=a2 at *
 generalize cutA (some ⟨b,off,none⟩) c 5=a3 at *
 generalize c-m=c1 at *
 generalize c-5=c3 at *
 have hvl:leN (l.drop m)<4294967296:=by
  have h1:=leN_lt (l.drop m)
  have h2:(l.drop m).length=4:=by rw [yaC];omega
  rw [h2] at h1;exact h1
 have HLI:=hid (fun w' (hx:Ext w w')=>little_any w' _ _ _ (HS1.out.ext hx))
 have HSU:=hid (fun w' (hx:Ext w w')=>frameSum_any w' _ _ _ _ (HS2.out.ext hx) (by omega))
 obtain ⟨u,hu⟩:∃u,u=leN (l.drop m):=⟨_,rfl⟩
 obtain ⟨s,hs⟩:∃s,s=csum (l.take m):=⟨_,rfl⟩
 have hsl:s<4294967296:=by rw [hs];exact csum_lt _
 rw [←hu] at HLI HR hvl
 rw [←hs] at HSU HR
 have hmod:(u:Int)%4294967296=(u:Int):=by omega
 have hm5:5≤m:=by omega
 have HLN:Hid (m+4=l.length):=hid (by omega)
 have hmn:m≤1099511627776:=by omega
 clear hl hlen hm hk hu hs HS1 HS2
 go_enter Tryz.func166,Tryz.ntmps166
 go_upto_region 2 with fail
 clear hsub
 refine wp_region_quiet_below (by kernel_rfl) (by kernel_rfl) ?_
 iterate 2 (go_big_quiet_step (fail))
 refine zdK rfl 51 (.tmp 9) (some (.tmp 10)) none rfl _ _ _ _ hs1 rfl rfl rfl ?_
 simp only [Act.put,List.setIfInBounds_toArray,List.set_cons_succ,List.set_cons_zero]
 go_big_quiet_step ((go_at_call 185;exact Calls.grown_of (HLI.out _ (Ext.regrown _ _ _))))
 iterate 3 (go_big_quiet_step (fail))
 refine zdK rfl 51 (.tmp 14) none (some (.tmp 15)) rfl _ _ _ _ hs2 rfl rfl rfl ?_
 simp only [Act.put,List.setIfInBounds_toArray,List.set_cons_succ,List.set_cons_zero]
 go_big_quiet_step ((go_at_call 161;exact Calls.grown_of_same (HSU.out _ (Ext.regrown _ _ _))))
 go_big_quiet_step (fail)
 refine yaF ?_
 intro W hw'
 have HX:Hid (Ext w W):=hid (by obtain ⟨pr,rfl⟩:=hw';exact Ext.regrown _ _ _)
 clear hw' hs1 hs2 HLI HSU
 by_cases hus:u=s
 ·have HR2:Hid (zdc l=(k,(l.drop 5).take (m-5),0)):=hid (by rw [HR.out,if_neg (fun h=>h hus),HK.out])
  have hne:((u:Int) != (s:Int))=false:=by simp [hus]
  have ck2:W.cell? ⟨b,off,none⟩=some (.int .u8 (k.toNat:Int)):=by rw [HX.out.cell (yaf w _ ck)];exact ck
  have f0:=zaf (T:=fun _=>false) ck2 rfl
  clear hus ck ck2 hmod
  go_wp2_with fail
  refine zao 8 (fun w'=>∃p:Turned,w'=turned W (fun _=>false) p.d p.f p.os) (.reads [0,1,2,4,5,6] (.one 3 (.one 7 (.one 8 (.one 9 (.one 10 .done)))))) (by kernel_rfl) (by kernel_rfl) (fun _ _ dd _ _ hh=>by cases dd<;>exact hh) ?_ ?_
  ·exact zad (Ext.drewN W 1)
  refine zak ?_
  simp only [zac,yab,yaa]
  iterate 5 (go_big_quiet_step (fail))
  refine zdK rfl 51 (.tmp 23) (some (.const (.int .i64 5))) (some (.tmp 24)) rfl _ _ _ _ hs3 rfl rfl rfl ?_
  simp only [Act.put,List.setIfInBounds_toArray,List.set_cons_succ,List.set_cons_zero]
  refine yaF ?_
  clear f0 hs3
  refine zae ?_
  simp only [zac,yab,yaa]
  go_wp2_with fail
  refine zal (zad (((Ext.refl W).alloc _).drew)) (zae ?_)
  simp only [zac,yab,yaa]
  refine zah (n:=0) (m:=m-5) zcI rfl (.tmp 22) (.tmp 25) rfl rfl rfl (row_empty (W:=(W.alloc (.cells #[] 5 (0,0))).drew) (heap_alloc_new W _)) ((HS3.out.ext HX.out).ext (((Ext.refl W).alloc _).drew)) (by unfold maxLen;omega) (by omega) ?_
  intro v3 w3 happ
  simp only [Nat.zero_add,yaP] at happ ⊢
  obtain ⟨a4,c4,rfl⟩:=happ.row.shape
  have hb:∀g,(Value.slice (some ⟨W.heap.size,0,none⟩) 0 0).ownBlock=some g→W.heap.size≤g:=fun g hg=>by
   have e2:W.heap.size=g:=yaG hg
   omega
  have HM:=hid (MadeTo.app hb (((Ext.refl W).alloc (.cells #[] 5 (0,0))).drew) happ)
  clear happ hb
  go_wp2_with fail
  refine zal (zad HM.out.ext) (zae ?_)
  simp only [zac,yab,yaa]
  go_wp2_with fail
  refine zau (zae ?_)
  simp only [zac,yab,yaa]
  go_wp2_with fail
  refine zau (zae ?_)
  simp only [zac,yab,yaa]
  go_wp2_with fail
  refine zau (zav ?_)
  go_wp2_with fail
  have e:(zdc l).2.1.length=m-5:=by
   rw [HR2.out]
   simp only [yaB,yaC]
   have:=HLN.out
   omega
  refine yaE (v:=.tuple #[.int .u8 (k.toNat:Int),.slice a4 (m-5) c4,.int .i64 0]) (by simp [results,Tryz.results166,go_sem]) rfl ⟨a4,c4,?_,?_⟩
  ·rw [e,HR2.out]
  ·rw [e,HR2.out]
   exact MadeTo.trans HX.out HM.out
 ·have HR2:Hid (zdc l=(0,[],12)):=hid (by rw [HR.out,if_pos hus])
  have hne:((u:Int) != (s:Int))=true:=by simp;omega
  clear hus
  go_wp2_with fail
  refine yaE (v:=.tuple #[.int .u8 0,.slice none 0 0,.int .i64 12]) (by simp [results,Tryz.results166,go_sem]) rfl ?_
  rw [HR2.out]
  exact zeh.bad HX.out
theorem openR_long {l:List UInt8}:openR l=if (longR l).2≠0 then (0,[],(longR l).2) else if (longR l).1≠l.length then (0,[],11) else zdc l:=by
 unfold openR longR zdc
 by_cases h1:l.length<9
 ·simp [h1]
 ·by_cases h2:1048576<lenL l
  ·simp [h1,h2]
  ·by_cases h3:l.length<lenL l+9
   ·simp [h1,h2,h3]
   ·simp only [h1,h2,h3,if_false,ne_eq,not_true_eq_false]
    by_cases h4:l.length=lenL l+9
    ·have:lenL l+9=l.length:=h4.symm
     simp only [h4,not_true_eq_false,if_false]
    ·have:¬lenL l+9=l.length:=fun e=>h4 e.symm
     simp [h4,this]
theorem longR_nine {l:List UInt8}(h:(longR l).2=0):9≤l.length:=by
 unfold longR at h
 split at h
 ·simp at h
 ·omega
theorem longR_err (l:List UInt8):(longR l).2=0∨(longR l).2=3∨(longR l).2=10:=by
 unfold longR
 split
 ·simp
 ·split
  ·simp
  ·split<;>simp
theorem open_any (w:World) (a:Option Addr) (n c:Nat) (l:List UInt8) (hl:Src w 1 (.slice a n c) n (u8s l)) (hnc:n≤c) (hn:n≤1099511627776) :
 Calls Tryz.prog 99 #[.slice a n c] w (zeh w (openR l)):=by
 have HL:=hid hl
 have hlen:=zax hl
 have HN:=hid hlen
 have hr:=openR_long (l:=l)
 have herr:=longR_err l
 have h9:=longR_nine (l:=l)
 have HLO:=hid (fun w' (hx:Ext w w')=>long_any w' a n c l (HL.out.ext hx) hnc (by omega))
 rw [hlen] at hr h9
 generalize longR l=r at *
 obtain ⟨x,y⟩:=r
 simp only at hr herr h9 HLO
 have HR:=hid hr
 have H9:=hid h9
 clear hl hlen hr h9
 go_enter Tryz.func99,Tryz.ntmps99
 go_wp2_with fail
 refine (HLO.out _ (Ext.refl _)).mono ?_
 rintro e w1 ⟨rfl,hx1⟩
 have HX1:=hid hx1
 clear hx1 HLO
 by_cases hy:y=0
 ·subst hy
  by_cases hxn:x=n
  ·have HR2:=hid ((HR.out.trans (if_neg (fun h=>h rfl))).trans (if_neg (fun h=>h hxn)))
   have hne:((x:Int) != (n:Int))=false:=by simp [hxn]
   have h9:=H9.out rfl
   clear hxn
   go_wp2_with fail
   refine (fwithin_any w1 a n c l (HL.out.ext HX1.out) hnc h9 hn).mono ?_
   rintro e w2 ⟨a2,c2,rfl,h2⟩
   have H2:=hid h2
   clear h2
   go_wp2_with fail
   refine yaE (v:=.tuple #[.int .u8 ((zdc l).1.toNat:Int),.slice a2 (zdc l).2.1.length c2,.int .i64 (zdc l).2.2]) (by simp [results,Tryz.results99,go_sem]) rfl ?_
   rw [HR2.out]
   exact ⟨a2,c2,rfl,MadeTo.trans HX1.out H2.out⟩
  ·have HR2:=hid ((HR.out.trans (if_neg (fun h=>h rfl))).trans (if_pos hxn))
   have hne:((x:Int) != (n:Int))=true:=by simp;omega
   clear hxn
   go_wp2_with fail
   refine yaE (v:=.tuple #[.int .u8 0,.slice none 0 0,.int .i64 11]) (by simp [results,Tryz.results99,go_sem]) rfl ?_
   rw [HR2.out]
   exact zeh.bad HX1.out
 ·have HR2:=hid (HR.out.trans (if_pos hy))
  have hne:(y != 0)=true:=by simp [hy]
  clear hy herr
  go_wp2_with fail
  refine yaE (v:=.tuple #[.int .u8 0,.slice none 0 0,.int .i64 y]) (by simp [results,Tryz.results99,go_sem]) rfl ?_
  rw [HR2.out]
  exact zeh.bad HX1.out
end
section
open Go.RowKit Go.Sort Go.Lib
theorem openR_seal (k:UInt8) (l:List UInt8) (hl:l.length≤1048576):openR (sealL k l)=(k,l,0):=by
 have h1:lenL (sealL k l)=l.length:=by
  unfold lenL sealL headL
  simp only [yaO,List.drop_succ_cons,List.drop_zero,yaj]
  rw [List.take_left' (le4_len _),leN_le4 (by omega)]
 have h2:=zbh k l
 have h3:(sealL k l).drop ((sealL k l).length-4)=le4 (csum (headL k l)):=by
  rw [h2]
  unfold sealL
  exact List.drop_left' (by rw [headL_len];omega)
 have h4:(sealL k l).take ((sealL k l).length-4)=headL k l:=by
  rw [h2]
  unfold sealL
  exact List.take_left' (by rw [headL_len];omega)
 unfold openR
 rw [if_neg (by omega),h1,if_neg (by omega),if_neg (by omega),if_neg (by omega),h3,h4,leN_le4 (csum_lt _),if_neg (by simp)]
 have h5:((sealL k l).drop 5).take ((sealL k l).length-9)=l:=by
  rw [h2]
  unfold sealL headL
  rw [yaO,yaj,List.drop_succ_cons,List.drop_left' (le4_len _)]
  exact List.take_left' (by omega)
 rw [h5]
 rfl
end
end Go.Proofs.YtlmfhjipbjkcbaaGreatDoor
