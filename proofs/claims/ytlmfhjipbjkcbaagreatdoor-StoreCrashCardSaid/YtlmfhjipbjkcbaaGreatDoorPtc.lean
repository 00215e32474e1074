/- x -/
import Derived.Test.YtlmfhjipbjkcbaaGreatDoorSch
import Derived.Test.YtlmfhjipbjkcbaaGreatDoorProg
import Derived.WalkSpells
import Derived.BigQuiet
set_option maxHeartbeats 2000000
set_option maxRecDepth 100000
set_option linter.unusedSimpArgs false
set_option linter.unusedVariables false
namespace Go.Proofs.YtlmfhjipbjkcbaaGreatDoor
section
open Go.RowKit Go.Sort Go.Lib
def Pt.cells (p:Pt):List Value:=[.int .i64 p.t,.int .i64 p.v,.int .i64 p.s]
def Pt.val (p:Pt):Value:=.agg #[.int .i64 p.t,.int .i64 p.v,.int .i64 p.s]
def pts (l:List Pt):List Value:=l.flatMap Pt.cells
theorem zdx (l:List Pt):(pts l).length=l.length*3:=by
 induction l with
 | nil=>rfl
 | cons p l ih=>simp [pts,Pt.cells] at ih ⊢;omega
theorem zck (l:List Pt):∀u∈pts l,u.oneCell'=true:=by
 intro u hu
 simp only [pts,List.mem_flatMap,Pt.cells] at hu
 obtain ⟨p,_,hu⟩:=hu
 simp at hu
 rcases hu with rfl|rfl|rfl<;>rfl
theorem pts_append (a b:List Pt):pts (a++b)=pts a++pts b:=by simp [pts]
theorem pts_at (l:List Pt) (k:Nat) (p:Pt) (h:l[k]?=some p):(pts l)[k*3]?=some (.int .i64 p.t)∧(pts l)[k*3+1]?=some (.int .i64 p.v)∧(pts l)[k*3+2]?=some (.int .i64 p.s):=by
 induction l generalizing k with
 | nil=>simp at h
 | cons q l ih =>
  cases k with
  | zero=>simp at h;subst h;simp [pts,Pt.cells]
  | succ k =>
   have:=ih k (by simpa using h)
   rw [show (k+1)*3=k*3+3 by omega]
   simpa [pts,Pt.cells] using this
theorem zbz {w:World}{a:Option Addr}{n c:Nat}{l:List Pt}(h:Src w 3 (.slice a n c) n (pts l)) {k:Nat}(hk:k<n) :
 ∃b off p,a=some ⟨b,off,none⟩∧l[k]?=some p∧w.cell? ⟨b,off+k*3,none⟩=some (.int .i64 p.t)∧w.cell? ⟨b,off+k*3+1,none⟩=some (.int .i64 p.v)∧w.cell? ⟨b,off+k*3+2,none⟩=some (.int .i64 p.s):=by
 rcases h with ⟨_,h,_⟩|⟨ad,c',h,hl,h2,_⟩
 ·omega
 ·simp at h
  obtain ⟨rfl,rfl⟩:=h
  rw [zdx] at hl
  have hkl:k<l.length:=by omega
  obtain ⟨e0,e1,e2⟩:=pts_at l k l[k] (yac hkl)
  have c0:=h2 _ _ e0
  have c1:=h2 _ _ e1
  have c2:=h2 _ _ e2
  obtain ⟨b,off,spot⟩:=ad
  have hz:=h2 0 _ (pts_at l 0 _ (yac (show 0<l.length by omega))).1
  have hspot:spot=none:=by simpa [Addr.add] using World.cell?_spot hz
  subst hspot
  rw [yak] at c0 c1 c2
  exact ⟨b,off,l[k],rfl,yac hkl,c0,c1,c2⟩
theorem zbI {w:World}{v:Value}{n:Nat}{l:List Pt}(h:Src w 3 v n (pts l)):l.length=n:=by
 rcases h with ⟨_,rfl,h⟩|⟨_,_,_,h,_⟩
 ·have:=zdx l;rw [h] at this;simp at this;omega
 ·rw [zdx] at h;omega
theorem src_tail {w:World}{b off n c:Nat}{l:List Pt}(h:Src w 3 (.slice (some ⟨b,off,none⟩) n c) n (pts l)) (hn:0<n):Src w 3 (.slice (some ⟨b,off+3,none⟩) (n-1) (c-1)) (n-1) (pts l.tail):=by
 have hl:=zbI h
 rcases h with ⟨_,h,_⟩|⟨ad,c',h,hl',h2,h1⟩
 ·omega
 ·simp at h
  obtain ⟨rfl,rfl⟩:=h
  refine .inr ⟨_,_,rfl,by rw [zdx];simp;omega,fun j u hj=>?_,zck _⟩
  cases l with
  | nil=>simp at hl;omega
  | cons p l =>
   have:=h2 (j+3) u (by simpa [pts,Pt.cells] using hj)
   rw [yak] at this ⊢
   rw [show off+3+j=off+(j+3) by omega];exact this
theorem row_src {w:World}{e:TypeId}{v:Value}{l:List Pt}(h:Row w e 3 v l.length (pts l)):Src w 3 v l.length (pts l):=h.src (zck l)
structure ElemOk (P:Program) (t e:TypeId) (size bytes:Nat):Prop where
 und:P.underlying t=some (.slice e)
 info:∃i z,P.info? e=some i∧i.zero=some z∧i.size=size∧i.bytes=bytes∧z.cells.size=size
 pos:0<size
structure Appended (w:World) (e:TypeId) (size:Nat) (v:Value) (k:Nat) (ys:List Value) (v':Value) (w':World):Prop where
 row:Row w' e size v' k ys
 chg:Chg (fun k=>v.ownBlock=some k) w w'
 loc:v'.ownBlock=v.ownBlock∨v'.ownBlock=some w.heap.size
theorem zah {P:Program}{w:World}{ops:Array Oper}{rest:List Oper}{o:Oper}{a:Act}{Q:Exit→Act→World→Prop}{t e:TypeId}{size bytes:Nat}(E:ElemOk P t e size bytes) (hgd:o.guard=none) (s x:Operand)
 (ho:o.op=.call { callee:=.builtin .append,args:=#[s,x],argTypes:=#[t,t] }) {v sv:Value}{n m:Nat}{xs news:List Value}(hs:a.eval s=v) (hx:a.eval x=sv)
 (hown:Row w e size v n xs) (hsrc:Src w size sv m news) (h63:n+m≤maxLen) (hbytes:(n+m)*bytes≤140737488355328)
 (h:∀v' w',Appended w e size v (n+m) (xs++news) v' w'→wpList P ops Q rest (a.put o.dst v') w'):wpList P ops Q (o::rest) a w:=by
 obtain ⟨i,z,hi,hz,h1,h2,h3⟩:=E.info
 obtain ⟨v',w',hr,r1,r2,r3⟩:=zdI (P:=P) w t o.type e i z size bytes E.und hi hz h1 h2 h3 E.pos hown hsrc h63 hbytes
 exact zbq hgd s x t ho v sv v' w' hs hx hr (h v' w' ⟨r1,r2,r3⟩)
theorem Row.alloc {w:World}{e:TypeId}{size:Nat}{v:Value}{n:Nat}{xs:List Value}(h:Row w e size v n xs) (o:Obj):Row (w.alloc o) e size v n xs:=h.ext ((Ext.refl w).alloc o)
theorem src_new (w:World) (cs:Array Value) (t:TypeId) (size n:Nat) (fr:Nat×Nat) (hs:cs.size=n*size) (h1:∀u∈cs.toList,u.oneCell'=true):Src (w.alloc (.cells cs t fr)) size (.slice (some ⟨w.heap.size,0,none⟩) n n) n cs.toList:=by
 refine .inr ⟨_,_,rfl,by simpa using hs,fun j u hj=>?_,h1⟩
 rw [yak,Nat.zero_add,zaa (heap_alloc_new w _)]
 simpa using hj
theorem src_pt' {W:World}{b:Nat}{p:Pt}{t:TypeId}{fr:Nat×Nat}(h:W.heap[b]?=some (.cells #[.int .i64 p.t,.int .i64 p.v,.int .i64 p.s] t fr)):Src W 3 (.slice (some ⟨b,0,none⟩) 1 1) 1 (pts [p]):=by
 refine .inr ⟨_,_,rfl,rfl,fun j u hj=>?_,zck _⟩
 rw [yak,Nat.zero_add,zaa h]
 simpa [pts,Pt.cells] using hj
theorem zaF (w:World) (o1 o2:Obj):((w.alloc o1).alloc o2).heap[w.heap.size+1]?=some o2:=by
 have:=heap_alloc_new (w.alloc o1) o2;simpa using this
theorem zdi:ElemOk Tryz.prog 38 76 3 24 :=
 ⟨Tryz.underlying38,by
   obtain ⟨i0,hi,hz0,hz1,hz2⟩:=info_parts (show (Tryz.prog.info? 76).map (fun i=>(i.zero,i.size,i.bytes))=some (some (.agg #[.int .i64 0,.int .i64 0,.int .i64 0]),3,24) from by kernel_rfl)
   exact ⟨i0,_,hi,hz0,hz1,hz2,rfl⟩,by decide⟩
theorem src_pt (w:World) (p:Pt) (fr:Nat×Nat):Src (w.alloc (.cells #[.int .i64 p.t,.int .i64 p.v,.int .i64 p.s] 76 fr)) 3 (.slice (some ⟨w.heap.size,0,none⟩) 1 1) 1 (pts [p]) :=
 src_new w #[.int .i64 p.t,.int .i64 p.v,.int .i64 p.s] 76 3 1 fr rfl (zck [p])
theorem rising_any (w:World) (a:Option Addr) (n c:Nat) (l:List Pt) (hs:Src w 3 (.slice a n c) n (pts l)) (hn:n≤maxLen) :
 Calls Tryz.prog 78 #[.slice a n c] w fun e w'=>e=.returned (.bool (zcN l))∧Ext w w':=by
 have HS:=hid hs
 have hlen:=zbI hs;clear hs
 have hn':n≤9223372036854775807:=hn
 clear hn
 go_enter Tryz.func78,Tryz.ntmps78
 go_wp2_with fail
 go_loopw [7] (fun i wr=>∃k:Nat,k≤n∧i=.int .i64 k∧Hid (Ext w wr)∧Hid (∀(i:Nat) (p q:Pt),i+1<k→l[i]?=some p→l[i+1]?=some q→p.t<q.t)) (fun i _=>n-(intOf i).toNat)
 case atStart=>exact ⟨0,by omega,rfl,hid (Ext.refl _),hid (fun i p q h=>by omega)⟩
 case round =>
  obtain ⟨k,hk,rfl,hx,I⟩:=hrel
  by_cases hlt:k<n
  ·obtain ⟨b,off,p,rfl,hp,c0,c1,c2⟩:=zbz (HS.out.ext hx.out) hlt
   have Hp:=hid hp;clear hp
   have hb:=yaf _ _ c0
   rcases Nat.eq_zero_or_pos k with rfl|hk0
   ·simp only [Nat.zero_mul,Nat.add_zero] at c0 c1 c2
    go_wp2_with fail
    generalize hW:World.alloc _ _=W
    have HX:Hid (Ext wr W):=hid (by subst hW;exact (Ext.refl _).alloc _)
    have e0:W.cell? ⟨wr.heap.size,0,none⟩=some (.int .i64 p.t):=by subst hW;simp [go_sem]
    clear hW c0 c1 c2
    go_quiet (fail)
    go_wp2_with fail
    go_roundw
    case rel=>exact ⟨1,by omega,by go_num,hid ((hx.out.trans HX.out).trans (Ext.drewN _ _)),hid (fun i p q h=>by omega)⟩
    case measure=>simp [intOf];omega
   ·obtain ⟨j,rfl⟩:∃j,k=j+1:=⟨k-1,by omega⟩
    obtain ⟨b',off',p',hbb,hp',d0,d1,d2⟩:=zbz (HS.out.ext hx.out) (show j<n by omega)
    have Hp':=hid hp';clear hp'
    simp at hbb
    obtain ⟨rfl,rfl⟩:=hbb
    have hb':=yaf _ _ d0
    go_wp2_with fail
    generalize hW:World.alloc _ _=W
    have HX:Hid (Ext wr W):=hid (by subst hW;exact (Ext.refl _).alloc _)
    have e0:W.cell? ⟨wr.heap.size,0,none⟩=some (.int .i64 p.t):=by subst hW;simp [go_sem]
    have e1:W.cell? ⟨b,off+j*3,none⟩=some (.int .i64 p'.t):=(HX.out.cell (p:=⟨b,off+j*3,none⟩) hb').trans d0
    clear hW c0 c1 c2 d0 d1 d2
    by_cases hle:p.t≤p'.t
    ·have HF:Hid (zcN l=false):=hid (by
      rw [←Bool.not_eq_true,risesB_iff]
      intro h;have:=h j p' p Hp'.out Hp.out;omega)
     go_quiet (fail)
     go_wp2_with fail
     go_ret
     rw [HF.out]
     exact ⟨rfl,(hx.out.trans HX.out).trans (Ext.drewN _ _)⟩
    ·go_quiet (fail)
     go_wp2_with fail
     go_roundw
     case rel =>
      refine ⟨j+1+1,by omega,by go_num,hid ((hx.out.trans HX.out).trans (Ext.drewN _ _)),hid (fun i x y h hx hy=>?_)⟩
      by_cases hij:i=j
      ·subst hij
       rw [Hp'.out] at hx;rw [Hp.out] at hy
       cases hx;cases hy;omega
      ·exact I.out i x y (by omega) hx hy
     case measure=>simp [intOf];omega
  ·have HF:Hid (zcN l=true):=hid (by
    rw [risesB_iff]
    intro i p q hp hq
    exact I.out i p q (by have:=(yad.1 hq).1;omega) hp hq)
   go_wp2_with fail
   go_ret
   rw [HF.out]
   exact ⟨rfl,hx.out⟩
def stepV (last:Int) (p:Pt):Bool:=decide (last<p.t)&&decide (p.t≤1152921504606846976)&&decide (0≤p.s)&&decide (p.s≤1152921504606846976)
def okV (l:List Pt):Bool×Int:=l.foldl (fun s p=>(s.1&&stepV s.2 p,p.t)) (true,-1152921504606846977)
def colV (l:List Pt):Bool:=(okV l).1&&decide (0<l.length)&&decide (l.length≤4096)
theorem okV_next {l:List Pt}{k:Nat}{p:Pt}(h:l[k]?=some p):okV (l.take (k+1))=((okV (l.take k)).1&&stepV (okV (l.take k)).2 p,p.t):=by
 unfold okV
 rw [yao,h];simp
theorem okV_false {l:List Pt}{k:Nat}(h:(okV (l.take k)).1=false):(okV l).1=false:=by
 have key:∀(m:List Pt) (s:Bool×Int),s.1=false→(m.foldl (fun s p=>(s.1&&stepV s.2 p,p.t)) s).1=false:=by
  intro m
  induction m with
  | nil=>exact fun s h=>h
  | cons p m ih=>exact fun s h=>ih _ (by simp [h])
 have e:okV l=(l.drop k).foldl (fun s p=>(s.1&&stepV s.2 p,p.t)) (okV (l.take k)):=by
  unfold okV
  rw [←List.foldl_append,yaS]
 rw [e]
 exact key _ _ h
theorem colValid_any (w:World) (a:Option Addr) (n c:Nat) (l:List Pt) (hl:Src w 3 (.slice a n c) n (pts l)) (hn:n<4398046511104) :
 Calls Tryz.prog 182 #[.slice a n c] w fun e w'=>e=.returned (.bool (colV l))∧Ext w w':=by
 have HL:=hid hl
 have LN:=hid (zbI hl)
 clear hl
 go_enter Tryz.func182,Tryz.ntmps182
 go_wp2_with fail
 go_loopw [2,3,8] (fun s2 s3 s8 wr=>∃(k:Nat) (t:Int),s2=.bool false∧s3=.int .i64 t∧s8=.int .i64 (k:Int)∧k≤n∧Hid (okV (l.take k)=(true,t)∧Ext w wr)) (fun _ _ i _=>n-(RowKit.intOf i).toNat)
 case atStart=>exact ⟨0,_,rfl,rfl,rfl,Nat.zero_le _,hid ⟨rfl,Ext.refl _⟩⟩
 case round =>
  obtain ⟨k,t,rfl,rfl,rfl,hk,HI⟩:=hrel
  by_cases hlt:k<n
  ·obtain ⟨pb,po,⟨pt,pv,ps⟩,rfl,hp,p0,p1,p2⟩:=zbz (HL.out.ext HI.out.2) hlt
   simp only at p0 p1 p2
   have HNX:=hid (okV_next hp)
   rw [HI.out.1] at HNX
   clear hp
   have HF:Hid (stepV t ⟨pt,pv,ps⟩=false→colV l=false):=hid (fun h=>by
    have h1:(okV (l.take (k+1))).1=false:=by rw [HNX.out];simp [h]
    unfold colV
    rw [okV_false h1];rfl)
   by_cases h1:pt≤t
   ·have HE:=hid (HF.out (by unfold stepV;simp;omega))
    clear HF HNX
    go_wp2_with fail
    go_ret
    exact ⟨by rw [HE.out];rfl,HI.out.2.alloc _⟩
   ·by_cases h2:1152921504606846976<pt
    ·have HE:=hid (HF.out (by unfold stepV;simp;omega))
     clear HF HNX
     go_wp2_with fail
     go_ret
     exact ⟨by rw [HE.out];rfl,HI.out.2.alloc _⟩
    ·by_cases h3:ps<0
     ·have HE:=hid (HF.out (by unfold stepV;simp;omega))
      clear HF HNX
      go_wp2_with fail
      go_ret
      exact ⟨by rw [HE.out];rfl,HI.out.2.alloc _⟩
     ·by_cases h4:1152921504606846976<ps
      ·have HE:=hid (HF.out (by unfold stepV;simp;omega))
       clear HF HNX
       go_wp2_with fail
       go_ret
       exact ⟨by rw [HE.out];rfl,HI.out.2.alloc _⟩
      ·have HE:Hid (okV (l.take (k+1))=(true,pt)):=hid (by rw [HNX.out];unfold stepV;simp;omega)
       clear HF HNX
       go_wp2_with fail
       go_roundw
       case rel=>exact ⟨k+1,pt,rfl,rfl,by go_num,by omega,hid ⟨HE.out,HI.out.2.alloc _⟩⟩
       case measure=>simp [RowKit.intOf];omega
  ·have HT:Hid ((okV l).1=true):=hid (by have:=HI.out.1;rw [yai (by have:=LN.out;omega)] at this;rw [this])
   by_cases h0:n=0
   ·have HE:Hid (colV l=false):=hid (by unfold colV;rw [LN.out,h0];simp)
    have hn0:¬(0:Int)<(n:Int):=by omega
    clear h0
    go_wp2_with fail
    go_ret
    exact ⟨by rw [HE.out];rfl,HI.out.2⟩
   ·have hn0:(0:Int)<(n:Int):=by omega
    by_cases h5:n≤4096
    ·have HE:Hid (colV l=true):=hid (by unfold colV;rw [HT.out,LN.out];simp;omega)
     have hn5:(n:Int)≤4096:=by omega
     clear h0
     go_wp2_with fail
     go_ret
     exact ⟨by rw [HE.out];first|rfl|simp [hn5],HI.out.2⟩
    ·have HE:Hid (colV l=false):=hid (by unfold colV;rw [LN.out];simp;omega)
     have hn5:¬(n:Int)≤4096:=by omega
     clear h0
     go_wp2_with fail
     go_ret
     exact ⟨by rw [HE.out];first|rfl|simp [hn5]|(simp;omega),HI.out.2⟩
end
section
open Go.RowKit Go.Sort Go.Lib
theorem Ext.drewN' {a w:World}(h:Ext a w) (k:Nat):Ext a (w.drewN k):=h.trans (Ext.drewN _ _)
theorem zbS {α:Type}{l:List α}{k:Nat}{x:α}(h:l[k]?=some x):l.take (k+1)=l.take k++[x]:=by
 obtain ⟨h1,h2⟩:=yad.1 h
 rw [←h2,List.take_succ_eq_append_getElem h1]
theorem same_any (w:World) (a b:Option Addr) (n c m d:Nat) (l k:List Pt) (hl:Src w 3 (.slice a n c) n (pts l)) (hk:Src w 3 (.slice b m d) m (pts k)) (hn:n<4611686018427387904) (hm:m<4611686018427387904) :
 Calls Tryz.prog 17 #[.slice a n c,.slice b m d] w fun e w'=>e=.returned (.bool (decide (l=k)))∧Ext w w':=by
 have HL:=hid hl;have HK:=hid hk
 have Ln:=hid (zbI hl);have Km:=hid (zbI hk)
 clear hl hk
 by_cases hnm:n=m
 ·subst hnm
  go_enter Tryz.func17,Tryz.ntmps17
  go_wp2_with fail
  go_loopw [5] (fun i wr=>∃j:Nat,j≤n∧i=.int .i64 j∧Hid (Ext w wr∧l.take j=k.take j)) (fun i _=>n-(intOf i).toNat)
  case atStart=>exact ⟨0,by omega,rfl,hid ⟨Ext.refl _,rfl⟩⟩
  case round =>
   obtain ⟨j,hj,rfl,I⟩:=hrel
   by_cases hlt:j<n
   ·obtain ⟨pb,po,p,rfl,hp,p0,p1,p2⟩:=zbz (HL.out.ext I.out.1) hlt
    obtain ⟨qb,qo,q,rfl,hq,q0,q1,q2⟩:=zbz (HK.out.ext I.out.1) hlt
    have HP:=hid hp;have HQ:=hid hq
    clear hp hq
    by_cases hpq:p=q
    ·subst hpq
     go_wp2_with fail
     go_quiet (fail)
     go_wp2_with fail
     go_roundw
     case rel=>exact ⟨j+1,by omega,by go_num,hid ⟨I.out.1.drewN' _,by rw [zbS HP.out,zbS HQ.out,I.out.2]⟩⟩
     case measure=>simp [intOf];omega
    ·have HF:Hid (l≠k):=hid (fun e=>hpq (by have h1:=HP.out;rw [e,HQ.out] at h1;cases h1;rfl))
     obtain ⟨pt,pv,ps⟩:=p
     obtain ⟨qt,qv,qs⟩:=q
     have hd:pt≠qt∨(pt=qt∧pv≠qv)∨(pt=qt∧pv=qv∧ps≠qs):=by
      by_cases h1:pt=qt
      ·by_cases h2:pv=qv
       ·exact .inr (.inr ⟨h1,h2,fun h3=>hpq (by rw [h1,h2,h3])⟩)
       ·exact .inr (.inl ⟨h1,h2⟩)
      ·exact .inl h1
     clear hpq
     simp only at p0 p1 p2 q0 q1 q2
     rcases hd with hd|⟨rfl,hd⟩|⟨rfl,rfl,hd⟩
     ·have hb:(pt==qt)=false:=yam.2 hd
      have hb2:(pt != qt)=true:=bne_iff_ne.2 hd
      clear hd
      go_wp2_with fail
      go_quiet (fail)
      go_wp2_with fail
      go_ret
      exact ⟨by rw [decide_eq_false HF.out];rfl,I.out.1.drewN' _⟩
     ·have hb:(pv==qv)=false:=yam.2 hd
      have hb2:(pv != qv)=true:=bne_iff_ne.2 hd
      clear hd
      go_wp2_with fail
      go_quiet (fail)
      go_wp2_with fail
      go_ret
      exact ⟨by rw [decide_eq_false HF.out];rfl,I.out.1.drewN' _⟩
     ·have hb:(ps==qs)=false:=yam.2 hd
      have hb2:(ps != qs)=true:=bne_iff_ne.2 hd
      clear hd
      go_wp2_with fail
      go_quiet (fail)
      go_wp2_with fail
      go_ret
      exact ⟨by rw [decide_eq_false HF.out];rfl,I.out.1.drewN' _⟩
   ·have HF:Hid (l=k):=hid (by
     have:=I.out.2
     rwa [yai (by have:=Ln.out;omega),yai (by have:=Km.out;omega)] at this)
    go_wp2_with fail
    go_ret
    exact ⟨by rw [decide_eq_true HF.out];rfl,I.out.1⟩
 ·have hf:l≠k:=fun e=>hnm (by rw [←Ln.out,←Km.out,e])
  have HF:=hid hf
  have hb:((n:Int) != (m:Int))=true:=by rw [bne_iff_ne];omega
  clear hf
  go_enter Tryz.func17,Tryz.ntmps17
  go_wp2_with fail
  go_ret
  exact ⟨by rw [decide_eq_false HF.out];rfl,Ext.refl _⟩
structure CutTo (w:World) (out:List Pt) (v:Value) (w':World):Prop where
 row:Row w' 76 3 v out.length (pts out)
 own:∀g,v.ownBlock=some g→w.heap.size≤g
 ext:Ext w w'
theorem CutTo.snoc {w W w3:World}{out:List Pt}{v v':Value}{p:Pt}(h:CutTo w out v W) {W':World}(hx:Ext W W') (ha:Appended W' 76 3 v (out.length+1) (pts out++pts [p]) v' w3):CutTo w (out++[p]) v' w3:=by
 have hs:=h.ext.size
 have hs2:=hx.size
 refine ⟨by rw [yae,pts_append];exact ha.row,fun g hg=>?_,Chg.ext ((Chg.of_ext (h.ext.trans hx)).trans ha.chg (fun _ _ h=>h)) (fun i hi e=>?_)⟩
 ·rcases ha.loc with e|e
  ·exact h.own g (e▸hg)
  ·rw [e] at hg;cases hg;omega
 ·have:=h.own i e;omega
theorem CutTo.next {w W W':World}{out:List Pt}{v:Value}(h:CutTo w out v W) (hx:Ext W W'):CutTo w out v W':=⟨h.row.ext hx,h.own,h.ext.trans hx⟩
theorem CutTo.nil (w:World):CutTo w [] (.slice none 0 0) w:=⟨Row.nil _ _ _,fun g hg=>by simp [Value.ownBlock] at hg,Ext.refl _⟩
theorem cutL_snoc (f t:Int) (l:List Pt) (p:Pt):cutL f t (l++[p])=if f≤p.t∧p.t<t then cutL f t l++[p] else cutL f t l:=by
 by_cases h:f≤p.t∧p.t<t
 ·rw [if_pos h];simp [cutL,yaW,h.1,h.2]
 ·rw [if_neg h]
  have:(decide (f≤p.t)&&decide (p.t<t))=false:=by rw [Bool.eq_false_iff];simpa using h
  simp [cutL,yaW,this]
theorem cutL_len (f t:Int) (l:List Pt):(cutL f t l).length≤l.length:=List.length_filter_le _ _
end
end Go.Proofs.YtlmfhjipbjkcbaaGreatDoor
