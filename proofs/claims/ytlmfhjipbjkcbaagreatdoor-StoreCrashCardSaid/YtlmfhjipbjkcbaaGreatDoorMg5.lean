/- x -/
import Derived.Test.YtlmfhjipbjkcbaaGreatDoorMg3
import Derived.Test.YtlmfhjipbjkcbaaGreatDoorRefC
set_option maxHeartbeats 8000000
set_option maxRecDepth 100000
set_option linter.unusedSimpArgs false
set_option linter.unusedVariables false
namespace Go.Proofs.YtlmfhjipbjkcbaaGreatDoor
section
open Go.RowKit Go.Sort Go.Lib
def tot (L:List Cur):Nat:=(L.map fun c=>c.l.length).sum
theorem tot_perm {a b:List Cur}(h:a.Perm b):tot a=tot b:=(h.map _).sum_nat
theorem tot_cons (x:Cur) (L:List Cur):tot (x::L)=x.l.length+tot L:=by simp [tot]
structure MInv (ls:List (List Pt)) (out:List Pt) (L:List Cur):Prop where
 rises:Rises out
 cur:∀c∈L,Rises c.l∧c.l≠[]∧∃l,ls[c.i]?=some l∧∀q∈c.l,q∈l
 best:∀p∈out,∃(i:Nat) (l:List Pt),ls[i]?=some l∧p∈l∧∀(j:Nat) (m:List Pt) (q:Pt),ls[j]?=some m→q∈m→q.t=p.t→q.s<p.s∨(q.s=p.s∧j≤i)
 has:∀(j:Nat) (m:List Pt) (q:Pt),ls[j]?=some m→q∈m→(∃p∈out,p.t=q.t)∨∃c∈L,c.i=j∧q∈c.l
 lo:∀p∈out,∀c∈L,p.t≤c.p.t
theorem MInv.perm {ls:List (List Pt)}{out:List Pt}{L L':List Cur}(h:MInv ls out L) (hp:L'.Perm L):MInv ls out L' :=
 ⟨h.rises,fun c hc=>h.cur c (hp.mem_iff.1 hc),h.best,fun j m q hj hq=>(h.has j m q hj hq).imp id (fun ⟨c,hc,r⟩=>⟨c,hp.mem_iff.2 hc,r⟩),fun p hpp c hc=>h.lo p hpp c (hp.mem_iff.1 hc)⟩
theorem MInv.done {ls:List (List Pt)}{out:List Pt}(h:MInv ls out []):IsMerge ls out :=
 ⟨h.rises,h.best,fun j m q hj hq=>(h.has j m q hj hq).elim id (fun ⟨c,hc,_⟩=>by cases hc)⟩
theorem head_lt {c:Cur}(h:Rises c.l) {q:Pt}(hq:q∈c.l):q=c.p∨c.p.t<q.t:=by
 cases hl:c.l with
 | nil=>rw [hl] at hq;cases hq
 | cons x t =>
  have e:c.p=x:=by simp [Cur.p,hl]
  rw [hl] at hq h
  rcases yaq.1 hq with e'|hq
  ·left;rw [e',e]
  ·right;rw [e];exact (List.pairwise_cons.1 h).1 q hq
theorem head_mem {c:Cur}(h:c.l≠[]):c.p∈c.l:=by
 cases hl:c.l with
 | nil=>exact absurd hl h
 | cons x t=>simp [Cur.p,hl]
theorem mem_head_tail {c:Cur}{q:Pt}(hq:q∈c.l):q=c.p∨q∈c.l.tail:=by
 cases hl:c.l with
 | nil=>rw [hl] at hq;cases hq
 | cons x t =>
  rw [hl] at hq
  simp [Cur.p,hl]
  simpa using hq
theorem MInv.step {ls:List (List Pt)}{out out':List Pt}{L L':List Cur}{x:Cur}(h:MInv ls out (x::L)) (hmin:∀y∈x::L,leC x y)
 (ho:(out'=out++[x.p]∧∀p∈out,p.t<x.p.t)∨(out'=out∧∃p∈out,x.p.t≤p.t))
 (hL:(x.l.tail=[]∧L'=L)∨∃y,y.i=x.i∧y.l=x.l.tail∧y.l≠[]∧L'=y::L):MInv ls out' L':=by
 obtain ⟨hxr,hxne,l,hl,hsub⟩:=h.cur x (by simp)
 have hxp:=head_mem hxne
 have htail:∀q∈x.l.tail,q∈x.l:=fun q hq=>List.mem_of_mem_tail hq
 have hcover:∃p∈out',p.t=x.p.t:=by
  rcases ho with ⟨rfl,_⟩|⟨rfl,p,hp,hle⟩
  ·exact ⟨x.p,by simp,rfl⟩
  ·exact ⟨p,hp,by have:=h.lo p hp x (by simp);omega⟩
 have hsubo:∀p∈out,p∈out':=by
  rcases ho with ⟨rfl,_⟩|⟨rfl,_⟩
  ·intro p hp;simp [hp]
  ·intro p hp;exact hp
 have hL':∀c∈L',(c∈L)∨(c.i=x.i∧c.l=x.l.tail∧c.l≠[]):=by
  intro c hc
  rcases hL with ⟨_,rfl⟩|⟨y,h1,h2,h3,rfl⟩
  ·exact .inl hc
  ·rcases yaq.1 hc with rfl|hc
   ·exact .inr ⟨h1,h2,h3⟩
   ·exact .inl hc
 have hsubL:∀c∈L,c∈L':=by
  rcases hL with ⟨_,rfl⟩|⟨y,_,_,_,rfl⟩
  ·intro c hc;exact hc
  ·intro c hc;simp [hc]
 have hle:∀c∈L',x.p.t≤c.p.t:=by
  intro c hc
  rcases hL' c hc with hc|⟨_,h2,h3⟩
  ·have:=hmin c (by simp [hc])
   unfold leC at this
   simp only [ahead,Bool.or_eq_false_iff,Bool.and_eq_false_iff,decide_eq_false_iff_not] at this
   omega
  ·have hm:=head_mem h3
   rw [h2] at hm
   rcases head_lt hxr (htail _ hm) with e|e
   ·rw [e];exact Int.le_refl _
   ·omega
 refine ⟨?_,?_,?_,?_,?_⟩
 ·rcases ho with ⟨rfl,hlt⟩|⟨rfl,_⟩
  ·exact h.rises.snoc hlt
  ·exact h.rises
 ·intro c hc
  rcases hL' c hc with hc|⟨h1,h2,h3⟩
  ·exact h.cur c (by simp [hc])
  ·refine ⟨by rw [h2];exact hxr.sub (List.tail_sublist _),h3,l,by rw [h1];exact hl,fun q hq=>hsub q (htail q (h2▸hq))⟩
 ·intro p hp
  rcases ho with ⟨rfl,hlt⟩|⟨rfl,_⟩
  ·rcases yah.1 hp with hp|hp
   ·exact h.best p hp
   ·simp at hp;subst hp
    refine ⟨x.i,l,hl,hsub _ hxp,fun j m q hj hq ht=>?_⟩
    rcases h.has j m q hj hq with ⟨p,hp,hpt⟩|⟨c,hc,hcj,hqc⟩
    ·have:=hlt p hp;omega
    ·obtain ⟨hcr,hcne,_⟩:=h.cur c hc
     have hm:=hmin c hc
     unfold leC at hm
     simp only [ahead,Bool.or_eq_false_iff,Bool.and_eq_false_iff,decide_eq_false_iff_not] at hm
     rcases head_lt hcr hqc with e|e
     ·subst e;omega
     ·omega
  ·exact h.best p hp
 ·intro j m q hj hq
  rcases h.has j m q hj hq with ⟨p,hp,hpt⟩|⟨c,hc,hcj,hqc⟩
  ·exact .inl ⟨p,hsubo p hp,hpt⟩
  ·rcases yaq.1 hc with rfl|hc
   ·rcases mem_head_tail hqc with e|hqt
    ·left;obtain ⟨p,hp,hpt⟩:=hcover;exact ⟨p,hp,by rw [e];exact hpt⟩
    ·right
     rcases hL with ⟨h0,_⟩|⟨y,h1,h2,_,rfl⟩
     ·rw [h0] at hqt;cases hqt
     ·exact ⟨y,by simp,by rw [h1];exact hcj,by rw [h2];exact hqt⟩
   ·exact .inr ⟨c,hsubL c hc,hcj,hqc⟩
 ·intro p hp c hc
  rcases ho with ⟨rfl,_⟩|⟨rfl,_⟩
  ·rcases yah.1 hp with hp|hp
   ·have h1:=h.lo p hp x (by simp);have h2:=hle c hc;omega
   ·simp at hp;subst hp;exact hle c hc
  ·have h1:=h.lo p hp x (by simp);have h2:=hle c hc;omega
def Sl.cur (x:Sl) (i:Nat):Cur:=⟨x.a,x.n,x.c,x.l,i⟩
def zcq (ls:List Sl):List Cur:=(ls.zipIdx.filter fun p=>decide (p.1.l≠[])).map fun p=>p.1.cur p.2
theorem zipIdx_snoc {α:Type}(ls:List α) (x:α):(ls++[x]).zipIdx=ls.zipIdx++[(x,ls.length)]:=by simp [List.zipIdx_append]
theorem cursOf_snoc_nil {ls:List Sl}{x:Sl}(h:x.l=[]):zcq (ls++[x])=zcq ls:=by
 simp [zcq,zipIdx_snoc,h]
theorem cursOf_snoc {ls:List Sl}{x:Sl}(h:x.l≠[]):zcq (ls++[x])=zcq ls++[x.cur ls.length]:=by
 simp [zcq,zipIdx_snoc,h]
theorem cursOf_length (ls:List Sl):(zcq ls).length≤ls.length:=by
 simp only [zcq,yaw]
 exact Nat.le_trans (List.length_filter_le _ _) (by simp)
theorem mem_cursOf {ls:List Sl}{c:Cur}(h:c∈zcq ls):∃x,ls[c.i]?=some x∧c=x.cur c.i∧x.l≠[]:=by
 simp only [zcq,yap,yay] at h
 obtain ⟨⟨x,i⟩,⟨h1,h2⟩,rfl⟩:=h
 rw [List.mem_zipIdx_iff_getElem?] at h1
 exact ⟨x,h1,rfl,by simpa using h2⟩
theorem cursOf_mem {ls:List Sl}{i:Nat}{x:Sl}(h:ls[i]?=some x) (hne:x.l≠[]):x.cur i∈zcq ls:=by
 simp only [zcq,yap,yay]
 exact ⟨(x,i),⟨List.mem_zipIdx_iff_getElem?.2 h,by simpa using hne⟩,rfl⟩
theorem tot_cursOf (ls:List Sl):tot (zcq ls)=totS ls:=by
 have key:∀(n:Nat) (ls:List Sl),ls.length=n→tot (zcq ls)=totS ls:=by
  intro n
  induction n with
  | zero=>intro ls h;rw [yau.1 h];rfl
  | succ n ih =>
   intro ls h
   rcases List.eq_nil_or_concat ls with rfl|⟨ls',x,rfl⟩
   ·simp at h
   ·rw [List.concat_eq_append] at *
    have ih':=ih ls' (by simpa using h)
    by_cases hx:x.l=[]
    ·rw [cursOf_snoc_nil hx,ih'];simp [totS,hx]
    ·rw [cursOf_snoc hx]
     simp [tot,totS] at ih' ⊢
     rw [ih'];rfl
 exact key _ ls rfl
theorem MInv.start {ls:List Sl}(hr:∀x∈ls,Rises x.l):MInv (ls.map Sl.l) [] (zcq ls):=by
 refine ⟨Rises.nil,fun c hc=>?_,by simp,fun j m q hj hq=>?_,by simp⟩
 ·obtain ⟨x,h1,h2,h3⟩:=mem_cursOf hc
  have e:c.l=x.l:=by rw [h2];rfl
  exact ⟨by rw [e];exact hr x (yag h1),by rw [e];exact h3,x.l,by simp [h1],fun q hq=>e▸hq⟩
 ·simp at hj
  obtain ⟨x,h1,rfl⟩:=hj
  have hne:x.l≠[]:=fun e=>by rw [e] at hq;cases hq
  exact .inr ⟨x.cur j,cursOf_mem h1 hne,rfl,hq⟩
end
section
open Go.RowKit Go.Sort Go.Lib
def Merged (w:World) (ls:List (List Pt)) (e:Ending) (w':World):Prop :=
 Ext w w'∧(((∀l∈ls,Rises l)∧∃v out,e=.returned (.tuple #[v,.int .i64 0])∧Row w' 76 3 v out.length (pts out)∧(∀g,v.ownBlock=some g→w.heap.size≤g)∧IsMerge ls out∧out.length≤(ls.map List.length).sum) ∨
  ((¬∀l∈ls,Rises l)∧e=.returned (.tuple #[.slice none 0 0,.int .i64 2])))
structure Looked (w w1 w3:World) (v':Value) (L':List Cur) (x:Cur) (out out':List Pt) (sv:Value) (t:Nat) (bx offx xn xc:Nat):Prop where
 heap:HeapAt w w3 w.heap.size v' L'
 row:Row w3 76 3 sv out'.length (pts out')
 own:∀g,sv.ownBlock=some g→w.heap.size<g∧v'.ownBlock≠some g∧g≠t
 how:(out'=out++[x.p]∧∀p∈out,p.t<x.p.t)∨(out'=out∧∃p∈out,x.p.t≤p.t)
 blk:w3.heap[t]?=some (.cells #[.slice (some ⟨bx,offx,none⟩) xn xc,.int .i64 x.i] 173 (0,0))
 new:w.heap.size<t∧v'.ownBlock≠some t
theorem Looked.app {w w1 W2 W w3:World}{v':Value}{L':List Cur}{x:Cur}{out out':List Pt}{sv sv':Value}{bx offx xn xc:Nat}(hout:out'=out++[x.p])
 (P:HeapAt w w1 w.heap.size v' L') (hx2:Ext w1 W2) (hx:Ext W2 W) (hrow:Row w1 76 3 sv out.length (pts out))
 (hown:∀g,sv.ownBlock=some g→w.heap.size<g∧v'.ownBlock≠some g∧g<w1.heap.size) (ho:∀p∈out,p.t<x.p.t)
 (hb:W2.heap[w1.heap.size]?=some (.cells #[.slice (some ⟨bx,offx,none⟩) xn xc,.int .i64 x.i] 173 (0,0)))
 (ha:Appended W 76 3 sv (out.length+1) (pts out++pts [x.p]) sv' w3) :
 Looked w w1 w3 v' L' x out out' sv' w1.heap.size bx offx xn xc:=by
 subst hout
 have hlt:w1.heap.size<W2.heap.size:=zab hb
 have hs:=hx.size
 have hb0:=P.base.size
 have hh:=zab P.blk
 have hv:∀g,v'.ownBlock=some g→g<w1.heap.size:=fun g hg=>P.row.lt hg
 refine ⟨((P.ext hx2).ext hx).chg ha.chg (fun e=>by have:=hown _ e;omega) (fun g hg e=>(hown g e).2.1 hg) (fun k hk e=>by have:=hown _ e;omega),?_,?_,.inl ⟨rfl,ho⟩,?_,hh,fun e=>by have:=hv _ e;omega⟩
 ·rw [yae,pts_append];exact ha.row
 ·intro g hg
  rcases ha.loc with e|e
  ·rw [e] at hg;have:=hown g hg;exact ⟨this.1,this.2.1,by omega⟩
  ·rw [e] at hg;cases hg;exact ⟨by omega,fun e=>by have:=hv _ e;omega,by omega⟩
 ·rw [ha.chg.block _ (by omega) (fun e=>by have:=hown _ e;omega),hx.block hlt];exact hb
theorem Looked.same {w w1 W2 w3:World}{v':Value}{L':List Cur}{x:Cur}{out:List Pt}{sv:Value}{bx offx xn xc:Nat}
 (P:HeapAt w w1 w.heap.size v' L') (hx2:Ext w1 W2) (hx:Ext W2 w3) (hrow:Row w1 76 3 sv out.length (pts out))
 (hown:∀g,sv.ownBlock=some g→w.heap.size<g∧v'.ownBlock≠some g∧g<w1.heap.size) (ho:∃p∈out,x.p.t≤p.t)
 (hb:W2.heap[w1.heap.size]?=some (.cells #[.slice (some ⟨bx,offx,none⟩) xn xc,.int .i64 x.i] 173 (0,0))) :
 Looked w w1 w3 v' L' x out out sv w1.heap.size bx offx xn xc:=by
 have hlt:w1.heap.size<W2.heap.size:=zab hb
 have hh:=zab P.blk
 exact ⟨(P.ext hx2).ext hx,(hrow.ext hx2).ext hx,fun g hg=>by have:=hown g hg;exact ⟨this.1,this.2.1,by omega⟩,.inr ⟨rfl,ho⟩,by rw [hx.block hlt];exact hb,hh,fun e=>by have:=P.row.lt e;omega⟩
def MgInv (w:World) (ls:List Sl) (out:List Pt) (sv v:Value) (L:List Cur) (wq:World):Prop :=
 HeapAt w wq w.heap.size v L∧Heap leC L∧MInv (ls.map Sl.l) out L∧Row wq 76 3 sv out.length (pts out)∧∀g,sv.ownBlock=some g→w.heap.size<g∧v.ownBlock≠some g
theorem Looked.set {w w1 w3:World}{v':Value}{L':List Cur}{x:Cur}{out out':List Pt}{sv:Value}{t bx offx xn xc:Nat}(K:Looked w w1 w3 v' L' x out out' sv t bx offx xn xc) (u:Value) :
 HeapAt w (w3.setCell ⟨t,0,none⟩ u) w.heap.size v' L'∧Row (w3.setCell ⟨t,0,none⟩ u) 76 3 sv out'.length (pts out'):=by
 have hc:=zaj w3 t 0 u
 obtain ⟨n1,n2⟩:=K.new
 exact ⟨K.heap.chg hc (by omega) (fun g hg e=>n2 (e▸hg)) (fun k hk=>by omega),K.row.chg hc (fun g hg=>(K.own g hg).2.2)⟩
theorem Looked.stay {w w1 w3:World}{ls:List Sl}{v':Value}{L':List Cur}{x:Cur}{out out':List Pt}{sv:Value}{t bx offx xn xc:Nat}(K:Looked w w1 w3 v' L' x out out' sv t bx offx xn xc) (u:Value)
 (hh:Heap leC L') (hm:MInv (ls.map Sl.l) out (x::L')) (hmin:∀y∈x::L',leC x y) (ht:x.l.tail=[]):MgInv w ls out' sv v' L' (w3.setCell ⟨t,0,none⟩ u) :=
 ⟨(K.set u).1,hh,hm.step hmin K.how (.inl ⟨ht,rfl⟩),(K.set u).2,fun g hg=>⟨(K.own g hg).1,(K.own g hg).2.1⟩⟩
theorem Looked.push {w w1 w3 w6:World}{ls:List Sl}{v':Value}{L':List Cur}{x y:Cur}{out out':List Pt}{sv:Value}{t bx offx xn xc:Nat}(K:Looked w w1 w3 v' L' x out out' sv t bx offx xn xc) (u:Value)
 (hm:MInv (ls.map Sl.l) out (x::L')) (hmin:∀y∈x::L',leC x y) (h1:y.i=x.i) (h2:y.l=x.l.tail) (h3:y.l≠[])
 (hp:Pushed w (w3.setCell ⟨t,0,none⟩ u) w.heap.size v' L' y w6):∃v'' L'',MgInv w ls out' sv v'' L'' w6∧tot L''=x.l.tail.length+tot L'∧L''.length=L'.length+1:=by
 obtain ⟨v'',L'',q1,q2,q3,q4,q5⟩:=hp
 have hlt:∀g,sv.ownBlock=some g→g<(w3.setCell ⟨t,0,none⟩ u).heap.size:=fun g hg=>(K.set u).2.lt hg
 refine ⟨v'',L'',⟨q1,q3,(hm.step hmin K.how (.inr ⟨y,h1,h2,h3,rfl⟩)).perm q2,(K.set u).2.chg q4 (fun g hg=>?_),fun g hg=>⟨(K.own g hg).1,?_⟩⟩,by rw [tot_perm q2,tot_cons,h2],by simpa using q2.length_eq⟩
 ·have:=K.own g hg
  rintro (e|e)
  ·omega
  ·exact this.2.1 e
 ·rcases q5 with e|⟨g',e,hge⟩
  ·rw [e];exact (K.own g hg).2.1
  ·rw [e];intro h;cases h;have:=hlt g hg;omega
theorem merge_any (w:World) (a:Option Addr) (n c:Nat) (ls:List Sl) (hs:Src w 1 (.slice a n c) n (ls.map Sl.v)) (hok:∀x∈ls,x.Ok w) (hN:n+totS ls<4000) :
 Calls Tryz.prog 45 #[.slice a n c] w (Merged w (ls.map Sl.l)):=by
 have HS:=hid hs
 have HO:=hid hok
 have HLn:=hid (lists_len hs)
 clear hs hok
 go_enter Tryz.func45,Tryz.ntmps45
 go_wp2_with fail
 generalize hW:World.alloc _ _=W
 have HX:Hid (Ext w W):=hid (by subst hW;exact (Ext.refl w).alloc _)
 have H0:Hid (HeapAt w W w.heap.size (.slice none 0 0) []):=hid (by
  refine ⟨by subst hW;exact heap_alloc_new w _,Row.nil _ _ _,HX.out,Nat.le_refl _,fun g hg=>by simp [Value.ownBlock] at hg,by simp⟩)
 clear hW
 go_loopw [14,5,6] (fun i _ _ wr=>∃(k:Nat) (v:Value) (L:List Cur),i=.int .i64 k∧k≤n∧Hid (HeapAt w wr w.heap.size v L∧Heap leC L∧L.Perm (zcq (ls.take k))∧∀x∈ls.take k,Rises x.l)) (fun i _ _ _=>n-(intOf i).toNat)
 case atStart=>exact ⟨0,_,[],rfl,by omega,hid ⟨H0.out,(by intro k x y _ h;simp at h),by simp [zcq],by simp⟩⟩
 case round =>
  obtain ⟨k,v,L,rfl,hk,I⟩:=hrel
  by_cases hlt:k<n
  ·obtain ⟨b,off,x,rfl,hx,hc⟩:=lists_src (HS.out.ext I.out.1.base) hlt
   have XI:=hid hx
   have XO:=hid (HO.out x (yag hx))
   have hxt:totS ls<4000:=by omega
   have hxl:x.l.length≤totS ls:=le_totS (yag hx)
   have hxn:x.l.length=x.n:=zbI XO.out.1
   have hxn':x.n<4000:=by omega
   clear hx
   go_wp2_with fail
   refine (rising_any wr x.a x.n x.c x.l (XO.out.1.ext I.out.1.base) (by unfold maxLen;omega)).mono ?_
   rintro e w1 ⟨rfl,hx1⟩
   have HX1:=hid hx1;clear hx1
   cases hr:zcN x.l
   ·have HR:Hid (¬∀l∈ls.map Sl.l,Rises l):=hid (fun h=>by
     have:=h x.l (yap.2 ⟨x,yag XI.out,rfl⟩)
     rw [←rises_iff,hr] at this;cases this)
    clear hr hxl hxn
    go_wp2_with fail
    go_ret2
    exact ⟨I.out.1.base.trans HX1.out,.inr ⟨HR.out,rfl⟩⟩
   ·have HR:Hid (Rises x.l):=hid ((rises_iff _).1 hr)
    have htk:ls.take (k+1)=ls.take k++[x]:=by
     obtain ⟨h1,h2⟩:=yad.1 XI.out
     rw [←h2,List.take_succ_eq_append_getElem h1]
    have HT:=hid htk
    have hkl:(ls.take k).length=k:=by have:=HLn.out;simp;omega
    have HKL:=hid hkl
    clear hr htk hkl
    by_cases hne:x.l=[]
    ·have hz:x.n=0:=by rw [←hxn,hne];rfl
     have HNE:=hid hne;clear hne hxn hxl
     rw [hz]
     go_wp2_with fail
     go_roundw
     case rel =>
      refine ⟨k+1,v,L,by go_num,by omega,hid ⟨I.out.1.ext HX1.out,I.out.2.1,?_,?_⟩⟩
      ·rw [HT.out,cursOf_snoc_nil HNE.out];exact I.out.2.2.1
      ·rw [HT.out];intro y hy
       rcases yah.1 hy with hy|hy
       ·exact I.out.2.2.2 y hy
       ·simp at hy;subst hy;exact HR.out
     case measure=>simp [intOf];omega
    ·have hz:0<x.n:=by rw [←hxn];exact List.length_pos_iff.2 hne
     have HNE:=hid hne;clear hne hxn hxl
     have hLl:L.length<4000:=by
      have h1:=I.out.2.2.1.length_eq
      have h2:=cursOf_length (ls.take k)
      have h3:=HKL.out
      omega
     go_wp2_with fail
     refine (push_any w w1 w.heap.size v L (x.cur k) (I.out.1.ext HX1.out) I.out.2.1 ⟨XO.out.1,HNE.out,XO.out.2⟩ hLl).mono ?_
     rintro e w2 ⟨rfl,hp⟩
     have HP:=hid hp;clear hp
     go_wp2_with fail
     go_roundw
     case rel =>
      obtain ⟨v',L',p1,p2,p3,p4,p5⟩:=HP.out
      refine ⟨k+1,v',L',by go_num,by omega,hid ⟨p1,p3,?_,?_⟩⟩
      ·rw [HT.out,cursOf_snoc HNE.out,HKL.out]
       exact p2.trans ((I.out.2.2.1.cons _).trans (List.perm_append_comm (l₁:=[x.cur k]) (l₂:=zcq (ls.take k))))
      ·rw [HT.out];intro y hy
       rcases yah.1 hy with hy|hy
       ·exact I.out.2.2.2 y hy
       ·simp at hy;subst hy;exact HR.out
     case measure=>simp [intOf];omega
  ·obtain rfl:k=n:=by omega
   have hall:Hid ((∀x∈ls,Rises x.l)∧L.Perm (zcq ls)):=hid (by
    have e:ls.take k=ls:=yai (by rw [HLn.out];exact Nat.le_refl _)
    obtain ⟨_,_,i3,i4⟩:=I.out
    rw [e] at i3 i4;exact ⟨i4,i3⟩)
   have HI:=hid I.out.1
   have HJ:=hid I.out.2.1
   clear I hlt
   go_wp2_with fail
   go_loopg [7,8,9] (totS ls) (fun kx s7 _ _ wq=>∃(out:List Pt) (oa:Option Addr) (oc:Nat) (v:Value) (L:List Cur),s7=.slice oa out.length oc∧tot L≤kx∧out.length+tot L≤totS ls∧L.length≤k ∧
    Hid (MgInv w ls out (.slice oa out.length oc) v L wq))
   case atStart =>
    refine ⟨[],none,0,v,L,rfl,?_,?_,?_,hid ⟨HI.out,HJ.out,(MInv.start hall.out.1).perm hall.out.2,Row.nil _ _ _,fun g hg=>by simp [Value.ownBlock] at hg⟩⟩
    ·rw [tot_perm hall.out.2,tot_cursOf];exact Nat.le_refl _
    ·rw [tot_perm hall.out.2,tot_cursOf];simp
    ·have h1:=hall.out.2.length_eq;have h2:=cursOf_length ls;have h3:=HLn.out;omega
   case round =>
    clear HI HJ
    obtain ⟨out,oa,oc,v,L,rfl,ht,hot,hLk,I⟩:=hrel
    obtain ⟨va,vc,rfl⟩:=I.out.1.row.shape
    by_cases hL0:L=[]
    ·subst hL0
     have hv:wr.cell? ⟨w.heap.size,0,none⟩=some (.slice va 0 vc):=by have:=zaa I.out.1.blk 0;simpa using this
     go_wp2_with fail
     go_ret2
     refine ⟨I.out.1.base,.inl ⟨fun l hl=>?_,.slice oa out.length oc,out,rfl,I.out.2.2.2.1,fun g hg=>Nat.le_of_lt (I.out.2.2.2.2 g hg).1,I.out.2.2.1.done,?_⟩⟩
     ·obtain ⟨x,hx,rfl⟩:=yap.1 hl;exact hall.out.1 x hx
     ·have:totS ls=((ls.map Sl.l).map List.length).sum:=by simp [totS,Function.comp_def]
      rw [←this];simp [tot] at hot;exact hot
    ·have hv:wr.cell? ⟨w.heap.size,0,none⟩=some (.slice va L.length vc):=by have:=zaa I.out.1.blk 0;simpa using this
     have hL1:0<L.length:=List.length_pos_iff.2 hL0
     go_wp2_with fail
     refine (pop_any w wr w.heap.size _ L I.out.1 I.out.2.1 hL0 (by omega)).mono ?_
     rintro e w1 ⟨x,v',L',rfl,p1,p2,p3,p4,p5,p6⟩
     have hxL:x∈L:=p2.mem_iff.1 (by simp)
     have hxO:=I.out.1.ok x hxL
     have XO:=hid hxO
     obtain ⟨b,off,ha,hn0,hln,c0,c1,c2⟩:=(hxO.ext p1.base).first
     have hblt:b<w.heap.size:=by
      obtain ⟨b',off',ha',_,_,c0',_⟩:=hxO.first
      have hq:=yaf w _ c0'
      rw [ha] at ha';simp at ha';obtain ⟨rfl,rfl⟩:=ha';exact hq
     have hxc:=hxO.2.2
     have htot:tot L=x.l.length+tot L':=by rw [←tot_perm p2,tot_cons]
     have hL'l:L'.length+1=L.length:=by have:=p2.length_eq;simpa using this
     have P:=hid (show HeapAt w w1 w.heap.size v' L'∧(x::L').Perm L∧Heap leC L'∧(∀y∈L,leC x y) from ⟨p1,p2,p3,p4⟩)
     have ROW:Hid (Row w1 76 3 (.slice oa out.length oc) out.length (pts out)):=hid (I.out.2.2.2.1.chg p5 (fun g hg=>by
      have:=I.out.2.2.2.2 g hg
      rintro (e|e)
      ·omega
      ·exact this.2 e))
     have OWN:Hid (∀g,(Value.slice oa out.length oc).ownBlock=some g→w.heap.size<g∧v'.ownBlock≠some g∧g<w1.heap.size):=hid (fun g hg=>by
      have:=I.out.2.2.2.2 g hg
      rw [p6];exact ⟨this.1,this.2,ROW.out.lt hg⟩)
     have MI:Hid (MInv (ls.map Sl.l) out (x::L')):=hid (I.out.2.2.1.perm p2)
     have hxln:x.l.length=x.n:=hln
     have HLN:=hid hln
     have HTOT:=hid htot;have HL'L:=hid hL'l
     have hsz1:w.heap.size<w1.heap.size:=zab p1.blk
     clear hxO p1 p2 p3 p4 p5 p6 I hv hln htot hL'l hxln
     unfold Cur.val
     rw [ha]
     have HXA:=hid ha
     obtain ⟨xn,hxn⟩:∃xn,xn=x.n:=⟨_,rfl⟩
     obtain ⟨xc,hxc'⟩:∃xc,xc=x.c:=⟨_,rfl⟩
     rw [←hxn,←hxc']
     rw [←hxn,←hxc'] at hxc
     rw [←hxn] at hn0
     have HXN:=hid hxn;have HXC:=hid hxc'
     clear ha hxn hxc'
     go_wp2_with fail
     generalize hW2:World.alloc _ _=W2
     have HX2:Hid (Ext w1 W2):=hid (by subst hW2;exact (Ext.refl w1).alloc _)
     have B8:Hid (W2.heap[w1.heap.size]?=some (.cells #[.slice (some ⟨b,off,none⟩) xn xc,.int .i64 x.i] 173 (0,0))):=hid (by subst hW2;exact heap_alloc_new w1 _)
     clear hW2
     have hb1:b<w1.heap.size:=yaf w1 _ c0
     replace c0:=(HX2.out.cell (p:=⟨b,off,none⟩) hb1).trans c0
     replace c1:=(HX2.out.cell (p:=⟨b,off+1,none⟩) hb1).trans c1
     replace c2:=(HX2.out.cell (p:=⟨b,off+2,none⟩) hb1).trans c2
     have d0:W2.cell? ⟨w1.heap.size,0,none⟩=some (.slice (some ⟨b,off,none⟩) xn xc):=by have:=zaa B8.out 0;simpa using this
     have fin:Hid (∀(out':List Pt) (W4:World),((out'=out++[x.p]∧∀p∈out,p.t<x.p.t)∨(out'=out∧∃p∈out,x.p.t≤p.t))→out'.length+tot L'+(x.l.length-1)≤totS ls):=hid (fun out' W4 ho=>by
      have h1:=HTOT.out
      have h2:0<x.l.length:=List.length_pos_iff.2 XO.out.2.1
      rcases ho with ⟨rfl,_⟩|⟨rfl,_⟩
      ·simp;omega
      ·omega)
     have hsp:out=[]∨(∃(ob:Nat) (q:Pt),oa=some ⟨ob,0,none⟩∧0<out.length∧W2.cell? ⟨ob,(out.length-1)*3,none⟩=some (.int .i64 q.t)∧out.getLast?=some q):=by
      rcases Nat.eq_zero_or_pos out.length with h0|h0
      ·exact .inl (yau.1 h0)
      ·right
       obtain ⟨ob,oo,q,h1,h2,h3,_,_⟩:=zbz (row_src (ROW.out.ext HX2.out)) (show out.length-1<out.length by omega)
       have hoo:oo=0:=by
        obtain ⟨_,⟨e,_⟩|⟨g',cap,cur,e,_⟩⟩:=ROW.out
        ·simp at e;omega
        ·rw [h1] at e;simp at e;omega
       subst hoo
       refine ⟨ob,q,h1,h0,by simpa using h3,?_⟩
       rw [List.getLast?_eq_getElem?];exact h2
     have hcap:(xn=1∧xc=1)∨(xn=1∧1<xc)∨1<xn:=by omega
     by_cases hcase:out=[]∨∃q,out.getLast?=some q∧q.t<x.p.t
     ·have HO':Hid (∀p∈out,p.t<x.p.t):=hid (by
       rcases hcase with rfl|⟨q,hq,hlt⟩
       ·simp
       ·exact MI.out.rises.lt_of_last hq hlt)
      have hol:out.length+1<4000:=by
       have h1:=HTOT.out
       have h2:0<x.l.length:=List.length_pos_iff.2 XO.out.2.1
       omega
      obtain ⟨out',hout'⟩:∃o,o=out++[x.p]:=⟨_,rfl⟩
      have HE:Hid (out.length+1=out'.length):=hid (by rw [hout'];simp)
      have HOUT:=hid hout';clear hout'
      rcases hsp with rfl|⟨ob,q,rfl,hol0,hq,hql⟩
      case' inl =>
       clear hcase
       go_quiet (fail)
      case' inr =>
       have hlt:q.t<x.p.t:=by
        rcases hcase with e|⟨q',hq',hlt⟩
        ·subst e;simp at hol0
        ·rw [hql] at hq';cases hq';exact hlt
       have hb0:((out.length:Int)==0)=false:=by rw [yam];omega
       clear hcase hql
       go_quiet (fail)
       clear hb0 hq
      all_goals
       rcases hcap with ⟨rfl,rfl⟩|⟨rfl,hcap⟩|hcap
       ·go_wp2_with (at_builtin;refine zah zdi rfl _ _ rfl (v:=.slice _ _ _) rfl rfl (((ROW.out.ext HX2.out).ext (Ext.drewN _ _)).alloc _) (src_pt _ _ _) (by unfold maxLen;omega) (by omega) ?_;intro vo' w3 happ;have K:=hid (Looked.app HOUT.out P.out.1 HX2.out ((Ext.drewN _ _).alloc _) ROW.out OWN.out HO'.out B8.out happ);have d3:w3.cell? ⟨w1.heap.size,0,none⟩=some (.slice (some ⟨b,off,none⟩) _ _):=by { have:=zaa K.out.blk 0;simpa using this };have d4:w3.cell? ⟨w1.heap.size,1,none⟩=some (.int .i64 x.i):=by { have:=zaa K.out.blk 1;simpa using this };have f3:=zan K.out.blk 0;obtain ⟨oa',oc',rfl⟩:=happ.row.shape;clear happ c0 c1 c2 d0)
        have hti:x.l.tail=[]:=by
         have h1:=HLN.out;have h2:=HXN.out
         apply yau.1;simp;omega
        have HM:Hid (∀u,MgInv w ls _ _ v' L' (w3.setCell ⟨w1.heap.size,0,none⟩ u)):=hid (fun u=>K.out.stay u P.out.2.2.1 MI.out (fun y hy=>P.out.2.2.2 y (P.out.2.1.mem_iff.1 hy)) hti)
        have hle:=fin.out _ w3 K.out.how
        have hxl0:0<x.l.length:=List.length_pos_iff.2 XO.out.2.1
        have h5:=HTOT.out;have h6:=HL'L.out
        go_roundg (tot L')
        case measure=>omega
        case rel=>exact ⟨out',oa',oc',v',L',congrArg (fun n=>Value.slice oa' n oc') HE.out,Nat.le_refl _,by omega,by omega,hid (Eq.mp (congrArg (fun n=>MgInv w ls out' (.slice oa' n oc') v' L' _) HE.out) (HM.out _))⟩
       ·go_wp2_with (at_builtin;refine zah zdi rfl _ _ rfl (v:=.slice _ _ _) rfl rfl (((ROW.out.ext HX2.out).ext (Ext.drewN _ _)).alloc _) (src_pt _ _ _) (by unfold maxLen;omega) (by omega) ?_;intro vo' w3 happ;have K:=hid (Looked.app HOUT.out P.out.1 HX2.out ((Ext.drewN _ _).alloc _) ROW.out OWN.out HO'.out B8.out happ);have d3:w3.cell? ⟨w1.heap.size,0,none⟩=some (.slice (some ⟨b,off,none⟩) _ _):=by { have:=zaa K.out.blk 0;simpa using this };have d4:w3.cell? ⟨w1.heap.size,1,none⟩=some (.int .i64 x.i):=by { have:=zaa K.out.blk 1;simpa using this };have f3:=zan K.out.blk 0;obtain ⟨oa',oc',rfl⟩:=happ.row.shape;clear happ c0 c1 c2 d0)
        have hti:x.l.tail=[]:=by
         have h1:=HLN.out;have h2:=HXN.out
         apply yau.1;simp;omega
        have HM:Hid (∀u,MgInv w ls _ _ v' L' (w3.setCell ⟨w1.heap.size,0,none⟩ u)):=hid (fun u=>K.out.stay u P.out.2.2.1 MI.out (fun y hy=>P.out.2.2.2 y (P.out.2.1.mem_iff.1 hy)) hti)
        have hle:=fin.out _ w3 K.out.how
        have hxl0:0<x.l.length:=List.length_pos_iff.2 XO.out.2.1
        have h5:=HTOT.out;have h6:=HL'L.out
        go_roundg (tot L')
        case measure=>omega
        case rel=>exact ⟨out',oa',oc',v',L',congrArg (fun n=>Value.slice oa' n oc') HE.out,Nat.le_refl _,by omega,by omega,hid (Eq.mp (congrArg (fun n=>MgInv w ls out' (.slice oa' n oc') v' L' _) HE.out) (HM.out _))⟩
       ·go_wp2_with (at_builtin;refine zah zdi rfl _ _ rfl (v:=.slice _ _ _) rfl rfl (((ROW.out.ext HX2.out).ext (Ext.drewN _ _)).alloc _) (src_pt _ _ _) (by unfold maxLen;omega) (by omega) ?_;intro vo' w3 happ;have K:=hid (Looked.app HOUT.out P.out.1 HX2.out ((Ext.drewN _ _).alloc _) ROW.out OWN.out HO'.out B8.out happ);have d3:w3.cell? ⟨w1.heap.size,0,none⟩=some (.slice (some ⟨b,off,none⟩) _ _):=by { have:=zaa K.out.blk 0;simpa using this };have d4:w3.cell? ⟨w1.heap.size,1,none⟩=some (.int .i64 x.i):=by { have:=zaa K.out.blk 1;simpa using this };have f3:=zan K.out.blk 0;obtain ⟨oa',oc',rfl⟩:=happ.row.shape;clear happ c0 c1 c2 d0)
        have hxl1:1<x.l.length:=by have h1:=HLN.out;have h2:=HXN.out;omega
        have hyo:Cur.Ok w ⟨some ⟨b,off+3,none⟩,xn-1,xc-1,x.l.tail,x.i⟩:=by
         refine ⟨?_,?_,?_⟩
         ·have h1:=XO.out.1
          rw [HXA.out,←HXN.out,←HXC.out] at h1
          exact src_tail h1 hn0
         ·intro e;have:=congrArg List.length e;simp at this;omega
         ·show xn-1≤xc-1;omega
        have h6:=HL'L.out
        refine (push_any w _ w.heap.size v' L' ⟨some ⟨b,off+3,none⟩,xn-1,xc-1,x.l.tail,x.i⟩ (K.out.set _).1 P.out.2.2.1 hyo (by omega)).mono ?_
        rintro e w6 ⟨rfl,hp⟩
        obtain ⟨v'',L'',g1,g2,g3⟩:=K.out.push (ls:=ls) (y:=⟨some ⟨b,off+3,none⟩,xn-1,xc-1,x.l.tail,x.i⟩) _ MI.out (fun y hy=>P.out.2.2.2 y (P.out.2.1.mem_iff.1 hy)) rfl rfl hyo.2.1 hp
        have G1:=hid g1;have G2:=hid g2;have G3:=hid g3
        have hle:=hid (fin.out _ w3 K.out.how)
        clear hp g1 g2 g3 hyo h6
        go_wp2_with fail
        go_roundg (tot L'')
        case measure=>have h5:=HTOT.out;have h7:=G2.out;simp at h7;omega
        case rel=>exact ⟨out',oa',oc',v'',L'',congrArg (fun n=>Value.slice oa' n oc') HE.out,Nat.le_refl _,by (have h7:=G2.out;have h8:=hle.out;simp at h7 h8 ⊢;omega),by (have h7:=G3.out;have h8:=HL'L.out;omega),hid (Eq.mp (congrArg (fun n=>MgInv w ls out' (.slice oa' n oc') v'' L'' _) HE.out) G1.out)⟩
     ·obtain ⟨ob,q,rfl,hol0,hq,hql⟩:∃(ob:Nat) (q:Pt),oa=some ⟨ob,0,none⟩∧0<out.length∧W2.cell? ⟨ob,(out.length-1)*3,none⟩=some (.int .i64 q.t)∧out.getLast?=some q:=by
       rcases hsp with e|h
       ·exact absurd (.inl e) hcase
       ·exact h
      have hlt:¬q.t<x.p.t:=fun h=>hcase (.inr ⟨q,hql,h⟩)
      have HO':Hid (∃p∈out,x.p.t≤p.t):=hid ⟨q,List.mem_of_getLast? hql,by omega⟩
      have hb0:((out.length:Int)==0)=false:=by rw [yam];omega
      clear hcase hql hsp
      go_quiet (fail)
      generalize hw3:W2.drewN nq=w3
      have K:=hid (Looked.same P.out.1 HX2.out (show Ext W2 w3 from by subst hw3;exact Ext.drewN _ _) ROW.out OWN.out HO'.out B8.out)
      have d3:w3.cell? ⟨w1.heap.size,0,none⟩=some (.slice (some ⟨b,off,none⟩) xn xc):=by have:=zaa K.out.blk 0;simpa using this
      have d4:w3.cell? ⟨w1.heap.size,1,none⟩=some (.int .i64 x.i):=by have:=zaa K.out.blk 1;simpa using this
      have f3:=zan K.out.blk 0
      obtain ⟨oa',hoa'⟩:∃oa':Option Addr,oa'=some ⟨ob,0,none⟩:=⟨_,rfl⟩
      obtain ⟨oc',hoc'⟩:∃oc':Nat,oc'=oc:=⟨_,rfl⟩
      rw [←hoa',←hoc'] at K
      rw [←hoa',←hoc']
      clear hw3 c0 c1 c2 d0 hq hb0 hoa' hoc'
      rcases hcap with ⟨rfl,rfl⟩|⟨rfl,hcap⟩|hcap
      ·go_wp2_with fail
       have hti:x.l.tail=[]:=by
        have h1:=HLN.out;have h2:=HXN.out
        apply yau.1;simp;omega
       have HM:Hid (∀u,MgInv w ls _ _ v' L' (w3.setCell ⟨w1.heap.size,0,none⟩ u)):=hid (fun u=>K.out.stay u P.out.2.2.1 MI.out (fun y hy=>P.out.2.2.2 y (P.out.2.1.mem_iff.1 hy)) hti)
       have hle:=fin.out _ w3 K.out.how
       have hxl0:0<x.l.length:=List.length_pos_iff.2 XO.out.2.1
       have h5:=HTOT.out;have h6:=HL'L.out
       go_roundg (tot L')
       case measure=>omega
       case rel=>exact ⟨_,oa',oc',v',L',rfl,Nat.le_refl _,by omega,by omega,hid (HM.out _)⟩
      ·go_wp2_with fail
       have hti:x.l.tail=[]:=by
        have h1:=HLN.out;have h2:=HXN.out
        apply yau.1;simp;omega
       have HM:Hid (∀u,MgInv w ls _ _ v' L' (w3.setCell ⟨w1.heap.size,0,none⟩ u)):=hid (fun u=>K.out.stay u P.out.2.2.1 MI.out (fun y hy=>P.out.2.2.2 y (P.out.2.1.mem_iff.1 hy)) hti)
       have hle:=fin.out _ w3 K.out.how
       have hxl0:0<x.l.length:=List.length_pos_iff.2 XO.out.2.1
       have h5:=HTOT.out;have h6:=HL'L.out
       go_roundg (tot L')
       case measure=>omega
       case rel=>exact ⟨_,oa',oc',v',L',rfl,Nat.le_refl _,by omega,by omega,hid (HM.out _)⟩
      ·go_wp2_with fail
       have hxl1:1<x.l.length:=by have h1:=HLN.out;have h2:=HXN.out;omega
       have hyo:Cur.Ok w ⟨some ⟨b,off+3,none⟩,xn-1,xc-1,x.l.tail,x.i⟩:=by
        refine ⟨?_,?_,?_⟩
        ·have h1:=XO.out.1
         rw [HXA.out,←HXN.out,←HXC.out] at h1
         exact src_tail h1 hn0
        ·intro e;have:=congrArg List.length e;simp at this;omega
        ·show xn-1≤xc-1;omega
       have h6:=HL'L.out
       refine (push_any w _ w.heap.size v' L' ⟨some ⟨b,off+3,none⟩,xn-1,xc-1,x.l.tail,x.i⟩ (K.out.set _).1 P.out.2.2.1 hyo (by omega)).mono ?_
       rintro e w6 ⟨rfl,hp⟩
       obtain ⟨v'',L'',g1,g2,g3⟩:=K.out.push (ls:=ls) (y:=⟨some ⟨b,off+3,none⟩,xn-1,xc-1,x.l.tail,x.i⟩) _ MI.out (fun y hy=>P.out.2.2.2 y (P.out.2.1.mem_iff.1 hy)) rfl rfl hyo.2.1 hp
       have G1:=hid g1;have G2:=hid g2;have G3:=hid g3
       have hle:=hid (fin.out _ w3 K.out.how)
       clear hp g1 g2 g3 hyo h6
       go_wp2_with fail
       go_roundg (tot L'')
       case measure=>have h5:=HTOT.out;have h7:=G2.out;simp at h7;omega
       case rel=>exact ⟨_,oa',oc',v'',L'',rfl,Nat.le_refl _,by (have h7:=G2.out;have h8:=hle.out;simp at h7 h8 ⊢;omega),by (have h7:=G3.out;have h8:=HL'L.out;omega),G1⟩
end
end Go.Proofs.YtlmfhjipbjkcbaaGreatDoor
