/- x -/
import Derived.StillTail
import Derived.BigQuiet
set_option linter.unusedSimpArgs false
set_option linter.unusedVariables false
namespace Go.Proofs.YtlmfhjipbjkcbaaGreatDoor
open Go
section
variable {P:Program} {ops:Array Oper} {md:Region.Mode} {C:World→Prop} {Q:Exit→Act→World→Prop}
def zac (l:List Oper):List Nat→List Oper
 | []=>[]
 | i::is=>match l[i]? with
  | some o=>o::zac l is
  | none=>zac l is
def isVal:Op→Bool
 | .move _|.assign _|.pick ..|.nilCheck _|.fieldAddr ..|.field ..|.binOp ..|.unOp ..|.indexAddr ..|.index ..|.extract ..|.build ..|.load ..|.lookup ..|.slice ..|.convert ..=>true
 | _=>false
theorem run_isVal {o:Oper}(h:isVal o.op=true) (ρ:Operand→Value) (w w':World) (n:Next) (hr:(execOp ρ o).run P w=.ok n w'):∃v,n=.value v:=by
 have key:∀(s:Sem Value),(do let x ←s;pure (Next.value x):Sem Next).run P w=.ok n w'→∃v,n=.value v:=by
  intro s hs
  simp only [Sem.run_bind] at hs
  cases hx:s.run P w with
  | ok x w1=>rw [hx] at hs;simp [Result.andThen,Sem.run_pure] at hs;exact ⟨x,hs.1.symm⟩
  | halt x w1=>rw [hx] at hs;simp [Result.andThen] at hs
 unfold execOp at hr
 cases ho:o.op<;>rw [ho] at h hr<;>simp only [isVal,Bool.false_eq_true] at h<;>dsimp only at hr
 case move x=>simp [Sem.run_pure] at hr;exact ⟨_,hr.1.symm⟩
 case assign x=>simp [Sem.run_pure] at hr;exact ⟨_,hr.1.symm⟩
 case pick c x y =>
  simp only [Sem.run_bind] at hr
  cases hx:(asBool (ρ c)).run P w with
  | ok x w1=>rw [hx] at hr;simp [Result.andThen,Sem.run_pure] at hr;exact ⟨_,hr.1.symm⟩
  | halt x w1=>rw [hx] at hr;simp [Result.andThen] at hr
 case nilCheck x =>
  have hp:∀(α:Type) (w:World) (x:α) (w':World),(runtimePanic (α:=α) .nilDeref).run P w≠.ok x w':=by
   intro α w x w' hh
   simp [runtimePanic,goPanic,program,Sem.run] at hh
  cases hv:ρ x<;>rw [hv] at hr<;>(try dsimp only at hr)
  case pointer a=>cases a<;>(try dsimp only at hr)<;>first|exact absurd hr (hp _ _ _ _)|(simp [Sem.run_pure] at hr;exact ⟨_,hr.1.symm⟩)
  case nilIface=>exact absurd hr (hp _ _ _ _)
  case nilFunc=>exact absurd hr (hp _ _ _ _)
  case func fn first cap =>
   cases fn<;>(try dsimp only at hr)
   case method name =>
    split at hr
    ·exact absurd hr (hp _ _ _ _)
    ·simp [program,Sem.run,Result.andThen,unsupported] at hr
     generalize Sem.run P (nilAhead _ _ _ _) w=r at hr
     cases r with
     | halt x w1=>simp at hr
     | ok b w1 =>
      dsimp only at hr
      split at hr
      ·simp at hr;exact ⟨_,hr.1.symm⟩
      ·simp at hr
    ·simp [Sem.run_pure] at hr;exact ⟨_,hr.1.symm⟩
   all_goals (simp [Sem.run_pure] at hr;exact ⟨_,hr.1.symm⟩)
  all_goals (simp [Sem.run_pure] at hr;exact ⟨_,hr.1.symm⟩)
 all_goals exact key _ hr
def seqQ (md:Region.Mode) (ops:Array Oper):List Nat→Array Bool→Bool
 | [],listed=>(Region.ready md ops listed).isEmpty
 | i::q,listed=>decide (Region.ready md ops listed=[i])&&seqQ md ops q (listed.setIfInBounds i true)
theorem zcd {l:List Oper}{i:Nat}{o:Oper}(h:l[i]?=some o) (is:List Nat):zac l (i::is)=o::zac l is:=by simp [zac,h]
theorem zdL {l:List Oper}:∀(q:List Nat) (listed:Array Bool) (a:Act) (w:World),seqQ md l.toArray q listed=true →
 wpList P l.toArray Q (zac l q) a w→wpAny P md l.toArray Q q.length listed a w
 | [],listed,a,w,hB,h=>⟨by simpa [seqQ] using hB,h⟩
 | i::q,listed,a,w,hB,h=>by
  simp only [seqQ,Bool.and_eq_true,decide_eq_true_eq] at hB
  obtain ⟨hr,hB'⟩:=hB
  have hi:i∈Region.ready md l.toArray listed:=by rw [hr];simp
  obtain ⟨_,o,ho,_⟩:=mem_ready.1 hi
  have ho':l[i]?=some o:=by simpa using ho
  rw [zcd ho'] at h
  refine wpAny_all hr (by simp) fun j hj=>?_
  simp at hj;subst hj
  unfold wpOp
  simp only [ho]
  simp only [wpList] at h
  split
  ·rename_i hw
   simp only [hw,if_true] at h
   exact h.imp (fun h=>Oper.wp_mono (fun a w h=>zdL q _ a w hB' h) h) id
  ·rename_i hw
   simp only [hw] at h
   exact zdL q _ _ _ hB' h
def edgeOn (md:Region.Mode) (ops:Array Oper) (i:Nat) (D:List Nat) (k:Nat):Bool :=
 match ops[k]? with
 | some o=>o.after.any fun e=>Region.binds md e&&(e.on==i || D.contains e.on)
 | none=>false
def zcy (md:Region.Mode) (ops:Array Oper) (i:Nat):List Nat :=
 (List.range ops.size).foldl (fun D k=>if edgeOn md ops i D k then k::D else D) []
def wpAnyB (P:Program) (md:Region.Mode) (ops:Array Oper) (C:World→Prop) (q:List Nat) (L:Array Bool→Act→Prop):Nat→Array Bool→Act→Prop
 | 0,listed,a=>L listed a
 | f+1,listed,a=>Region.ready md ops listed≠[]∧∀i∈Region.ready md ops listed,i∉q∧qOp P ops C i (wpAnyB P md ops C q L f (listed.setIfInBounds i true)) a
theorem zdf {i:Nat}{D:List Nat}{listed:Array Bool}(hD:∀k∈D,edgeOn md ops i D k=true) (hi:listed.getD i true=false) (hU:∀k∈D,listed.getD k false=false) {j:Nat}(hj:j∈Region.ready md ops listed):j∉D:=by
 intro hm
 have h:=hD j hm
 obtain ⟨_,o,ho,hall⟩:=mem_ready.1 hj
 simp only [edgeOn,ho] at h
 obtain ⟨e,he,hb⟩:=Array.any_eq_true'.1 h
 simp only [Bool.and_eq_true,Bool.or_eq_true,beq_iff_eq,List.contains_iff_mem] at hb
 have h1:=hall e he hb.1
 rcases hb.2 with h2|h2
 ·rw [h2,getD_both hi] at h1;cases h1
 ·rw [hU _ h2] at h1;cases h1
theorem wpAnyB_first {i:Nat}{oi:Oper}{v:Value}{q:List Nat}{L:Array Bool→Act→Prop}{D:List Nat}(hi:ops[i]?=some oi) (hsel:∀(j:Nat) (o:Oper) cs b,ops[j]?=some o→o.op≠.select cs b)
 (hD:∀k∈D,edgeOn md ops i D k=true) (hq:∀j∈q,j∈D) (hdone:∀listed a,L listed a→∀j∈Region.ready md ops listed,j∈q) :
 ∀(f:Nat) (listed:Array Bool) (a:Act),(∀k∈D,listed.getD k false=false) →
  (∀j oj,ops[j]?=some oj→j≠i→listed.getD j true=false→(∀e∈oj.after,Region.binds md e=true→e.on≠i)→oi.apart ops oj=true) →
  i∈Region.ready md ops listed→YieldsIn P ops C oi v a →
  wpAnyB P md ops C q L f (listed.setIfInBounds i true) (a.put oi.dst v)→wpAnyB P md ops C q L (f+1) listed a:=by
 intro f
 induction f with
 | zero =>
  intro listed a hU _ hr hy H
  have hun:=(mem_ready.1 hr).1
  refine ⟨fun h=>(by rw [h] at hr;cases hr),fun j hj=>?_⟩
  have hjD:=zdf hD hun hU hj
  refine ⟨fun hh=>hjD (hq j hh),?_⟩
  by_cases hji:j=i
  ·subst hji;exact hy.qOp hi H
  ·exact absurd (hq j (hdone _ _ H j (ready_mono hj hji))) hjD
 | succ f ih =>
  intro listed a hU hfree hr hy H
  have hun:=(mem_ready.1 hr).1
  refine ⟨fun h=>(by rw [h] at hr;cases hr),fun j hj=>?_⟩
  have hjD:=zdf hD hun hU hj
  refine ⟨fun hh=>hjD (hq j hh),?_⟩
  by_cases hji:j=i
  ·subst hji;exact hy.qOp hi H
  ·have h1:=(H.2 j (ready_mono hj hji)).2
   obtain ⟨hjun,oj,hoj,hall⟩:=mem_ready.1 hj
   have hnot:∀e∈oj.after,Region.binds md e=true→e.on≠i:=fun e he hb heq=>by
    have h1:=hall e he hb
    rw [heq,getD_both hun] at h1
    cases h1
   have h2:=qOp_put hoj (hfree j oj hoj hji hjun hnot) (fun cs b=>hsel i oi cs b hi) (fun cs b=>hsel j oj cs b hoj) hy h1
   have hfree':∀k ok,ops[k]?=some ok→k≠i→(listed.setIfInBounds j true).getD k true=false →
    (∀e∈ok.after,Region.binds md e=true→e.on≠i)→oi.apart ops ok=true:=fun k ok hk hki hun hno=>by
    refine hfree k ok hk hki ?_ hno
    by_cases hjk:j=k
    ·subst hjk;exact hjun
    ·rw [getD_set_ne true hjk] at hun;exact hun
   refine qOp_mono (fun a' h3=>ih (listed.setIfInBounds j true) a' (fun k hk=>by rw [getD_set_ne false (fun e=>hjD (by rw [e];exact hk))];exact hU k hk) hfree' (ready_mono hr (Ne.symm hji)) h3.1 ?_) h2
   rw [Array.setIfInBounds_comm _ _ hji]
   exact h3.2
def quietQ (md:Region.Mode) (ops:Array Oper) (q:List Nat):List Nat→Array Bool→Bool
 | [],listed=>seqQ md ops q listed
 | i::p,listed=>(Region.ready md ops listed).contains i&&Region.free md ops listed i &&
  ((zcy md ops i).all (fun k=>edgeOn md ops i (zcy md ops i) k)&&q.all (fun j=>(zcy md ops i).contains j)&&(zcy md ops i).all (fun k=>!listed.getD k false)) &&
  quietQ md ops q p (listed.setIfInBounds i true)
theorem seqQ_done {q:List Nat}{listed:Array Bool}(h:seqQ md ops q listed=true):∀j∈Region.ready md ops listed,j∈q:=by
 intro j hj
 cases q with
 | nil=>simp [seqQ] at h;rw [h] at hj;cases hj
 | cons i q =>
  simp only [seqQ,Bool.and_eq_true,decide_eq_true_eq] at h
  rw [h.1] at hj
  simp at hj;subst hj;simp
theorem wpAnyB_lex {l:List Oper}{q:List Nat}{K:Act→Prop}(hs:Region.noSelect l.toArray=true):∀(p:List Nat) (listed:Array Bool) (a:Act),quietQ md l.toArray q p listed=true →
 wpQuiet P l.toArray C K (zac l p) a→wpAnyB P md l.toArray C q (fun listed a=>seqQ md l.toArray q listed=true∧K a) p.length listed a
 | [],listed,a,hB,h=>⟨hB,h⟩
 | i::p,listed,a,hB,h=>by
  simp only [quietQ,Bool.and_eq_true,List.all_eq_true,List.contains_iff_mem,Bool.not_eq_true'] at hB
  obtain ⟨⟨⟨hr,hf⟩,⟨hD,hq⟩,hU⟩,hB'⟩:=hB
  obtain ⟨_,o,ho,_⟩:=mem_ready.1 hr
  have ho':l[i]?=some o:=by simpa using ho
  rw [zcd ho'] at h
  have hst:qOp P l.toArray C i (wpQuiet P l.toArray C K (zac l p)) a:=by unfold qOp;simp only [ho];exact h
  obtain ⟨v,hy,hK⟩:=yieldsIn_of_qOp ho hst
  exact wpAnyB_first ho (Region.noSelect_spec hs) hD hq (fun _ _ h=>seqQ_done h.1) p.length listed a hU (Region.free_spec ho hf) hr hy (wpAnyB_lex hs p _ _ hB' hK)
theorem wpAny_of_B {q:List Nat}{g:Nat}{L:Array Bool→Act→Prop}(hL:∀listed a,L listed a→∀w,C w→wpAny P md ops Q g listed a w):∀(f:Nat) (listed:Array Bool) (a:Act),wpAnyB P md ops C q L f listed a→∀w,C w→wpAny P md ops Q (f+g) listed a w
 | 0,_,_,h,w,hw=>by rw [Nat.zero_add];exact hL _ _ h w hw
 | f+1,listed,a,h,w,hw=>by
  rw [show f+1+g=(f+g)+1 by omega]
  exact ⟨fun h0=>absurd h0 h.1,fun i hi=>wpOp_of_qOp hw (fun a' w' hw' h'=>wpAny_of_B hL f _ a' h' w' hw') (h.2 i hi).2⟩
def freeQ (md:Region.Mode) (ops:Array Oper) (p q:List Nat):List Nat→Array Bool→Bool
 | [],listed=>quietQ md ops q p listed
 | i::p0,listed=>(Region.ready md ops listed).contains i&&Region.free md ops listed i&&(match ops[i]? with|some o=>isVal o.op|none=>false)&&freeQ md ops p q p0 (listed.setIfInBounds i true)
theorem wpAny_of_free {l:List Oper}{p q:List Nat}{g:Nat}{w:World}{K:Act→Prop}(hs:Region.noSelect l.toArray=true) (hQ:∀c a d v w,Q (.panic c) (a.put d v) w→Q (.panic c) a w)
 (hK:∀listed a,quietQ md l.toArray q p listed=true→K a→wpAny P md l.toArray Q g listed a w):∀(p0:List Nat) (listed:Array Bool) (a:Act),freeQ md l.toArray p q p0 listed=true →
 wpQuiet P l.toArray (fun _=>True) K (zac l p0) a→wpAny P md l.toArray Q (p0.length+g) listed a w
 | [],listed,a,hB,h=>by rw [List.length_nil,Nat.zero_add];exact hK _ _ hB h
 | i::p0,listed,a,hB,h=>by
  simp only [freeQ,Bool.and_eq_true] at hB
  obtain ⟨⟨⟨hr,hf⟩,hv⟩,hB'⟩:=hB
  have hr':i∈Region.ready md l.toArray listed:=by simpa using hr
  obtain ⟨_,o,ho,_⟩:=mem_ready.1 hr'
  rw [ho] at hv
  have ho':l[i]?=some o:=by simpa using ho
  rw [zcd ho'] at h
  have hst:qOp P l.toArray (fun _=>True) i (wpQuiet P l.toArray (fun _=>True) K (zac l p0)) a:=by unfold qOp;simp only [ho];exact h
  obtain ⟨v,hy,hK'⟩:=yieldsIn_of_qOp ho hst
  have hy':Yields P l.toArray o v a:=by
   rcases hy with ⟨hw,hh⟩|hh
   ·refine .inl ⟨hw,fun w=>?_⟩
    have h1:=hh w trivial
    unfold Oper.quietAt at h1
    cases hrun:(execOp a.eval o).run P w with
    | halt x w'=>rw [hrun] at h1;simp [Oper.quietUpon] at h1
    | ok n w' =>
     rw [hrun] at h1
     obtain ⟨u,rfl⟩:=run_isVal hv _ _ _ _ hrun
     simp only [Oper.quietUpon] at h1
     rw [h1.1,h1.2]
   ·exact .inr hh
  rw [show (i::p0).length+g=(p0.length+g)+1 by simp;omega]
  exact wpAny_take ho hs hf hr (fun c a w=>hQ c a _ _ w) hy' (wpAny_of_free hs hQ hK p0 _ _ hB' hK')
def splitB (ops:Array Oper) (p0 p1 q:List Nat):Bool :=
 Region.noSelect ops&&freeQ .any ops p1 q p0 (Array.replicate ops.size false)&&decide (p0.length+(p1.length+q.length)=ops.size)
theorem wp_region_split {id:Nat}{a:Act}{w:World}{l:List Oper}(p0 p1 q:List Nat) (hm:P.follows .mixedOrders=true) (hB:splitB l.toArray p0 p1 q=true)
 (hQ:∀c a d v w,Q (.panic c) (a.put d v) w→Q (.panic c) a w) (hC:C { w with drawn:=w.drawn+1 })
 (h:wpQuiet P l.toArray (fun _=>True) (fun a1=>wpQuiet P l.toArray C (fun a2=>∀w',C w'→wpList P l.toArray Q (zac l q) a2 w') (zac l p1) a1) (zac l p0) a) :
 (Code.region id l.toArray true).wp P Q a w:=by
 simp only [splitB,Bool.and_eq_true,decide_eq_true_eq] at hB
 obtain ⟨⟨hs,hf⟩,hn⟩:=hB
 refine wp_region_any hm ?_
 have key:wpAny P .any l.toArray Q (p0.length+(p1.length+q.length)) (Array.replicate l.toArray.size false) a { w with drawn:=w.drawn+1 }:=by
  refine wpAny_of_free hs hQ ?_ p0 _ a hf h
  intro listed a1 hq h1
  exact wpAny_of_B (fun listed a hL w hw=>zdL q listed a w hL.1 (hL.2 w hw)) p1.length listed a1 (wpAnyB_lex hs p1 listed a1 hq h1) _ hC
 rw [hn] at key
 exact key
theorem zam {id:Nat}{a:Act}{w:World}{l:List Oper}(p0 p1 q:List Nat) (hm:P.follows .mixedOrders=true) (hB:splitB l.toArray p0 p1 q=true)
 (hQ:∀c a d v w,Q (.panic c) (a.put d v) w→Q (.panic c) a w)
 (h:wpQuiet P l.toArray (fun _=>True) (fun a1=>wpQuiet P l.toArray (fun w'=>∃n,w'=w.drewN n) (fun a2=>∀w',(∃n,w'=w.drewN n)→wpList P l.toArray Q (zac l q) a2 w') (zac l p1) a1) (zac l p0) a) :
 (Code.region id l.toArray true).wp P Q a w :=
 wp_region_split p0 p1 q hm hB hQ ⟨1,rfl⟩ h
end
end Go.Proofs.YtlmfhjipbjkcbaaGreatDoor
