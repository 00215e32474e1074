/- x -/
import Derived.Test.YtlmfhjipbjkcbaaGreatDoorLex
import Derived.Test.YtlmfhjipbjkcbaaGreatDoorMap
import Derived.OrdersHeld
set_option linter.unusedSimpArgs false
set_option linter.unusedVariables false
namespace Go.Proofs.YtlmfhjipbjkcbaaGreatDoor
section
open Go Go.Sort Go.RowKit
section
variable {P:Program} {md:Region.Mode} {S:World→Prop} {Q:Exit→Act→World→Prop}
def isLen (o:Op):Bool:=match o with
 | .call c=>(match c.callee with|.builtin .len=>true|_=>false)
 | _=>false
theorem run_isLen {o:Oper}(h:isLen o.op=true) (ρ:Operand→Value) (w w':World) (n:Next) (hr:(execOp ρ o).run P w=.ok n w'):∃v,n=.value v:=by
 unfold isLen at h
 split at h
 ·rename_i c hc
  split at h
  ·rename_i hb
   unfold execOp at hr
   rw [hc] at hr
   simp only [resolve,hb,invoke,builtin,Sem.run_bind,Sem.run_pure,Result.andThen_ok] at hr
   generalize hx:Sem.run P (Builtin.len_ _ _ _) w=r at hr
   cases r with
   | ok x w1=>simp [Result.andThen] at hr;exact ⟨x,hr.1.symm⟩
   | halt x w1=>simp [Result.andThen] at hr
  ·simp at h
 ·simp at h
def readsB (o:Op):Bool:=isVal o || isLen o
theorem run_reads {o:Oper}(h:readsB o.op=true) (ρ:Operand→Value) (w w':World) (n:Next) (hr:(execOp ρ o).run P w=.ok n w'):∃v,n=.value v:=by
 simp only [readsB,Bool.or_eq_true] at h
 rcases h with h|h
 ·exact run_isVal h ρ w w' n hr
 ·exact run_isLen h ρ w w' n hr
end
end
section
open Go Go.Sort Go.RowKit
def turned (w:World) (T:Nat→Bool) (d:Nat) (f:Nat→Obj) (os:Array Obj):World:={ w with drawn:=d,heap:=(w.heap.mapIdx fun k o=>if T k then f k else o)++os }
structure Turned where
 d:Nat
 f:Nat→Obj
 os:Array Obj
instance:Inhabited Turned:=⟨⟨0,fun _=>.map #[] 0,#[]⟩⟩
theorem chg_turned (w:World) (T:Nat→Bool) (d:Nat) (f:Nat→Obj) (os:Array Obj):Chg (fun k=>T k=true) w (turned w T d f os):=by
 refine ⟨rfl,rfl,rfl,by simp [turned],fun k hk hn=>?_⟩
 have:T k=false:=by simpa using hn
 simp [turned,Array.getElem?_append,hk,this]
theorem zas {w w':World}{T:Nat→Bool}(h:Chg (fun k=>T k=true) w w'):∃p:Turned,w'=turned w T p.d p.f p.os:=by
 refine ⟨⟨w'.drawn,fun k=>(w'.heap[k]?).getD (.map #[] 0),w'.heap.extract w.heap.size w'.heap.size⟩,?_⟩
 obtain ⟨heap',tape',drawn',os',output'⟩:=w'
 have e1:os'=w.os:=h.os
 have e2:tape'=w.tape:=h.tape
 have e3:output'=w.output:=h.output
 have hs:w.heap.size≤heap'.size:=h.size
 have hb:∀k,k<w.heap.size→¬T k=true→heap'[k]?=w.heap[k]?:=h.block
 subst e1 e2 e3
 simp only [turned]
 congr 1
 apply Array.ext_getElem?
 intro k
 by_cases hk:k<w.heap.size
 ·rw [Array.getElem?_append_left (by simpa using hk)]
  simp only [Array.getElem?_mapIdx]
  have hk':k<heap'.size:=by omega
  by_cases ht:T k=true
  ·simp [ht,hk,hk']
  ·rw [hb k hk ht];simp [ht,hk]
 ·rw [Array.getElem?_append_right (by simpa using hk),Array.getElem?_extract]
  simp only [Array.size_mapIdx]
  by_cases hk2:k<heap'.size
  ·rw [if_pos (by omega)];congr 1;omega
  ·rw [if_neg (by omega),Array.getElem?_eq_none (by omega)]
theorem zad {w w':World}{T:Nat→Bool}(h:Ext w w'):∃p:Turned,w'=turned w T p.d p.f p.os:=zas (Chg.of_ext h)
theorem zaf {w:World}{T:Nat→Bool}{a:Addr}{v:Value}(h:w.cell? a=some v) (hT:T a.block=false) (d:Nat) (f:Nat→Obj) (os:Array Obj):(turned w T d f os).cell? a=some v:=by
 rw [(chg_turned w T d f os).cell (yaf w _ h) (by rw [hT];simp)];exact h
inductive Plan where
 | done:Plan
 | reads:List Nat→Plan→Plan
 | one:Nat→Plan→Plan
 | two:Nat→Plan→Nat→Plan→Plan
 | three:Nat→Plan→Nat→Plan→Nat→Plan→Plan
section
variable {P:Program} {md:Region.Mode} {S:World→Prop} {Q:Exit→Act→World→Prop} {ops:Array Oper} {k0:Nat}
def zdq (P:Program) (md:Region.Mode) (ops:Array Oper) (Q:Exit→Act→World→Prop) (S:World→Prop) (k0:Nat):Nat→Array Bool→Act→World→Prop
 | 0,listed,a,w=>Region.ready md ops listed=[]∧Q .normal a w
 | fuel+1,listed,a,w =>
  (Region.ready md ops listed=[]→Q .normal a w) ∧
  ∀i∈Region.ready md ops listed,wpOp P ops Q i (fun a' w'=>((listed.setIfInBounds i true).getD k0 false=false→S w')∧zdq P md ops Q S k0 fuel (listed.setIfInBounds i true) a' w') a w
theorem wpAny_of_X:∀(fuel:Nat) (listed:Array Bool) (a:Act) (w:World),zdq P md ops Q S k0 fuel listed a w→wpAny P md ops Q fuel listed a w
 | 0,_,_,_,h=>h
 | fuel+1,_,_,_,h=>⟨h.1,fun i hi=>wpOp_mono (fun a' w' h'=>wpAny_of_X fuel _ a' w' h'.2) (h.2 i hi)⟩
theorem wpAnyX_first {i:Nat}{oi:Oper}{v:Value}{D:List Nat}(hi:ops[i]?=some oi) (hsel:∀(j:Nat) (o:Oper) cs b,ops[j]?=some o→o.op≠.select cs b)
 (hQ:∀c a w,Q (.panic c) (a.put oi.dst v) w→Q (.panic c) a w) (hD:∀k∈D,edgeOn md ops i D k=true) (hk0:k0∈D) :
 ∀(fuel:Nat) (listed:Array Bool) (a:Act) (w:World),(∀k∈D,listed.getD k false=false) →
  (∀j oj,ops[j]?=some oj→j≠i→listed.getD j true=false→(∀e∈oj.after,Region.binds md e=true→e.on≠i)→oi.apart ops oj=true) →
  i∈Region.ready md ops listed→YieldsIf P ops S oi v a→S w →
  zdq P md ops Q S k0 fuel (listed.setIfInBounds i true) (a.put oi.dst v) w→zdq P md ops Q S k0 (fuel+1) listed a w:=by
 intro fuel
 induction fuel with
 | zero =>
  intro listed a w _ _ hr hy hS H
  refine ⟨fun h=>(by rw [h] at hr;cases hr),fun j hj=>?_⟩
  by_cases hji:j=i
  ·subst hji;exact hy.wpOp hi hS ⟨fun _=>hS,H⟩
  ·have:=ready_mono hj hji
   rw [H.1] at this
   cases this
 | succ fuel ih =>
  intro listed a w hU hfree hr hy hS H
  have hun:=(mem_ready.1 hr).1
  refine ⟨fun h=>(by rw [h] at hr;cases hr),fun j hj=>?_⟩
  by_cases hji:j=i
  ·subst hji;exact hy.wpOp hi hS ⟨fun _=>hS,H⟩
  ·have h1:=H.2 j (ready_mono hj hji)
   obtain ⟨hjun,oj,hoj,hall⟩:=mem_ready.1 hj
   have hjD:=zdf hD hun hU hj
   have hiD:=zdf hD hun hU hr
   have hU':∀k∈D,(listed.setIfInBounds j true).getD k false=false:=fun k hk=>by rw [getD_set_ne false (fun e=>hjD (by rw [e];exact hk))];exact hU k hk
   have hnot:∀e∈oj.after,Region.binds md e=true→e.on≠i:=fun e he hb heq=>by
    have h1:=hall e he hb
    rw [heq,getD_both hun] at h1
    cases h1
   have h2:=wpOp_putIf hoj (hfree j oj hoj hji hjun hnot) (fun cs b=>hsel i oi cs b hi) (fun cs b=>hsel j oj cs b hoj) hQ hy h1
   have hfree':∀k ok,ops[k]?=some ok→k≠i→(listed.setIfInBounds j true).getD k true=false →
    (∀e∈ok.after,Region.binds md e=true→e.on≠i)→oi.apart ops ok=true:=fun k ok hk hki hun hno=>by
    refine hfree k ok hk hki ?_ hno
    by_cases hjk:j=k
    ·subst hjk;exact hjun
    ·rw [getD_set_ne true hjk] at hun;exact hun
   have hnk:((listed.setIfInBounds i true).setIfInBounds j true).getD k0 false=false:=by
    rw [getD_set_ne false (fun e=>hjD (by rw [e];exact hk0)),getD_set_ne false (fun e=>hiD (by rw [e];exact hk0))]
    exact hU k0 hk0
   refine wpOp_mono (fun a' w' h3=>⟨fun _=>h3.2.1 hnk,ih (listed.setIfInBounds j true) a' w' hU' hfree' (ready_mono hr (Ne.symm hji)) h3.1 (h3.2.1 hnk) ?_⟩) h2
   rw [Array.setIfInBounds_comm _ _ hji]
   exact h3.2.2
def thenX (b:Bool) (S:World→Prop) (Q:Exit→Act→World→Prop) (K:Act→World→Prop):Exit→Act→World→Prop
 | .normal,a,w=>(b=false→S w)∧K a w
 | e,a,w=>Q e a w
def zaA (P:Program) (l:List Oper) (k0:Nat) (S:World→Prop) (Q:Exit→Act→World→Prop):Plan→Bool→Act→World→Prop
 | .done,_,a,w=>Q .normal a w
 | .reads ps p,b,a,w=>wpQuiet P l.toArray S (fun a1=>zaA P l k0 S Q p b a1 w) (zac l ps) a
 | .one i p,b,a,w=>wpList P l.toArray (thenX (b || i==k0) S Q (zaA P l k0 S Q p (b || i==k0))) (zac l [i]) a w
 | .two i p j q,b,a,w=>wpList P l.toArray (thenX (b || i==k0) S Q (zaA P l k0 S Q p (b || i==k0))) (zac l [i]) a w∧wpList P l.toArray (thenX (b || j==k0) S Q (zaA P l k0 S Q q (b || j==k0))) (zac l [j]) a w
 | .three i p j q k r,b,a,w=>wpList P l.toArray (thenX (b || i==k0) S Q (zaA P l k0 S Q p (b || i==k0))) (zac l [i]) a w∧wpList P l.toArray (thenX (b || j==k0) S Q (zaA P l k0 S Q q (b || j==k0))) (zac l [j]) a w∧wpList P l.toArray (thenX (b || k==k0) S Q (zaA P l k0 S Q r (b || k==k0))) (zac l [k]) a w
section
variable {l:List Oper} {p q r:Plan} {a:Act} {w:World} {i j k:Nat} {ps:List Nat} {b:Bool}
theorem zak (h:wpQuiet P l.toArray S (fun a1=>zaA P l k0 S Q p b a1 w) (zac l ps) a):zaA P l k0 S Q (.reads ps p) b a w:=h
theorem zae (h:wpList P l.toArray (thenX (b || i==k0) S Q (zaA P l k0 S Q p (b || i==k0))) (zac l [i]) a w):zaA P l k0 S Q (.one i p) b a w:=h
theorem wpPlan_two (h:wpList P l.toArray (thenX (b || i==k0) S Q (zaA P l k0 S Q p (b || i==k0))) (zac l [i]) a w) (h':wpList P l.toArray (thenX (b || j==k0) S Q (zaA P l k0 S Q q (b || j==k0))) (zac l [j]) a w):zaA P l k0 S Q (.two i p j q) b a w:=⟨h,h'⟩
theorem wpPlan_three (h:wpList P l.toArray (thenX (b || i==k0) S Q (zaA P l k0 S Q p (b || i==k0))) (zac l [i]) a w) (h':wpList P l.toArray (thenX (b || j==k0) S Q (zaA P l k0 S Q q (b || j==k0))) (zac l [j]) a w) (h'':wpList P l.toArray (thenX (b || k==k0) S Q (zaA P l k0 S Q r (b || k==k0))) (zac l [k]) a w):zaA P l k0 S Q (.three i p j q k r) b a w:=⟨h,h',h''⟩
theorem zav (h:Q .normal a w):zaA P l k0 S Q .done b a w:=h
theorem zal {K:Act→World→Prop}(h:S w) (h':K a w):thenX b S Q K .normal a w:=⟨fun _=>h,h'⟩
theorem zau {K:Act→World→Prop}(h':K a w):thenX true S Q K .normal a w:=⟨(fun h=>by cases h),h'⟩
end
def takeOk (md:Region.Mode) (ops:Array Oper) (k0:Nat) (listed:Array Bool) (i:Nat):Bool :=
 (Region.ready md ops listed).contains i&&Region.free md ops listed i&&(match ops[i]? with|some o=>readsB o.op|none=>false) &&
  ((zcy md ops i).all (fun k=>edgeOn md ops i (zcy md ops i) k)&&(zcy md ops i).contains k0&&(zcy md ops i).all (fun k=>!listed.getD k false))
def takesX (md:Region.Mode) (ops:Array Oper) (k0:Nat):List Nat→Array Bool→Option (Array Bool)
 | [],listed=>some listed
 | i::ps,listed=>if takeOk md ops k0 listed i=true then takesX md ops k0 ps (listed.setIfInBounds i true) else none
def planB (md:Region.Mode) (ops:Array Oper) (k0:Nat):Plan→Array Bool→Bool
 | .done,listed=>(Region.ready md ops listed).isEmpty
 | .reads ps p,listed=>match takesX md ops k0 ps listed with
  | none=>false
  | some l1=>planB md ops k0 p l1
 | .one i p,listed=>decide (Region.ready md ops listed=[i])&&planB md ops k0 p (listed.setIfInBounds i true)
 | .two i p j q,listed=>decide (Region.ready md ops listed=[i,j])&&planB md ops k0 p (listed.setIfInBounds i true)&&planB md ops k0 q (listed.setIfInBounds j true)
 | .three i p j q k r,listed=>decide (Region.ready md ops listed=[i,j,k])&&planB md ops k0 p (listed.setIfInBounds i true)&&planB md ops k0 q (listed.setIfInBounds j true)&&planB md ops k0 r (listed.setIfInBounds k true)
def planN:Plan→Option Nat
 | .done=>some 0
 | .reads ps p=>(planN p).map (ps.length+·)
 | .one _ p=>(planN p).map (·+1)
 | .two _ p _ q=>match planN p,planN q with
  | some a,some b=>if a=b then some (a+1) else none
  | _,_=>none
 | .three _ p _ q _ r=>match planN p,planN q,planN r with
  | some a,some b,some c=>if a=b∧a=c then some (a+1) else none
  | _,_,_=>none
theorem wpAnyX_takes {l:List Oper}{K:Act→Prop}{w:World}{g:Nat}(hs:Region.noSelect l.toArray=true) (hQ:∀c a d v w,Q (.panic c) (a.put d v) w→Q (.panic c) a w) (hS:S w) :
 ∀(ps:List Nat) (listed l1:Array Bool) (a:Act),takesX md l.toArray k0 ps listed=some l1→(∀a1,K a1→zdq P md l.toArray Q S k0 g l1 a1 w) →
  wpQuiet P l.toArray S K (zac l ps) a→zdq P md l.toArray Q S k0 (ps.length+g) listed a w
 | [],listed,l1,a,hB,hK,h=>by
  simp [takesX] at hB;subst hB
  rw [List.length_nil,Nat.zero_add];exact hK a h
 | i::ps,listed,l1,a,hB,hK,h=>by
  simp only [takesX] at hB
  split at hB
  ·rename_i hc
   simp only [takeOk,yaK] at hc
   obtain ⟨⟨⟨hr,hf⟩,hv⟩,⟨hD,hk⟩,hU⟩:=hc
   have hr':i∈Region.ready md l.toArray listed:=by simpa using hr
   obtain ⟨_,o,ho,_⟩:=mem_ready.1 hr'
   rw [ho] at hv
   have ho':l[i]?=some o:=by simpa using ho
   rw [zcd ho'] at h
   have hst:qOp P l.toArray S i (wpQuiet P l.toArray S K (zac l ps)) a:=by unfold qOp;simp only [ho];exact h
   obtain ⟨v,hy,hK'⟩:=yieldsIn_of_qOp ho hst
   have hy':YieldsIf P l.toArray S o v a:=by
    rcases hy with ⟨hw,hh⟩|hh
    ·refine .inl ⟨hw,fun w hSw=>?_⟩
     have h1:=hh w hSw
     unfold Oper.quietAt at h1
     cases hrun:(execOp a.eval o).run P w with
     | halt x w'=>rw [hrun] at h1;simp [Oper.quietUpon] at h1
     | ok n w' =>
      rw [hrun] at h1
      obtain ⟨u,rfl⟩:=run_reads hv _ _ _ _ hrun
      simp only [Oper.quietUpon] at h1
      rw [h1.1,h1.2]
    ·exact .inr hh
   rw [show (i::ps).length+g=(ps.length+g)+1 by simp;omega]
   exact wpAnyX_first ho (Region.noSelect_spec hs) (fun c a w=>hQ c a _ _ w) (fun k hk=>yaV.1 hD k hk) (by simpa using hk) _ listed a w (fun k hk=>by simpa using yaV.1 hU k hk) (Region.free_spec ho hf) hr' hy' hS
    (wpAnyX_takes hs hQ hS ps _ _ _ hB hK hK')
  ·simp at hB
theorem zca {l:List Oper}{i:Nat}{g:Nat}{listed:Array Bool}{p:Plan}{b:Bool}{a:Act}{w:World}(hi:i∈Region.ready md l.toArray listed) (hb:(listed.setIfInBounds i true).getD k0 false=b)
 (hK:∀a w,(b=false→S w)→zaA P l k0 S Q p b a w→zdq P md l.toArray Q S k0 g (listed.setIfInBounds i true) a w) (h1:wpList P l.toArray (thenX b S Q (zaA P l k0 S Q p b)) (zac l [i]) a w) :
 wpOp P l.toArray Q i (fun a' w'=>((listed.setIfInBounds i true).getD k0 false=false→S w')∧zdq P md l.toArray Q S k0 g (listed.setIfInBounds i true) a' w') a w:=by
 obtain ⟨_,o,ho,_⟩:=mem_ready.1 hi
 have ho':l[i]?=some o:=by simpa using ho
 rw [hb]
 rw [zcd ho'] at h1
 simp only [zac,wpList] at h1
 unfold wpOp
 simp only [ho]
 split
 ·rename_i hw
  simp only [hw,if_true] at h1
  rcases h1 with h1|⟨h1,a0,w0,h2⟩
  ·refine .inl ?_
   unfold Oper.wp at h1 ⊢
   generalize (execOp a.eval o).run P w=r at *
   cases r with
   | ok n w' =>
    cases n<;>simp only [Oper.upon] at h1 ⊢
    case value u=>exact ⟨h1.1,hK _ _ h1.1 h1.2⟩
    case skip=>exact ⟨h1.1,hK _ _ h1.1 h1.2⟩
    case defer d=>exact ⟨h1.1,hK _ _ h1.1 h1.2⟩
    case enter f args =>
     refine Calls.mono h1 fun e w'' he=>?_
     cases e with
     | returned u=>exact ⟨he.1,hK _ _ he.1 he.2⟩
     | panicked c=>exact he
     | outgrown=>obtain ⟨x,y,hxy⟩:=he;exact ⟨x,y,hxy⟩
    case row row args=>exact Rows.mono h1 fun u w'' he=>⟨he.1,hK _ _ he.1 he.2⟩
   | halt x w' =>
    cases x<;>simp only [Oper.upon] at h1 ⊢
    case panic u=>exact h1
  ·exact .inr ⟨h1,a0,w0,h2⟩
 ·rename_i hw
  simp only [hw] at h1
  exact ⟨h1.1,hK _ _ h1.1 h1.2⟩
theorem zcC {listed:Array Bool}{i:Nat}(hi:i<listed.size):(listed.setIfInBounds i true).getD k0 false=(listed.getD k0 false || i==k0):=by
 by_cases e:i=k0
 ·subst e;simp [hi]
 ·rw [getD_set_ne false e];simp [e]
theorem zbd {l:List Oper}(hs:Region.noSelect l.toArray=true) (hQ:∀c a d v w,Q (.panic c) (a.put d v) w→Q (.panic c) a w) :
 ∀(p:Plan) (n:Nat) (listed:Array Bool) (a:Act) (w:World),planB md l.toArray k0 p listed=true→planN p=some n→(listed.getD k0 false=false→S w)→zaA P l k0 S Q p (listed.getD k0 false) a w→zdq P md l.toArray Q S k0 n listed a w
 | .done,n,listed,a,w,hB,hn,_,h=>by
  simp [planN] at hn;subst hn
  exact ⟨by simpa [planB] using hB,h⟩
 | .reads ps p,n,listed,a,w,hB,hn,hS,h=>by
  simp only [planN,Option.map_eq_some_iff] at hn
  obtain ⟨m,hm,rfl⟩:=hn
  simp only [planB] at hB
  split at hB
  ·simp at hB
  ·rename_i l1 hl1
   cases ps with
   | nil =>
    simp [takesX] at hl1;subst hl1
    rw [List.length_nil,Nat.zero_add]
    exact zbd hs hQ p m listed a w hB hm hS h
   | cons i0 ps0 =>
    have hk0:listed.getD k0 false=false:=by
     simp only [takesX] at hl1
     split at hl1
     ·rename_i hc
      simp only [takeOk,yaK] at hc
      obtain ⟨_,⟨_,hk⟩,hU⟩:=hc
      simpa using yaV.1 hU k0 (by simpa using hk)
     ·simp at hl1
    have keep:∀(ps:List Nat) (x y:Array Bool),takesX md l.toArray k0 ps x=some y→x.getD k0 false=false→y.getD k0 false=false:=by
     intro ps
     induction ps with
     | nil=>intro x y h hx;simp [takesX] at h;subst h;exact hx
     | cons j ps ih =>
      intro x y h hx
      simp only [takesX] at h
      split at h
      ·rename_i hc
       simp only [takeOk,yaK] at hc
       obtain ⟨⟨⟨hr,_⟩,_⟩,⟨hD,hk⟩,hU⟩:=hc
       have hr':j∈Region.ready md l.toArray x:=by simpa using hr
       have hun:=(mem_ready.1 hr').1
       have hjD:=zdf (D:=zcy md l.toArray j) (fun k hk=>yaV.1 hD k hk) hun (fun k hk=>by simpa using yaV.1 hU k hk) hr'
       refine ih _ _ h ?_
       have hk':k0∈zcy md l.toArray j:=by simpa using hk
       have hne:j≠k0:=fun e=>hjD (e▸hk')
       rw [getD_set_ne false hne];exact hx
      ·simp at h
    have hl1k:=keep _ _ _ hl1 hk0
    refine wpAnyX_takes hs hQ (hS hk0) (i0::ps0) listed l1 a hl1 (fun a1 h1=>zbd hs hQ p m l1 a1 w hB hm (fun _=>hS hk0) ?_) h
    rw [hl1k];rw [hk0] at h1;exact h1
 | .one i p,n,listed,a,w,hB,hn,hS,h=>by
  simp only [planN,Option.map_eq_some_iff] at hn
  obtain ⟨m,hm,rfl⟩:=hn
  simp only [planB,yaK,yaL] at hB
  have hi:i∈Region.ready md l.toArray listed:=by rw [hB.1];simp
  have hsz:i<listed.size:=by
   have:=(mem_ready.1 hi).1
   rcases Nat.lt_or_ge i listed.size with h|h
   ·exact h
   ·simp [Array.getElem?_eq_none h] at this
  have hb:=zcC (k0:=k0) hsz
  refine ⟨(fun h0=>by rw [hB.1] at h0;cases h0),fun j hj=>?_⟩
  rw [hB.1] at hj
  simp at hj;subst hj
  refine zca (p:=p) hi hb (fun a w hSw hp=>zbd hs hQ p m _ a w hB.2 hm (by rw [hb];exact hSw) (by rw [hb];exact hp)) h
 | .two i p j q,n,listed,a,w,hB,hn,hS,h=>by
  simp only [planN] at hn
  split at hn
  ·rename_i x y hx hy
   split at hn
   ·rename_i e
    subst e
    simp at hn;subst hn
    simp only [planB,yaK,yaL] at hB
    obtain ⟨⟨hr,hp⟩,hq⟩:=hB
    have hsz:∀k,k∈Region.ready md l.toArray listed→k<listed.size:=fun k hk=>by
     have:=(mem_ready.1 hk).1
     rcases Nat.lt_or_ge k listed.size with h|h
     ·exact h
     ·simp [Array.getElem?_eq_none h] at this
    refine ⟨(fun h0=>by rw [hr] at h0;cases h0),fun k hk=>?_⟩
    have hk':=hk
    rw [hr] at hk
    simp at hk
    have hb:=zcC (k0:=k0) (hsz k hk')
    rcases hk with rfl|rfl
    ·exact zca (p:=p) hk' hb (fun a w hSw hp'=>zbd hs hQ p x _ a w hp hx (by rw [hb];exact hSw) (by rw [hb];exact hp')) h.1
    ·exact zca (p:=q) hk' hb (fun a w hSw hp'=>zbd hs hQ q x _ a w hq hy (by rw [hb];exact hSw) (by rw [hb];exact hp')) h.2
   ·simp at hn
  ·simp at hn
 | .three i p j q k r,n,listed,a,w,hB,hn,hS,h=>by
  simp only [planN] at hn
  split at hn
  ·rename_i x y z hx hy hz
   split at hn
   ·rename_i e
    obtain ⟨e1,e2⟩:=e
    subst e1 e2
    simp at hn;subst hn
    simp only [planB,yaK,yaL] at hB
    obtain ⟨⟨⟨hrd,hp⟩,hq⟩,hr⟩:=hB
    have hsz:∀k,k∈Region.ready md l.toArray listed→k<listed.size:=fun k hk=>by
     have:=(mem_ready.1 hk).1
     rcases Nat.lt_or_ge k listed.size with h|h
     ·exact h
     ·simp [Array.getElem?_eq_none h] at this
    refine ⟨(fun h0=>by rw [hrd] at h0;cases h0),fun m hm=>?_⟩
    have hm':=hm
    rw [hrd] at hm
    simp at hm
    have hb:=zcC (k0:=k0) (hsz m hm')
    rcases hm with rfl|rfl|rfl
    ·exact zca (p:=p) hm' hb (fun a w hSw hp'=>zbd hs hQ p x _ a w hp hx (by rw [hb];exact hSw) (by rw [hb];exact hp')) h.1
    ·exact zca (p:=q) hm' hb (fun a w hSw hp'=>zbd hs hQ q x _ a w hq hy (by rw [hb];exact hSw) (by rw [hb];exact hp')) h.2.1
    ·exact zca (p:=r) hm' hb (fun a w hSw hp'=>zbd hs hQ r x _ a w hr hz (by rw [hb];exact hSw) (by rw [hb];exact hp')) h.2.2
   ·simp at hn
  ·simp at hn
theorem zao {id:Nat}{a:Act}{w:World}{l:List Oper}(k0:Nat) (S:World→Prop) (p:Plan) (hm:P.follows .mixedOrders=true)
 (hB:(Region.noSelect l.toArray&&planB .any l.toArray k0 p (Array.replicate l.toArray.size false)&&decide (planN p=some l.toArray.size))=true)
 (hQ:∀c a d v w,Q (.panic c) (a.put d v) w→Q (.panic c) a w) (hS:S { w with drawn:=w.drawn+1 }) (h:zaA P l k0 S Q p false a { w with drawn:=w.drawn+1 }) :
 (Code.region id l.toArray true).wp P Q a w:=by
 simp only [yaK,yaL] at hB
 obtain ⟨⟨h1,h2⟩,h3⟩:=hB
 refine wp_region_any hm (wpAny_of_X _ _ _ _ (zbd (P:=P) (S:=S) (Q:=Q) h1 hQ p _ _ a _ h2 h3 (fun _=>hS) ?_))
 have:(Array.replicate l.toArray.size false).getD k0 false=false:=by
  by_cases hk:k0<l.length<;>simp [hk]
 rw [this];exact h
end
theorem Calls.quiet_eq {P:Program}{f:FuncId}{args:Array Value}{w:World}{n:Nat}{v:Value}(h:Calls P f args (w.drewN n) fun e w'=>e=.returned v∧w.drewN n=w') :
 Calls P f args (w.drewN n) fun e w''=>e=.returned v∧∃m,w''=w.drewN m:=h.mono fun _ _ ⟨he,hm⟩=>⟨he,n,hm.symm⟩
section
variable {P:Program}
theorem zdK {ops:Array Oper}{C:World→Prop}{Q:Act→Prop}{o:Oper}{rest:List Oper}{a:Act}(hgd:o.guard=none) (ty:TypeId) (x:Operand) (lo hi:Option Operand) (ho:o.op=.slice ty x lo hi none) (v sv:Value) (lov hiv:Option Value)
 (hl:∀w,(Instr.sliceAt ty sv lov hiv none).run P w=.ok v w) (hx:a.eval x=sv) (hlo:lo.map a.eval=lov) (hhi:hi.map a.eval=hiv) (h:wpQuiet P ops C Q rest (a.put o.dst v)):wpQuiet P ops C Q (o::rest) a:=by
 unfold wpQuiet
 rw [if_pos (by simp [Region.wanted,hgd])]
 refine ⟨v,fun w hw=>?_,h⟩
 subst hx hlo hhi
 unfold Oper.quietAt execOp
 simp only [ho,Option.map_none,Sem.run_bind,hl w,Result.andThen_ok,Sem.run_pure]
 exact ⟨rfl,rfl⟩
end
end
section
open Go Go.Sort Go.RowKit
section
variable {P:Program} {md:Region.Mode} {S:World→Prop} {Q:Exit→Act→World→Prop} {ops:Array Oper} {k0:Nat}
theorem wpAnyY_first {i:Nat}{oi:Oper}{v:Value}{D:List Nat}(hi:ops[i]?=some oi) (hsel:∀(j:Nat) (o:Oper) cs b,ops[j]?=some o→o.op≠.select cs b)
 (hQ:∀c a w,Q (.panic c) (a.put oi.dst v) w→Q (.panic c) a w) (hD:∀k∈D,edgeOn md ops i D k=true) (hk0:ops[k0]?=none) :
 ∀(fuel:Nat) (listed:Array Bool) (a:Act) (w:World),(∀k∈D,listed.getD k false=false)→listed.getD k0 false=false →
  (∀j oj,ops[j]?=some oj→j≠i→listed.getD j true=false→(∀e∈oj.after,Region.binds md e=true→e.on≠i)→oi.apart ops oj=true) →
  i∈Region.ready md ops listed→YieldsIf P ops S oi v a→S w →
  zdq P md ops Q S k0 fuel (listed.setIfInBounds i true) (a.put oi.dst v) w→zdq P md ops Q S k0 (fuel+1) listed a w:=by
 intro fuel
 induction fuel with
 | zero =>
  intro listed a w _ _ _ hr hy hS H
  refine ⟨fun h=>(by rw [h] at hr;cases hr),fun j hj=>?_⟩
  by_cases hji:j=i
  ·subst hji;exact hy.wpOp hi hS ⟨fun _=>hS,H⟩
  ·have:=ready_mono hj hji
   rw [H.1] at this
   cases this
 | succ fuel ih =>
  intro listed a w hU hl0 hfree hr hy hS H
  have hun:=(mem_ready.1 hr).1
  refine ⟨fun h=>(by rw [h] at hr;cases hr),fun j hj=>?_⟩
  by_cases hji:j=i
  ·subst hji;exact hy.wpOp hi hS ⟨fun _=>hS,H⟩
  ·have h1:=H.2 j (ready_mono hj hji)
   obtain ⟨hjun,oj,hoj,hall⟩:=mem_ready.1 hj
   have hjD:=zdf hD hun hU hj
   have hiD:=zdf hD hun hU hr
   have hU':∀k∈D,(listed.setIfInBounds j true).getD k false=false:=fun k hk=>by rw [getD_set_ne false (fun e=>hjD (by rw [e];exact hk))];exact hU k hk
   have hnot:∀e∈oj.after,Region.binds md e=true→e.on≠i:=fun e he hb heq=>by
    have h1:=hall e he hb
    rw [heq,getD_both hun] at h1
    cases h1
   have h2:=wpOp_putIf hoj (hfree j oj hoj hji hjun hnot) (fun cs b=>hsel i oi cs b hi) (fun cs b=>hsel j oj cs b hoj) hQ hy h1
   have hfree':∀k ok,ops[k]?=some ok→k≠i→(listed.setIfInBounds j true).getD k true=false →
    (∀e∈ok.after,Region.binds md e=true→e.on≠i)→oi.apart ops ok=true:=fun k ok hk hki hun hno=>by
    refine hfree k ok hk hki ?_ hno
    by_cases hjk:j=k
    ·subst hjk;exact hjun
    ·rw [getD_set_ne true hjk] at hun;exact hun
   have hik:i≠k0:=fun e=>by rw [e,hk0] at hi;cases hi
   have hjk:j≠k0:=fun e=>by rw [e,hk0] at hoj;cases hoj
   have hl1:(listed.setIfInBounds j true).getD k0 false=false:=by rw [getD_set_ne false hjk];exact hl0
   have hnk:((listed.setIfInBounds i true).setIfInBounds j true).getD k0 false=false:=by
    rw [getD_set_ne false hjk,getD_set_ne false hik]
    exact hl0
   refine wpOp_mono (fun a' w' h3=>⟨fun _=>h3.2.1 hnk,ih (listed.setIfInBounds j true) a' w' hU' hl1 hfree' (ready_mono hr (Ne.symm hji)) h3.1 (h3.2.1 hnk) ?_⟩) h2
   rw [Array.setIfInBounds_comm _ _ hji]
   exact h3.2.2
def takeOkY (md:Region.Mode) (ops:Array Oper) (k0:Nat) (listed:Array Bool) (i:Nat):Bool :=
 (Region.ready md ops listed).contains i&&Region.free md ops listed i&&(match ops[i]? with|some o=>readsB o.op|none=>false) &&
  ((zcy md ops i).all (fun k=>edgeOn md ops i (zcy md ops i) k)&&(ops[k0]?).isNone&&!listed.getD k0 false&&(zcy md ops i).all (fun k=>!listed.getD k false))
def takesY (md:Region.Mode) (ops:Array Oper) (k0:Nat):List Nat→Array Bool→Option (Array Bool)
 | [],listed=>some listed
 | i::ps,listed=>if takeOkY md ops k0 listed i=true then takesY md ops k0 ps (listed.setIfInBounds i true) else none
def planY (md:Region.Mode) (ops:Array Oper) (k0:Nat):Plan→Array Bool→Bool
 | .done,listed=>(Region.ready md ops listed).isEmpty
 | .reads ps p,listed=>match takesY md ops k0 ps listed with
  | none=>false
  | some l1=>planY md ops k0 p l1
 | .one i p,listed=>decide (Region.ready md ops listed=[i])&&planY md ops k0 p (listed.setIfInBounds i true)
 | .two i p j q,listed=>decide (Region.ready md ops listed=[i,j])&&planY md ops k0 p (listed.setIfInBounds i true)&&planY md ops k0 q (listed.setIfInBounds j true)
 | .three i p j q k r,listed=>decide (Region.ready md ops listed=[i,j,k])&&planY md ops k0 p (listed.setIfInBounds i true)&&planY md ops k0 q (listed.setIfInBounds j true)&&planY md ops k0 r (listed.setIfInBounds k true)
theorem wpAnyY_takes {l:List Oper}{K:Act→Prop}{w:World}{g:Nat}(hs:Region.noSelect l.toArray=true) (hQ:∀c a d v w,Q (.panic c) (a.put d v) w→Q (.panic c) a w) (hS:S w) :
 ∀(ps:List Nat) (listed l1:Array Bool) (a:Act),takesY md l.toArray k0 ps listed=some l1→(∀a1,K a1→zdq P md l.toArray Q S k0 g l1 a1 w) →
  wpQuiet P l.toArray S K (zac l ps) a→zdq P md l.toArray Q S k0 (ps.length+g) listed a w
 | [],listed,l1,a,hB,hK,h=>by
  simp [takesY] at hB;subst hB
  rw [List.length_nil,Nat.zero_add];exact hK a h
 | i::ps,listed,l1,a,hB,hK,h=>by
  simp only [takesY] at hB
  split at hB
  ·rename_i hc
   simp only [takeOkY,yaK] at hc
   obtain ⟨⟨⟨hr,hf⟩,hv⟩,⟨⟨hD,hk⟩,hl0⟩,hU⟩:=hc
   have hr':i∈Region.ready md l.toArray listed:=by simpa using hr
   obtain ⟨_,o,ho,_⟩:=mem_ready.1 hr'
   rw [ho] at hv
   have ho':l[i]?=some o:=by simpa using ho
   rw [zcd ho'] at h
   have hst:qOp P l.toArray S i (wpQuiet P l.toArray S K (zac l ps)) a:=by unfold qOp;simp only [ho];exact h
   obtain ⟨v,hy,hK'⟩:=yieldsIn_of_qOp ho hst
   have hy':YieldsIf P l.toArray S o v a:=by
    rcases hy with ⟨hw,hh⟩|hh
    ·refine .inl ⟨hw,fun w hSw=>?_⟩
     have h1:=hh w hSw
     unfold Oper.quietAt at h1
     cases hrun:(execOp a.eval o).run P w with
     | halt x w'=>rw [hrun] at h1;simp [Oper.quietUpon] at h1
     | ok n w' =>
      rw [hrun] at h1
      obtain ⟨u,rfl⟩:=run_reads hv _ _ _ _ hrun
      simp only [Oper.quietUpon] at h1
      rw [h1.1,h1.2]
    ·exact .inr hh
   rw [show (i::ps).length+g=(ps.length+g)+1 by simp;omega]
   exact wpAnyY_first ho (Region.noSelect_spec hs) (fun c a w=>hQ c a _ _ w) (fun k hk=>yaV.1 hD k hk) (Option.isNone_iff_eq_none.1 hk) _ listed a w (fun k hk=>by simpa using yaV.1 hU k hk) (by simpa using hl0) (Region.free_spec ho hf) hr' hy' hS
    (wpAnyY_takes hs hQ hS ps _ _ _ hB hK hK')
  ·simp at hB
theorem zbc {l:List Oper}(hs:Region.noSelect l.toArray=true) (hQ:∀c a d v w,Q (.panic c) (a.put d v) w→Q (.panic c) a w) :
 ∀(p:Plan) (n:Nat) (listed:Array Bool) (a:Act) (w:World),planY md l.toArray k0 p listed=true→planN p=some n→(listed.getD k0 false=false→S w)→zaA P l k0 S Q p (listed.getD k0 false) a w→zdq P md l.toArray Q S k0 n listed a w
 | .done,n,listed,a,w,hB,hn,_,h=>by
  simp [planN] at hn;subst hn
  exact ⟨by simpa [planY] using hB,h⟩
 | .reads ps p,n,listed,a,w,hB,hn,hS,h=>by
  simp only [planN,Option.map_eq_some_iff] at hn
  obtain ⟨m,hm,rfl⟩:=hn
  simp only [planY] at hB
  split at hB
  ·simp at hB
  ·rename_i l1 hl1
   cases ps with
   | nil =>
    simp [takesY] at hl1;subst hl1
    rw [List.length_nil,Nat.zero_add]
    exact zbc hs hQ p m listed a w hB hm hS h
   | cons i0 ps0 =>
    have hk0:listed.getD k0 false=false:=by
     simp only [takesY] at hl1
     split at hl1
     ·rename_i hc
      simp only [takeOkY,yaK] at hc
      obtain ⟨_,⟨⟨_,_⟩,hl0⟩,_⟩:=hc
      simpa using hl0
     ·simp at hl1
    have keep:∀(ps:List Nat) (x y:Array Bool),takesY md l.toArray k0 ps x=some y→x.getD k0 false=false→y.getD k0 false=false:=by
     intro ps
     induction ps with
     | nil=>intro x y h hx;simp [takesY] at h;subst h;exact hx
     | cons j ps ih =>
      intro x y h hx
      simp only [takesY] at h
      split at h
      ·rename_i hc
       simp only [takeOkY,yaK] at hc
       obtain ⟨⟨⟨hr,_⟩,_⟩,⟨⟨_,hk⟩,_⟩,_⟩:=hc
       have hr':j∈Region.ready md l.toArray x:=by simpa using hr
       obtain ⟨_,oj,hoj,_⟩:=mem_ready.1 hr'
       have hne:j≠k0:=fun e=>by rw [e] at hoj;rw [hoj] at hk;cases hk
       refine ih _ _ h ?_
       rw [getD_set_ne false hne];exact hx
      ·simp at h
    have hl1k:=keep _ _ _ hl1 hk0
    refine wpAnyY_takes hs hQ (hS hk0) (i0::ps0) listed l1 a hl1 (fun a1 h1=>zbc hs hQ p m l1 a1 w hB hm (fun _=>hS hk0) ?_) h
    rw [hl1k];rw [hk0] at h1;exact h1
 | .one i p,n,listed,a,w,hB,hn,hS,h=>by
  simp only [planN,Option.map_eq_some_iff] at hn
  obtain ⟨m,hm,rfl⟩:=hn
  simp only [planY,yaK,yaL] at hB
  have hi:i∈Region.ready md l.toArray listed:=by rw [hB.1];simp
  have hsz:i<listed.size:=by
   have:=(mem_ready.1 hi).1
   rcases Nat.lt_or_ge i listed.size with h|h
   ·exact h
   ·simp [Array.getElem?_eq_none h] at this
  have hb:=zcC (k0:=k0) hsz
  refine ⟨(fun h0=>by rw [hB.1] at h0;cases h0),fun j hj=>?_⟩
  rw [hB.1] at hj
  simp at hj;subst hj
  refine zca (p:=p) hi hb (fun a w hSw hp=>zbc hs hQ p m _ a w hB.2 hm (by rw [hb];exact hSw) (by rw [hb];exact hp)) h
 | .two i p j q,n,listed,a,w,hB,hn,hS,h=>by
  simp only [planN] at hn
  split at hn
  ·rename_i x y hx hy
   split at hn
   ·rename_i e
    subst e
    simp at hn;subst hn
    simp only [planY,yaK,yaL] at hB
    obtain ⟨⟨hr,hp⟩,hq⟩:=hB
    have hsz:∀k,k∈Region.ready md l.toArray listed→k<listed.size:=fun k hk=>by
     have:=(mem_ready.1 hk).1
     rcases Nat.lt_or_ge k listed.size with h|h
     ·exact h
     ·simp [Array.getElem?_eq_none h] at this
    refine ⟨(fun h0=>by rw [hr] at h0;cases h0),fun k hk=>?_⟩
    have hk':=hk
    rw [hr] at hk
    simp at hk
    have hb:=zcC (k0:=k0) (hsz k hk')
    rcases hk with rfl|rfl
    ·exact zca (p:=p) hk' hb (fun a w hSw hp'=>zbc hs hQ p x _ a w hp hx (by rw [hb];exact hSw) (by rw [hb];exact hp')) h.1
    ·exact zca (p:=q) hk' hb (fun a w hSw hp'=>zbc hs hQ q x _ a w hq hy (by rw [hb];exact hSw) (by rw [hb];exact hp')) h.2
   ·simp at hn
  ·simp at hn
 | .three i p j q k r,n,listed,a,w,hB,hn,hS,h=>by
  simp only [planN] at hn
  split at hn
  ·rename_i x y z hx hy hz
   split at hn
   ·rename_i e
    obtain ⟨e1,e2⟩:=e
    subst e1 e2
    simp at hn;subst hn
    simp only [planY,yaK,yaL] at hB
    obtain ⟨⟨⟨hrd,hp⟩,hq⟩,hr⟩:=hB
    have hsz:∀k,k∈Region.ready md l.toArray listed→k<listed.size:=fun k hk=>by
     have:=(mem_ready.1 hk).1
     rcases Nat.lt_or_ge k listed.size with h|h
     ·exact h
     ·simp [Array.getElem?_eq_none h] at this
    refine ⟨(fun h0=>by rw [hrd] at h0;cases h0),fun m hm=>?_⟩
    have hm':=hm
    rw [hrd] at hm
    simp at hm
    have hb:=zcC (k0:=k0) (hsz m hm')
    rcases hm with rfl|rfl|rfl
    ·exact zca (p:=p) hm' hb (fun a w hSw hp'=>zbc hs hQ p x _ a w hp hx (by rw [hb];exact hSw) (by rw [hb];exact hp')) h.1
    ·exact zca (p:=q) hm' hb (fun a w hSw hp'=>zbc hs hQ q x _ a w hq hy (by rw [hb];exact hSw) (by rw [hb];exact hp')) h.2.1
    ·exact zca (p:=r) hm' hb (fun a w hSw hp'=>zbc hs hQ r x _ a w hr hz (by rw [hb];exact hSw) (by rw [hb];exact hp')) h.2.2
   ·simp at hn
  ·simp at hn
theorem zda {id:Nat}{a:Act}{w:World}{l:List Oper}(k0:Nat) (S:World→Prop) (p:Plan) (hm:P.follows .mixedOrders=true)
 (hB:(Region.noSelect l.toArray&&planY .any l.toArray k0 p (Array.replicate l.toArray.size false)&&decide (planN p=some l.toArray.size))=true)
 (hQ:∀c a d v w,Q (.panic c) (a.put d v) w→Q (.panic c) a w) (hS:S { w with drawn:=w.drawn+1 }) (h:zaA P l k0 S Q p false a { w with drawn:=w.drawn+1 }) :
 (Code.region id l.toArray true).wp P Q a w:=by
 simp only [yaK,yaL] at hB
 obtain ⟨⟨h1,h2⟩,h3⟩:=hB
 refine wp_region_any hm (wpAny_of_X _ _ _ _ (zbc (P:=P) (S:=S) (Q:=Q) h1 hQ p _ _ a _ h2 h3 (fun _=>hS) ?_))
 have:(Array.replicate l.toArray.size false).getD k0 false=false:=by
  by_cases hk:k0<l.length<;>simp [hk]
 rw [this];exact h
end
end
end Go.Proofs.YtlmfhjipbjkcbaaGreatDoor
