/- x -/
import Derived.Test.YtlmfhjipbjkcbaaGreatDoorMap
import Derived.Laws.IdiomRangeMap
set_option linter.unusedSimpArgs false
set_option linter.unusedVariables false
namespace Go.Proofs.YtlmfhjipbjkcbaaGreatDoor
open Go.RowKit Go.Sort Go.Lib
section
variable {α:Type} {P:Program} {kt et t:TypeId} {enc:α→Value} {w w':World} {b r:Nat} {m left:List (α×Value)}
def Iter (enc:α→Value) (w:World) (b r:Nat) (m left:List (α×Value)):Prop :=
 ∃es clock seen,w.heap[b]?=some (.map es clock)∧w.heap[r]?=some (.mapIter (some b) clock seen clock)∧es.toList.map (fun e=>(e.key,e.val))=m.map (fun p=>(enc p.1,p.2)) ∧
  (es.toList.map (·.born)).Pairwise (·< ·)∧(∀e∈es.toList,e.born<clock)∧(es.toList.filter (fun e=>!seen.contains e.born)).map (fun e=>(e.key,e.val))=left.map (fun p=>(enc p.1,p.2))
theorem Iter.map (h:Iter enc w b r m left):MapIs enc w b m:=by
 obtain ⟨es,clock,seen,h1,_,h3,h4,h5,_⟩:=h
 exact ⟨es,clock,h1,h3,h4,h5⟩
theorem Iter.lt (h:Iter enc w b r m left):r<w.heap.size∧b<w.heap.size∧r≠b:=by
 have hb:=h.map.lt
 obtain ⟨es,clock,seen,h1,h2,_⟩:=h
 refine ⟨?_,hb,?_⟩
 ·rcases Nat.lt_or_ge r w.heap.size with h|h
  ·exact h
  ·simp [Array.getElem?_eq_none h] at h2
 ·rintro rfl
  rw [h1] at h2
  cases h2
theorem Iter.chg {S:Nat→Prop}(h:Iter enc w b r m left) (hc:Chg S w w') (hn:¬S b) (hn2:¬S r):Iter enc w' b r m left:=by
 obtain ⟨l1,l2,_⟩:=h.lt
 obtain ⟨es,clock,seen,h1,h2,h3⟩:=h
 exact ⟨es,clock,seen,by rw [hc.block b l2 hn];exact h1,by rw [hc.block r l1 hn2];exact h2,h3⟩
theorem Iter.ext (h:Iter enc w b r m left) (hc:Ext w w'):Iter enc w' b r m left:=h.chg (Chg.of_ext (S:=fun _=>False) hc) id id
theorem zdF (h:MapIs enc w b m) (ht:P.underlying t=some (.map kt et)) :
 ∃it,(Instr.range t (.map (some b))).run P w=.ok (.pointer (some ⟨w.heap.size,0,none⟩)) (w.alloc it)∧Iter enc (w.alloc it) b w.heap.size m m:=by
 have hlt:=h.lt
 obtain ⟨es,clock,h1,h3,h4,h5⟩:=h
 refine ⟨_,run_range_map w t kt et b es clock ht h1,es,clock,#[],?_,heap_alloc_new _ _,h3,h4,h5,?_⟩
 ·rw [heap_alloc_old w _ hlt];exact h1
 ·rw [←h3]
  congr 1
  exact List.filter_eq_self.2 (fun _ _=>by simp)
theorem filter_born (L:List MapEntry) (hp:(L.map (·.born)).Pairwise (·< ·)) (j:Nat) (e:MapEntry) (he:L[j]?=some e):L.filter (fun x=>!(x.born==e.born))=L.take j++L.drop (j+1):=by
 induction L generalizing j with
 | nil=>simp at he
 | cons x L ih =>
  have hx:∀y∈L,x.born<y.born:=fun y hy=>(List.pairwise_cons.1 hp).1 y.born (yap.2 ⟨y,hy,rfl⟩)
  have hL:=(List.pairwise_cons.1 hp).2
  cases j with
  | zero =>
   simp at he;subst he
   simp only [List.filter_cons,beq_self_eq_true,Bool.not_true,Bool.false_eq_true,if_false,List.take_zero,yaP,List.drop_succ_cons,List.drop_zero]
   exact List.filter_eq_self.2 (fun y hy=>by have:=hx y hy;simp;omega)
  | succ j =>
   have he':L[j]?=some e:=by simpa using he
   have hlt:=hx e (yag he')
   have hne:(x.born==e.born)=false:=by simp;omega
   simp only [List.filter_cons,hne,Bool.not_false,if_true,List.take_succ_cons,List.drop_succ_cons,yaO]
   rw [ih hL j he']
theorem run_setObj (w:World) (r:Nat) (o:Obj) {a:Option Nat}{x:Nat}{y:Array Nat}{z:Nat}(h:w.heap[r]?=some (.mapIter a x y z)):(setObj r o).run P w=.ok () (zbT w r o):=by
 simp [setObj,Sem.run,zbT,h]
theorem iter_next (h:Iter enc w b r m left) :
 (left=[]∧∀ty,(Instr.next (.pointer (some ⟨r,0,none⟩)) false ty).run P w=.ok (.tuple #[.bool false]) w) ∨
 ∃l1 k v l2 w1,left=l1++(k,v)::l2∧(∀ty,(Instr.next (.pointer (some ⟨r,0,none⟩)) false ty).run P w=.ok (.tuple #[.bool true,enc k,v]) w1)∧(Instr.entry (.pointer (some ⟨r,0,none⟩))).run P w1=.ok (.tuple #[enc k,v]) w1∧Iter enc w1 b r m (l1++l2)∧Chg (·=r) w w1∧w1.heap.size=w.heap.size:=by
 obtain ⟨lr,lb,hne⟩:=h.lt
 obtain ⟨es,clock,seen,hb,hr,h3,h4,h5,h6⟩:=h
 have ht:=next_test_false seen es clock clock h5 (Nat.le_refl _)
 have hmem:∀x∈(Array.filter (fun e=>!seen.contains e.born) es).toList,x.born<clock:=fun x hx=>h5 x (by simp at hx ⊢;exact hx.1)
 have hL0:(Array.filter (fun e=>!seen.contains e.born) es).toList=es.toList.filter (fun e=>!seen.contains e.born):=Array.toList_filter ..
 rw [←hL0] at h6
 simp only [Instr.next,getObj,Sem.run_bind,Sem.run,hr,hb,Result.andThen,ht,Bool.false_eq_true,if_false]
 have hpw:((Array.filter (fun e=>!seen.contains e.born) es).toList.map (·.born)).Pairwise (·< ·):=by
  rw [hL0];exact h4.sublist ((List.filter_sublist).map _)
 have hsub:∀x∈(Array.filter (fun e=>!seen.contains e.born) es).toList,x∈es.toList:=fun x hx=>by rw [hL0] at hx;exact (yay.1 hx).1
 have hpush:∀e:MapEntry,es.toList.filter (fun x=>!(seen.push e.born).contains x.born)=(Array.filter (fun e=>!seen.contains e.born) es).toList.filter (fun x=>!(x.born==e.born)):=by
  intro e
  rw [hL0,List.filter_filter]
  apply List.filter_congr
  intro x _
  rw [contains_push]
  cases seen.contains x.born<;>cases (x.born==e.born)<;>rfl
 generalize hL:Array.filter (fun e=>!seen.contains e.born) es=L at *
 have e1:L.filter (fun x=>decide (x.born<clock))=L:=Array.filter_eq_self.2 (fun x hx=>by simpa using hmem x (by simpa using hx))
 have e2:L.filter (fun x=>decide (x.born ≥ clock))=#[]:=by
  rw [Array.filter_eq_empty_iff]
  intro x hx
  have:=hmem x (by simpa using hx)
  simp
  omega
 simp only [e1,e2,Array.append_empty]
 by_cases h0:L.size=0
 ·left
  have hLe:L=#[]:=Array.eq_empty_of_size_eq_zero h0
  subst hLe
  refine ⟨by simpa using h6.symm,?_⟩
  simp [choose,Sem.run,Question.forced]
 ·right
  have hnE:L.isEmpty=false:=by simp [Array.isEmpty,h0]
  simp only [hnE,Bool.false_eq_true,if_false,Array.empty_append,Array.size_map]
  have hch:∃(j:Nat) (w1:World),j<L.size∧(w1=w∨w1=w.drew)∧(choose (Question.mapNext L.size)).run P w=.ok j w1:=by
   by_cases hf:L.size≤1
   ·exact ⟨0,w,by omega,.inl rfl,by simp [choose,Sem.run,Question.forced,hf]⟩
   ·exact ⟨_,w.drew,Nat.mod_lt _ (by omega),.inr rfl,by
     simp only [choose,Sem.run,Question.forced,yaL,hf,if_false,Question.cut]
     rfl⟩
  obtain ⟨j,w1,hj,hw1,hrun⟩:=hch
  have hlen:left.length=L.size:=by have:=congrArg List.length h6;simpa using this.symm
  have hjl:j<left.length:=by omega
  have hkv:(L[j].key,L[j].val)=(enc left[j].1,left[j].2):=by
   have:=congrArg (fun l=>l[j]?) h6
   simpa [hj,hjl] using this
  have hk:L[j].key=enc left[j].1:=congrArg Prod.fst hkv
  have hv:L[j].val=left[j].2:=congrArg Prod.snd hkv
  have hheap:w1.heap=w.heap:=by rcases hw1 with rfl|rfl<;>rfl
  have hLj:L.toList[j]?=some L[j]:=by simp [hj]
  have hC:Chg (·=r) w (zbT w1 r (.mapIter (some b) clock (seen.push L[j].born) clock)):=by
   have hc:=zdC w1 r (.mapIter (some b) clock (seen.push L[j].born) clock)
   rcases hw1 with rfl|rfl
   ·exact hc
   ·exact ⟨hc.os,hc.tape,hc.output,hc.size,hc.block⟩
  refine ⟨left.take j,left[j].1,left[j].2,left.drop (j+1),zbT w1 r (.mapIter (some b) clock (seen.push L[j].born) clock),?_,?_,?_,?_,hC,by simp [zbT,hheap]⟩
  ·rw [←yaA hjl,yaS]
  ·intro ty
   have hr1:w1.heap[r]?=some (.mapIter (some b) clock seen clock):=by rw [hheap];exact hr
   simp only [hrun,Array.getElem?_map,Array.getElem?_eq_getElem hj,Option.map_some,Sem.run_bind,run_setObj w1 r _ hr1,Result.andThen,hk,hv]
   rfl
  ·have b1:(zbT w1 r (.mapIter (some b) clock (seen.push L[j].born) clock)).heap[r]?=some (.mapIter (some b) clock (seen.push L[j].born) clock):=zcA (by rw [hheap];exact lr)
   have b2:(zbT w1 r (.mapIter (some b) clock (seen.push L[j].born) clock)).heap[b]?=some (.map es clock):=by rw [setBlk_other (Ne.symm hne),hheap];exact hb
   have hnd:(es.toList.map (·.born)).Nodup:=h4.imp (fun h=>Nat.ne_of_lt h)
   have hf:es.find? (·.born==L[j].born)=some L[j]:=by rw [←Array.find?_toList];exact find_born L[j] es.toList hnd (hsub _ (yag hLj))
   simp only [Instr.entry,getObj,Sem.run_bind,Sem.run,b1,b2,Result.andThen,Array.back?_push,bne_self_eq_false,Bool.false_eq_true,if_false,hf,hk,hv]
   rfl
  ·refine ⟨es,clock,seen.push L[j].born,?_,zcA (by rw [hheap];exact lr),h3,h4,h5,?_⟩
   ·rw [setBlk_other (Ne.symm hne),hheap];exact hb
   ·rw [hpush,filter_born L.toList hpw j _ hLj,yav,List.map_take,List.map_drop,h6,yav,List.map_take,List.map_drop]
def zbD (w:World) (b r:Nat):Nat:=match w.heap[b]?,w.heap[r]? with
 | some (.map es _),some (.mapIter _ _ seen _)=>(es.toList.filter (fun e=>!seen.contains e.born)).length
 | _,_=>0
theorem Iter.count (h:Iter enc w b r m left):zbD w b r=left.length:=by
 obtain ⟨es,clock,seen,h1,h2,_,_,_,h6⟩:=h
 have:=congrArg List.length h6
 simp only [zbD,h1,h2]
 simpa using this
end
end Go.Proofs.YtlmfhjipbjkcbaaGreatDoor
