/- Rows of strings that the program makes: made, appended to, written. -/
import Derived.Test.YtgdgjnecgelalaaGreatDoorDiskDo
import Derived.Test.YtgdgjnecgelalaaGreatDoorApp
import Derived.Laws.OwnMore
import Derived.Test.YtgdgjnecgelalaaGreatDoorShelf
import Derived.Test.YtgdgjnecgelalaaGreatDoorMap
import Derived.Laws.IdiomRangeMap
import Derived.Test.YtgdgjnecgelalaaGreatDoorDiskR
import Derived.Test.YtgdgjnecgelalaaGreatDoorDiskW
namespace Go.Proofs.YtgdgjnecgelalaaGreatDoor
open Go.RowKit Go.Sort Go.Lib

theorem info_str : (Tryz.prog.info? 9).map (fun i => (i.zero, i.size, i.bytes)) = some (some (.string ⟨#[]⟩), 1, 16) := by kernel_rfl
theorem make_strs (w : World) (n : Nat) (hn : n ≤ 8796093022208) :
    ∃ w' cs, (Instr.makeSlice 59 (.int .i64 (n : Int)) (.int .i64 (n : Int))).run Tryz.prog w = .ok (.slice (some ⟨w.heap.size, 0, none⟩) n n) w' ∧
      w'.heap[w.heap.size]? = some (.cells cs 9 (0, 0)) ∧ cs.size = n ∧ Ext w w' := by
  obtain ⟨i0, hi, hz0, hz1, hz2⟩ := info_parts info_str
  obtain ⟨w', h1, h2, h3⟩ := run_make_full (P := Tryz.prog) w 0 59 9 i0 (.string ⟨#[]⟩) 1 Tryz.underlying59 hi hz0 hz1 .i64 .i64 n (by rw [hz2]; omega) (by unfold maxLen; omega) (Nat.zero_le _)
  obtain ⟨_, ⟨e, _⟩ | ⟨g, cap, cur, e, _, hb, _, _, h6, _⟩⟩ := h2
  · cases e
  · simp only [Value.slice.injEq, Option.some.injEq, Addr.mk.injEq] at e
    obtain ⟨⟨rfl, _⟩, _, rfl⟩ := e
    exact ⟨w', cur, h1, hb, by simpa using h6, (Chg.of_grown h3).ext (fun _ _ e => by simp at e)⟩

/-- A slice of strings that a call made. -/
structure StrsTo (w : World) (l : List ByteArray) (v : Value) (w' : World) : Prop where
  row : Row w' 9 1 v l.length (strs l)
  own : ∀ g, v.ownBlock = some g → w.heap.size ≤ g
  ext : Ext w w'

theorem elem_str : ElemOk Tryz.prog 59 9 1 16 :=
  ⟨Tryz.underlying59, by
    obtain ⟨i0, hi, hz0, hz1, hz2⟩ := info_parts info_str
    exact ⟨i0, _, hi, hz0, hz1, hz2, rfl⟩, by decide⟩
theorem src_str' {W : World} {b : Nat} {s : ByteArray} {t : TypeId} {fr : Nat × Nat} (h : W.heap[b]? = some (.cells #[.string s] t fr)) : Src W 1 (.slice (some ⟨b, 0, none⟩) 1 1) 1 (strs [s]) := by
  refine .inr ⟨_, _, rfl, rfl, fun j u hj => ?_, strs_one _⟩
  rw [Go.WideShapes.add_plain, Nat.zero_add, cell_of_block h]
  simpa [strs] using hj
theorem row_made {W : World} {b : Nat} {t : TypeId} (h : W.heap[b]? = some (.cells #[] t (0, 0))) (size : Nat) : Row W t size (.slice (some ⟨b, 0, none⟩) 0 0) 0 [] :=
  ⟨by simp, .inr ⟨b, 0, #[], rfl, Nat.zero_le _, h, Nat.le_refl _, by unfold maxLen; omega, by simp, by simp⟩⟩

/-- A block that reads as strings at its beginning. -/
def StrBlk (w : World) (g cap : Nat) (L : List ByteArray) : Prop :=
  ∃ cur, w.heap[g]? = some (.cells cur 9 (0, 0)) ∧ cur.size = cap ∧ L.length ≤ cap ∧ cap ≤ maxLen ∧ cur.toList.take L.length = strs L
theorem StrBlk.row {w : World} {g cap : Nat} {L : List ByteArray} (h : StrBlk w g cap L) : Row w 9 1 (.slice (some ⟨g, 0, none⟩) L.length cap) L.length (strs L) := by
  obtain ⟨cur, h1, h2, h3, h4, h5⟩ := h
  exact ⟨by rw [strs_len]; omega, .inr ⟨g, cap, cur, rfl, Nat.zero_le _, h1, h3, h4, by omega, by rw [Nat.mul_one]; exact h5⟩⟩
theorem StrBlk.of_row {w : World} {v : Value} {L : List ByteArray} (h : Row w 9 1 v L.length (strs L)) (hp : 0 < L.length) : ∃ g cap, v = .slice (some ⟨g, 0, none⟩) L.length cap ∧ StrBlk w g cap L := by
  obtain ⟨_, ⟨_, h0⟩ | ⟨g, cap, cur, hv, _, h1, h2, h3, h4, h5⟩⟩ := h
  · omega
  · exact ⟨g, cap, hv, cur, h1, by omega, h2, h3, by rw [← h5, Nat.mul_one]⟩
theorem StrBlk.cell {w : World} {g cap : Nat} {L : List ByteArray} (h : StrBlk w g cap L) {k : Nat} {s : ByteArray} (hk : L[k]? = some s) : w.cell? ⟨g, k, none⟩ = some (.string s) := by
  obtain ⟨cur, h1, h2, h3, h4, h5⟩ := h
  rw [cell_of_block h1]
  have hkl := (List.getElem?_eq_some_iff.1 hk).1
  have := congrArg (fun l => l[k]?) h5
  simp only [List.getElem?_take, if_pos hkl, strs, List.getElem?_map, hk, Option.map_some] at this
  simpa using this
theorem StrBlk.free {w : World} {g cap : Nat} {L : List ByteArray} (h : StrBlk w g cap L) (k : Nat) : w.frozen? ⟨g, k, none⟩ = false := by
  obtain ⟨cur, h1, _⟩ := h
  exact free_of_block h1 k
theorem StrBlk.set {w : World} {g cap : Nat} {L : List ByteArray} (h : StrBlk w g cap L) (k : Nat) (s : ByteArray) : StrBlk (w.setCell ⟨g, k, none⟩ (.string s)) g cap (L.set k s) := by
  obtain ⟨cur, h1, h2, h3, h4, h5⟩ := h
  refine ⟨cur.setIfInBounds k (.string s), setCell_block h1 _, by simp [h2], by simpa using h3, h4, ?_⟩
  rw [Array.toList_setIfInBounds, List.length_set, List.take_set, h5]
  simp [strs, List.map_set]
theorem StrBlk.chg {S : Nat → Prop} {w w' : World} {g cap : Nat} {L : List ByteArray} (h : StrBlk w g cap L) (hc : Chg S w w') (hn : ¬ S g) : StrBlk w' g cap L := by
  obtain ⟨cur, h1, h2⟩ := h
  exact ⟨cur, (hc.block g (block_lt h1) hn).trans h1, h2⟩
theorem StrBlk.ext {w w' : World} {g cap : Nat} {L : List ByteArray} (h : StrBlk w g cap L) (hc : Ext w w') : StrBlk w' g cap L := h.chg (Chg.of_ext (S := fun _ => False) hc) id
theorem StrBlk.lt {w : World} {g cap : Nat} {L : List ByteArray} (h : StrBlk w g cap L) : g < w.heap.size := by
  obtain ⟨cur, h1, _⟩ := h
  exact block_lt h1

theorem src_pre {w : World} {ad : Addr} {n c k : Nat} {B : List ByteArray} (h : Src w 1 (.slice (some ad) n c) n (strs B)) (hk : k ≤ n) : Src w 1 (.slice (some ad) k c) k (strs (B.take k)) := by
  have hl := strs_src_len h
  rcases h with ⟨e, _⟩ | ⟨ad', c', e, _, h2, h3⟩
  · cases e
  · cases e
    refine .inr ⟨ad, c, rfl, by rw [strs_len]; simp; omega, fun j u hj => ?_, strs_one _⟩
    rw [strs, List.map_take, List.getElem?_take] at hj
    split at hj
    · exact h2 j u hj
    · cases hj

end Go.Proofs.YtgdgjnecgelalaaGreatDoor

/-! slices.Sort of a row of strings. -/

namespace Go.Proofs.YtgdgjnecgelalaaGreatDoor
open Go.RowKit Go.Sort Go.Lib

/-- A row of strings, sorted. -/
theorem sort_any {w : World} {e : TypeId} {v : Value} {n : Nat} {l : List ByteArray} (h : Row w e 1 v n (strs l)) (hn : n < 4611686018427387904) :
    Calls Tryz.prog 47 #[v] w fun r w' => r = .returned (.tuple #[]) ∧ Row w' e 1 v n (strs (sortS l)) ∧ Chg (fun k => v.ownBlock = some k) w w' := by
  have hlen : n = l.length := by have := h.1; rw [strs_len] at this; omega
  rcases h.2 with ⟨rfl, h0⟩ | ⟨g, cap, cur, rfl, hbase, hb, h1, h2, h3, h4⟩
  · refine (Tryz.slices_Sort_string_none none 0 w).mono ?_
    rintro r w' ⟨rfl, rfl⟩
    have hl : l = [] := List.length_eq_zero_iff.1 (by omega)
    subst hl
    have e0 : sortS [] = [] := List.length_eq_zero_iff.1 (by rw [sortS_length]; rfl)
    exact ⟨rfl, by rw [e0]; exact h, Chg.refl _ _⟩
  · subst hlen
    have h4' : cur.toList.take (l.map bl).length = (l.map bl).map encStr := by rw [← strs_enc, List.length_map]; simpa using h4
    have hH := holds_of_block (ss := l.map bl) hb h4'
    have key := Tryz.slices_Sort_string g 0 cap (l.map bl) w hH (block_lt hb) (by simpa using hn)
    rw [List.length_map] at key
    refine key.mono ?_
    rintro r w' ⟨rfl, m, os, rfl⟩
    refine ⟨rfl, ?_, Chg.of_grown (grownBy_sorted _) |>.mono (fun i _ hi => by simpa [Value.ownBlock] using hi)⟩
    have := ownsRow_sorted (w := w) (base := 0) (g := g) (cap := cap) (n := m) (os := os) (ss := l.map bl) (ts := (l.map bl).mergeSort fun x y => decide (x ≤ y)) (by simp) hbase hb (by simpa using h1) h2 h3
    rw [List.length_map] at this
    rw [sortS, ← strs_enc']
    exact this

end Go.Proofs.YtgdgjnecgelalaaGreatDoor

/-! Ranging over a map: what is left, in whatever order it comes. -/

namespace Go.Proofs.YtgdgjnecgelalaaGreatDoor
open Go.RowKit Go.Sort Go.Lib

section
variable {α : Type} {P : Program} {kt et t : TypeId} {enc : α → Value} {w w' : World} {b r : Nat} {m left : List (α × Value)}

/-- Block r is an iterator over the map b, which holds just m; 'left' has not come yet. -/
def Iter (enc : α → Value) (w : World) (b r : Nat) (m left : List (α × Value)) : Prop :=
  ∃ es clock seen, w.heap[b]? = some (.map es clock) ∧ w.heap[r]? = some (.mapIter (some b) clock seen clock) ∧ es.toList.map (fun e => (e.key, e.val)) = m.map (fun p => (enc p.1, p.2)) ∧
    (es.toList.map (·.born)).Pairwise (· < ·) ∧ (∀ e ∈ es.toList, e.born < clock) ∧ (es.toList.filter (fun e => !seen.contains e.born)).map (fun e => (e.key, e.val)) = left.map (fun p => (enc p.1, p.2))

theorem Iter.map (h : Iter enc w b r m left) : MapIs enc w b m := by
  obtain ⟨es, clock, seen, h1, _, h3, h4, h5, _⟩ := h
  exact ⟨es, clock, h1, h3, h4, h5⟩
theorem Iter.lt (h : Iter enc w b r m left) : r < w.heap.size ∧ b < w.heap.size ∧ r ≠ b := by
  have hb := h.map.lt
  obtain ⟨es, clock, seen, h1, h2, _⟩ := h
  refine ⟨?_, hb, ?_⟩
  · rcases Nat.lt_or_ge r w.heap.size with h | h
    · exact h
    · simp [Array.getElem?_eq_none h] at h2
  · rintro rfl
    rw [h1] at h2
    cases h2
theorem Iter.chg {S : Nat → Prop} (h : Iter enc w b r m left) (hc : Chg S w w') (hn : ¬ S b) (hn2 : ¬ S r) : Iter enc w' b r m left := by
  obtain ⟨l1, l2, _⟩ := h.lt
  obtain ⟨es, clock, seen, h1, h2, h3⟩ := h
  exact ⟨es, clock, seen, by rw [hc.block b l2 hn]; exact h1, by rw [hc.block r l1 hn2]; exact h2, h3⟩
theorem Iter.ext (h : Iter enc w b r m left) (hc : Ext w w') : Iter enc w' b r m left := h.chg (Chg.of_ext (S := fun _ => False) hc) id id

theorem iter_range (h : MapIs enc w b m) (ht : P.underlying t = some (.map kt et)) :
    ∃ it, (Instr.range t (.map (some b))).run P w = .ok (.pointer (some ⟨w.heap.size, 0, none⟩)) (w.alloc it) ∧ Iter enc (w.alloc it) b w.heap.size m m := by
  have hlt := h.lt
  obtain ⟨es, clock, h1, h3, h4, h5⟩ := h
  refine ⟨_, run_range_map w t kt et b es clock ht h1, es, clock, #[], ?_, heap_alloc_new _ _, h3, h4, h5, ?_⟩
  · rw [heap_alloc_old w _ hlt]; exact h1
  · rw [← h3]
    congr 1
    exact List.filter_eq_self.2 (fun _ _ => by simp)

theorem filter_born (L : List MapEntry) (hp : (L.map (·.born)).Pairwise (· < ·)) (j : Nat) (e : MapEntry) (he : L[j]? = some e) : L.filter (fun x => !(x.born == e.born)) = L.take j ++ L.drop (j + 1) := by
  induction L generalizing j with
  | nil => simp at he
  | cons x L ih =>
    have hx : ∀ y ∈ L, x.born < y.born := fun y hy => (List.pairwise_cons.1 hp).1 y.born (List.mem_map.2 ⟨y, hy, rfl⟩)
    have hL := (List.pairwise_cons.1 hp).2
    cases j with
    | zero =>
      simp at he; subst he
      simp only [List.filter_cons, beq_self_eq_true, Bool.not_true, Bool.false_eq_true, if_false, List.take_zero, List.nil_append, List.drop_succ_cons, List.drop_zero]
      exact List.filter_eq_self.2 (fun y hy => by have := hx y hy; simp; omega)
    | succ j =>
      have he' : L[j]? = some e := by simpa using he
      have hlt := hx e (List.mem_of_getElem? he')
      have hne : (x.born == e.born) = false := by simp; omega
      simp only [List.filter_cons, hne, Bool.not_false, if_true, List.take_succ_cons, List.drop_succ_cons, List.cons_append]
      rw [ih hL j he']

theorem run_setObj (w : World) (r : Nat) (o : Obj) {a : Option Nat} {x : Nat} {y : Array Nat} {z : Nat} (h : w.heap[r]? = some (.mapIter a x y z)) : (setObj r o).run P w = .ok () (setBlk w r o) := by
  simp [setObj, Sem.run, setBlk, h]

theorem iter_next (h : Iter enc w b r m left) :
    (left = [] ∧ ∀ ty, (Instr.next (.pointer (some ⟨r, 0, none⟩)) false ty).run P w = .ok (.tuple #[.bool false]) w) ∨
    ∃ l1 k v l2 w1, left = l1 ++ (k, v) :: l2 ∧ (∀ ty, (Instr.next (.pointer (some ⟨r, 0, none⟩)) false ty).run P w = .ok (.tuple #[.bool true, enc k, v]) w1) ∧ (Instr.entry (.pointer (some ⟨r, 0, none⟩))).run P w1 = .ok (.tuple #[enc k, v]) w1 ∧ Iter enc w1 b r m (l1 ++ l2) ∧ Chg (· = r) w w1 ∧ w1.heap.size = w.heap.size := by
  obtain ⟨lr, lb, hne⟩ := h.lt
  obtain ⟨es, clock, seen, hb, hr, h3, h4, h5, h6⟩ := h
  have ht := next_test_false seen es clock clock h5 (Nat.le_refl _)
  have hmem : ∀ x ∈ (Array.filter (fun e => !seen.contains e.born) es).toList, x.born < clock := fun x hx => h5 x (by simp at hx ⊢; exact hx.1)
  have hL0 : (Array.filter (fun e => !seen.contains e.born) es).toList = es.toList.filter (fun e => !seen.contains e.born) := Array.toList_filter ..
  rw [← hL0] at h6
  simp only [Instr.next, getObj, Sem.run_bind, Sem.run, hr, hb, Result.andThen, ht, Bool.false_eq_true, if_false]
  have hpw : ((Array.filter (fun e => !seen.contains e.born) es).toList.map (·.born)).Pairwise (· < ·) := by
    rw [hL0]; exact h4.sublist ((List.filter_sublist).map _)
  have hsub : ∀ x ∈ (Array.filter (fun e => !seen.contains e.born) es).toList, x ∈ es.toList := fun x hx => by rw [hL0] at hx; exact (List.mem_filter.1 hx).1
  have hpush : ∀ e : MapEntry, es.toList.filter (fun x => !(seen.push e.born).contains x.born) = (Array.filter (fun e => !seen.contains e.born) es).toList.filter (fun x => !(x.born == e.born)) := by
    intro e
    rw [hL0, List.filter_filter]
    apply List.filter_congr
    intro x _
    rw [contains_push]
    cases seen.contains x.born <;> cases (x.born == e.born) <;> rfl
  generalize hL : Array.filter (fun e => !seen.contains e.born) es = L at *
  have e1 : L.filter (fun x => decide (x.born < clock)) = L := Array.filter_eq_self.2 (fun x hx => by simpa using hmem x (by simpa using hx))
  have e2 : L.filter (fun x => decide (x.born ≥ clock)) = #[] := by
    rw [Array.filter_eq_empty_iff]
    intro x hx
    have := hmem x (by simpa using hx)
    simp
    omega
  simp only [e1, e2, Array.append_empty]
  by_cases h0 : L.size = 0
  · left
    have hLe : L = #[] := Array.eq_empty_of_size_eq_zero h0
    subst hLe
    refine ⟨by simpa using h6.symm, ?_⟩
    simp [choose, Sem.run, Question.forced]
  · right
    have hnE : L.isEmpty = false := by simp [Array.isEmpty, h0]
    simp only [hnE, Bool.false_eq_true, if_false, Array.empty_append, Array.size_map]
    have hch : ∃ (j : Nat) (w1 : World), j < L.size ∧ (w1 = w ∨ w1 = w.drew) ∧ (choose (Question.mapNext L.size)).run P w = .ok j w1 := by
      by_cases hf : L.size ≤ 1
      · exact ⟨0, w, by omega, .inl rfl, by simp [choose, Sem.run, Question.forced, hf]⟩
      · exact ⟨_, w.drew, Nat.mod_lt _ (by omega), .inr rfl, by
          simp only [choose, Sem.run, Question.forced, decide_eq_true_eq, hf, if_false, Question.cut]
          rfl⟩
    obtain ⟨j, w1, hj, hw1, hrun⟩ := hch
    have hlen : left.length = L.size := by have := congrArg List.length h6; simpa using this.symm
    have hjl : j < left.length := by omega
    have hkv : (L[j].key, L[j].val) = (enc left[j].1, left[j].2) := by
      have := congrArg (fun l => l[j]?) h6
      simpa [hj, hjl] using this
    have hk : L[j].key = enc left[j].1 := congrArg Prod.fst hkv
    have hv : L[j].val = left[j].2 := congrArg Prod.snd hkv
    have hheap : w1.heap = w.heap := by rcases hw1 with rfl | rfl <;> rfl
    have hLj : L.toList[j]? = some L[j] := by simp [hj]
    have hC : Chg (· = r) w (setBlk w1 r (.mapIter (some b) clock (seen.push L[j].born) clock)) := by
      have hc := setBlk_chg w1 r (.mapIter (some b) clock (seen.push L[j].born) clock)
      rcases hw1 with rfl | rfl
      · exact hc
      · exact ⟨hc.os, hc.tape, hc.output, hc.size, hc.block⟩
    refine ⟨left.take j, left[j].1, left[j].2, left.drop (j + 1), setBlk w1 r (.mapIter (some b) clock (seen.push L[j].born) clock), ?_, ?_, ?_, ?_, hC, by simp [setBlk, hheap]⟩
    · rw [← List.drop_eq_getElem_cons hjl, List.take_append_drop]
    · intro ty
      have hr1 : w1.heap[r]? = some (.mapIter (some b) clock seen clock) := by rw [hheap]; exact hr
      simp only [hrun, Array.getElem?_map, Array.getElem?_eq_getElem hj, Option.map_some, Sem.run_bind, run_setObj w1 r _ hr1, Result.andThen, hk, hv]
      rfl
    · have b1 : (setBlk w1 r (.mapIter (some b) clock (seen.push L[j].born) clock)).heap[r]? = some (.mapIter (some b) clock (seen.push L[j].born) clock) := setBlk_same (by rw [hheap]; exact lr)
      have b2 : (setBlk w1 r (.mapIter (some b) clock (seen.push L[j].born) clock)).heap[b]? = some (.map es clock) := by rw [setBlk_other (Ne.symm hne), hheap]; exact hb
      have hnd : (es.toList.map (·.born)).Nodup := h4.imp (fun h => Nat.ne_of_lt h)
      have hf : es.find? (·.born == L[j].born) = some L[j] := by rw [← Array.find?_toList]; exact find_born L[j] es.toList hnd (hsub _ (List.mem_of_getElem? hLj))
      simp only [Instr.entry, getObj, Sem.run_bind, Sem.run, b1, b2, Result.andThen, Array.back?_push, bne_self_eq_false, Bool.false_eq_true, if_false, hf, hk, hv]
      rfl
    · refine ⟨es, clock, seen.push L[j].born, ?_, setBlk_same (by rw [hheap]; exact lr), h3, h4, h5, ?_⟩
      · rw [setBlk_other (Ne.symm hne), hheap]; exact hb
      · rw [hpush, filter_born L.toList hpw j _ hLj, List.map_append, List.map_take, List.map_drop, h6, List.map_append, List.map_take, List.map_drop]
/-- How many are left: what a loop counts down. -/
def iterLeft (w : World) (b r : Nat) : Nat := match w.heap[b]?, w.heap[r]? with
  | some (.map es _), some (.mapIter _ _ seen _) => (es.toList.filter (fun e => !seen.contains e.born)).length
  | _, _ => 0
theorem Iter.count (h : Iter enc w b r m left) : iterLeft w b r = left.length := by
  obtain ⟨es, clock, seen, h1, h2, _, _, _, h6⟩ := h
  have := congrArg List.length h6
  simp only [iterLeft, h1, h2]
  simpa using this
end
end Go.Proofs.YtgdgjnecgelalaaGreatDoor

/-! Contract of disk's List. -/

namespace Go.Proofs.YtgdgjnecgelalaaGreatDoor
open Go.RowKit Go.Sort Go.Lib

/-- The names that begin so. -/
def DiskS.names (S : DiskS) (p : ByteArray) : List ByteArray := (S.files.map (·.1)).filter fun s => Lib.hasPrefix (bl s) (bl p)
def DiskS.list (S : DiskS) (p : ByteArray) : List ByteArray := sortS (S.names p)

/-- What has come of the names, while some are left. -/
structure ListR (w : World) (d mb r : Nat) (E : List (ByteArray × FileX)) (room used left ops : Int) (p : ByteArray) (rest : List (ByteArray × Value)) (L : List ByteArray) (v : Value) (wr : World) : Prop where
  iter : Iter (fun s : ByteArray => Value.string s) wr mb r (ptrs E) rest
  to : StrsTo w L v wr
  perm : (L ++ (rest.map (·.1)).filter fun s => Lib.hasPrefix (bl s) (bl p)).Perm ((E.map (·.1)).filter fun s => Lib.hasPrefix (bl s) (bl p))
  new : w.heap.size ≤ r
  ne : mb < w.heap.size
  own : ∀ g, v.ownBlock = some g → g ≠ r

theorem ptrs_keys (E : List (ByteArray × FileX)) : (ptrs E).map (·.1) = E.map (·.1) := amap_keys _ _

theorem perm_yes {L : List ByteArray} {l1 l2 : List (ByteArray × Value)} {s : ByteArray} {v : Value} {M : List ByteArray} {P : ByteArray → Bool} (hp : P s = true) (h : (L ++ ((l1 ++ (s, v) :: l2).map (·.1)).filter P).Perm M) : ((L ++ [s]) ++ ((l1 ++ l2).map (·.1)).filter P).Perm M := by
  refine List.Perm.trans ?_ h
  simp only [List.map_append, List.map_cons, List.filter_append, List.filter_cons, hp, if_true, List.append_assoc, List.singleton_append]
  exact List.Perm.append_left _ List.perm_middle.symm
theorem perm_no {L : List ByteArray} {l1 l2 : List (ByteArray × Value)} {s : ByteArray} {v : Value} {M : List ByteArray} {P : ByteArray → Bool} (hp : P s = false) (h : (L ++ ((l1 ++ (s, v) :: l2).map (·.1)).filter P).Perm M) : (L ++ ((l1 ++ l2).map (·.1)).filter P).Perm M := by
  refine List.Perm.trans ?_ h
  simp [hp]

theorem StrsTo.snoc {w w1 w2 w3 : World} {L : List ByteArray} {s : ByteArray} {v v' : Value} {n : Nat} (h : StrsTo w L v w1) (hx : Ext w1 w2) (ha : Appended w2 9 1 v n (strs L ++ strs [s]) v' w3) (hn : n = L.length + 1) : StrsTo w (L ++ [s]) v' w3 := by
  subst hn
  refine ⟨?_, fun g hg => ?_, Chg.ext ((Chg.of_ext (h.ext.trans hx)).trans ha.chg (fun _ _ e => e)) (fun i hi e => by have := h.own i e; omega)⟩
  · have := ha.row
    rw [show strs (L ++ [s]) = strs L ++ strs [s] by simp [strs], List.length_append]
    exact this
  · rcases ha.loc with e | e
    · rw [e] at hg; exact h.own g hg
    · rw [e] at hg; have := h.ext.size; have := hx.size; simp at hg; omega

set_option maxHeartbeats 4000000 in
set_option maxRecDepth 100000 in
theorem disk_list {w : World} {d : Nat} {S : DiskS} {B : List Nat} (ok : S.Ok) (h : DiskAt w d S B) (p : ByteArray) :
    Calls Tryz.prog 20 #[.pointer (some ⟨d, 0, none⟩), .string p] w fun e w' => ∃ v, e = .returned v ∧ StrsTo w (S.list p) v w' := by
  obtain ⟨mb, E, h, hfs, rfl⟩ := h
  have c0 : w.cell? ⟨d, 0, none⟩ = some (.map (some mb)) := by rw [cell_of_block h.head]; rfl
  obtain ⟨it, hrg, hit⟩ := iter_range (P := Tryz.prog) h.map Tryz.underlying69
  have hnm : E.map (·.1) = S.files.map (·.1) := by rw [← hfs, fs, amap_keys]
  have HL : Hid (S.list p = sortS ((E.map (·.1)).filter fun s => Lib.hasPrefix (bl s) (bl p)) ∧ E.length ≤ 512) := Lib.hid ⟨by rw [DiskS.list, DiskS.names, hnm], by
    have := congrArg List.length hnm
    have h2 := ok.few
    simp at this; omega⟩
  obtain ⟨r, hr⟩ : ∃ r, r = w.heap.size := ⟨_, rfl⟩
  have HR : Hid (ListR w d mb r E S.room S.used S.left S.ops p (ptrs E) [] (.slice none 0 0) (w.alloc it)) := Lib.hid (by
    subst hr
    exact ⟨hit, ⟨Row.nil _ _ _, fun g hg => by simp [Value.ownBlock] at hg, (Ext.refl w).alloc _⟩, by rw [ptrs_keys]; simp, Nat.le_refl _, h.map.lt, fun g hg => by simp [Value.ownBlock] at hg⟩)
  rw [← hr] at hrg
  clear h hfs hit hnm hr
  go_enter Tryz.func20, Tryz.ntmps20
  go_wp2_with (go_at_call 22; refine (disk_none c0).mono ?_; rintro e w' ⟨rfl, rfl⟩)
  clear c0 hrg
  go_loopw [5] (fun v wr => ∃ rest L va vc, v = .slice va (List.length L) vc ∧ Hid (ListR w d mb r E S.room S.used S.left S.ops p rest L v wr)) (fun _ wr => iterLeft wr mb r)
  case atStart => exact ⟨_, [], none, 0, rfl, HR⟩
  case round =>
    clear HR
    obtain ⟨rest, L, va, vc, rfl, HR⟩ := hrel
    have hLl : L.length ≤ 512 := by
      have h1 := HR.out.perm.length_eq
      have h2 := List.length_filter_le (fun s => Lib.hasPrefix (bl s) (bl p)) (E.map (·.1))
      have h3 := HL.out.2
      simp at h1 h2; omega
    rcases iter_next (P := Tryz.prog) HR.out.iter with ⟨rfl, hnx⟩ | ⟨l1, s, pv, l2, w2, hl, hnx, hen, hi, hch, hsz⟩
    · go_wp2_with fail
      refine (sort_any HR.out.to.row (by omega)).mono ?_
      rintro e w2 ⟨rfl, hrow, hc⟩
      have HRow := Lib.hid hrow
      have HC := Lib.hid hc
      clear hrow hc
      go_wp2_with fail
      go_ret
      have e1 : sortS L = S.list p := by
        rw [HL.out.1]
        exact sorted_unique ((sortS_perm L).trans ((by simpa using HR.out.perm : L.Perm _).trans (sortS_perm _).symm)) (sortS_sorted _) (sortS_sorted _)
      refine ⟨_, rfl, ?_, HR.out.to.own, ((Chg.of_ext (S := fun k => (Value.slice va L.length vc).ownBlock = some k) HR.out.to.ext).trans HC.out (fun _ _ e => e)).ext (fun i hi e => by have := HR.out.to.own i e; omega)⟩
      rw [← e1, sortS_length]; exact HRow.out
    · have hx2 : Ext w w2 := ((Chg.of_ext (S := (· = r)) HR.out.to.ext).trans hch (fun _ _ e => e)).ext (fun i hi e => by have := HR.out.new; omega)
      have hto2 : StrsTo w L (.slice va L.length vc) w2 := ⟨HR.out.to.row.chg hch (fun g hg => HR.out.own g hg), HR.out.to.own, hx2⟩
      have HT2 := Lib.hid hto2
      have hil := hi.lt
      have hcnt := HR.out.iter.count
      have HCN : Hid (iterLeft wr mb r = l1.length + l2.length + 1) := Lib.hid (by rw [hcnt, hl, List.length_append, List.length_cons]; omega)
      have HI := Lib.hid hi
      have HCH := Lib.hid hch
      have hrlt := hil.1
      have HRL := Lib.hid hrlt
      have HK := Lib.hid (⟨HR.out.perm, HR.out.new, HR.out.ne, HR.out.own⟩ : _ ∧ _ ∧ _ ∧ _)
      have HLR := Lib.hid hl
      clear hl hx2 hto2 hil hcnt hi hch hsz hrlt
      go_wp2_with fail
      refine (Tryz.strings_HasPrefix s p w2).mono ?_
      rintro e w3 ⟨rfl, hw3⟩
      have HW3 := Lib.hid hw3
      cases hp : Lib.hasPrefix (bl s) (bl p)
      · have h0 := HK.out.1
        rw [HLR.out] at h0
        have HP := Lib.hid (perm_no hp h0)
        clear h0
        rw [show Lib.hasPrefix s.data.toList p.data.toList = false from hp]
        subst hw3
        clear hp HW3
        go_wp2_with fail
        go_roundw
        case rel => exact ⟨l1 ++ l2, L, va, vc, rfl, Lib.hid ⟨HI.out, HT2.out, HP.out, HK.out.2.1, HK.out.2.2.1, HK.out.2.2.2⟩⟩
        case measure => have h1 := HCN.out; have h2 := HI.out.count; rw [List.length_append] at h2; omega
      · have h0 := HK.out.1
        rw [HLR.out] at h0
        have HP := Lib.hid (perm_yes hp h0)
        clear h0
        rw [show Lib.hasPrefix s.data.toList p.data.toList = true from hp]
        subst hw3
        clear hp HW3
        go_wp2_with (at_builtin; go_must (refine wpList_append_to (n := L.length) (m := 1) elem_str rfl _ _ rfl (v := .slice _ _ _) rfl rfl (HT2.out.row.alloc _) (src_str' (heap_alloc_new _ _)) (by unfold maxLen; omega) (by omega) ?_; intro v2 w4 happ); have K := Lib.hid (HT2.out.snoc ((Ext.refl _).alloc _) happ rfl); have HCH4 := Lib.hid happ.chg; obtain ⟨va2, vc2, rfl⟩ := happ.row.shape; have HLOC := Lib.hid happ.loc; clear happ)
        have HI4 := Lib.hid ((HI.out.ext ((Ext.refl _).alloc (.cells #[.string s] 9 (0, 0)))).chg HCH4.out (fun e => by have h1 := HT2.out.own mb e; have h2 := HK.out.2.2.1; omega) (fun e => HK.out.2.2.2 r e rfl))
        go_roundw
        case rel => exact ⟨l1 ++ l2, L ++ [s], va2, vc2, by simp, Lib.hid ⟨HI4.out, K.out, HP.out, HK.out.2.1, HK.out.2.2.1, fun g hg => by
          rcases HLOC.out with e | e
          · rw [e] at hg; exact HK.out.2.2.2 g hg
          · rw [e] at hg; have := HRL.out; simp at hg; omega⟩⟩
        case measure => have h1 := HCN.out; have h2 := HI4.out.count; rw [List.length_append] at h2; omega
end Go.Proofs.YtgdgjnecgelalaaGreatDoor

/-! The disk that is found behind a crash, as plain data. -/

namespace Go.Proofs.YtgdgjnecgelalaaGreatDoor
open Go.RowKit Go.Sort Go.Lib

/-- How many bytes of a file are found. -/
def keepN (keep : List Int) (i : Nat) (f : FileS) : Nat :=
  f.lasts + (max 0 (min (keep.getD i 0) (f.bytes.length - f.lasts : Nat)) : Int).toNat
theorem keepN_le (keep : List Int) (i : Nat) {f : FileS} (h : f.lasts ≤ f.bytes.length) : keepN keep i f ≤ f.bytes.length := by unfold keepN; omega
/-- What is found of a file. -/
def keepF (keep : List Int) (i : Nat) (f : FileS) : Option FileS :=
  if 0 < keepN keep i f ∨ f.synced = true then some ⟨f.bytes.take (keepN keep i f), keepN keep i f, true⟩ else none

def zeroF : FileS := ⟨[], 0, false⟩
def found (s : ByteArray) : Option FileS → List (ByteArray × FileS)
  | none => []
  | some f => [(s, f)]
/-- The files that are found, of the first names. -/
def crashStep (S : DiskS) (keep : List Int) (k : Nat) : List (ByteArray × FileS) := match (S.list ⟨#[]⟩)[k]? with
  | none => []
  | some s => found s (keepF keep k ((aget S.files s).getD zeroF))
def crashTo (S : DiskS) (keep : List Int) : Nat → List (ByteArray × FileS)
  | 0 => []
  | k + 1 => crashTo S keep k ++ crashStep S keep k
def sumF (l : List (ByteArray × FileS)) : Nat := (l.map fun p => p.2.bytes.length).sum
/-- The disk that is found, of the first names. -/
def crashS (S : DiskS) (keep : List Int) (k : Nat) : DiskS := ⟨crashTo S keep k, S.room, sumF (crashTo S keep k), -1, 0⟩
def DiskS.crash (S : DiskS) (keep : List Int) : DiskS := crashS S keep (S.list ⟨#[]⟩).length

theorem sumF_append (a b : List (ByteArray × FileS)) : sumF (a ++ b) = sumF a + sumF b := by simp [sumF]
theorem crashTo_names (S : DiskS) (keep : List Int) : ∀ k, List.Sublist ((crashTo S keep k).map (·.1)) ((S.list ⟨#[]⟩).take k)
  | 0 => by simp [crashTo]
  | k + 1 => by
    have ih := crashTo_names S keep k
    rw [List.take_add_one, crashTo, List.map_append]
    refine ih.append ?_
    unfold crashStep
    cases (S.list ⟨#[]⟩)[k]? with
    | none => simp
    | some s =>
      cases h : keepF keep k ((aget S.files s).getD zeroF) with
      | none => simp [h, found]
      | some f => simp [h, found]
theorem names_all (S : DiskS) : S.names ⟨#[]⟩ = S.files.map (·.1) := by
  unfold DiskS.names
  exact List.filter_eq_self.2 (fun s _ => by simp [bl, Lib.hasPrefix])
theorem list_nodup {S : DiskS} (ok : S.Ok) : (S.list ⟨#[]⟩).Nodup := by
  unfold DiskS.list
  rw [names_all]
  exact (sortS_perm _).symm.nodup ok.names
theorem list_len {S : DiskS} (ok : S.Ok) : (S.list ⟨#[]⟩).length ≤ 512 := by
  unfold DiskS.list
  rw [names_all, sortS_length, List.length_map]
  exact ok.few
theorem list_mem {S : DiskS} {k : Nat} {s : ByteArray} (h : (S.list ⟨#[]⟩)[k]? = some s) : ∃ f, aget S.files s = some f := by
  have hm : s ∈ S.files.map (·.1) := by
    rw [← names_all]
    exact (sortS_perm _).subset (List.mem_of_getElem? h)
  have := (aget_isSome_iff (m := S.files) (k := s)).2 hm
  exact Option.isSome_iff_exists.1 this
theorem crashTo_new {S : DiskS} (ok : S.Ok) (keep : List Int) {k : Nat} {s : ByteArray} (h : (S.list ⟨#[]⟩)[k]? = some s) : aget (crashTo S keep k) s = none := by
  rw [aget_none_iff]
  intro hm
  have h1 := (crashTo_names S keep k).subset hm
  obtain ⟨i, hi⟩ := List.getElem?_of_mem h1
  rw [List.getElem?_take] at hi
  split at hi
  · rename_i hik
    obtain ⟨hl1, e1⟩ := List.getElem?_eq_some_iff.1 hi
    obtain ⟨hl2, e2⟩ := List.getElem?_eq_some_iff.1 h
    have h3 := list_nodup ok
    rw [List.nodup_iff_pairwise_ne, List.pairwise_iff_getElem] at h3
    exact h3 i k hl1 hl2 hik (e1.trans e2.symm)
  · cases hi
theorem crashTo_small {S : DiskS} (ok : S.Ok) (keep : List Int) : ∀ k, ∀ p ∈ crashTo S keep k, p.2.bytes.length ≤ 1048576 ∧ p.2.lasts ≤ p.2.bytes.length
  | 0 => by simp [crashTo]
  | k + 1 => by
    intro p hp
    rw [crashTo] at hp
    rcases List.mem_append.1 hp with hp | hp
    · exact crashTo_small ok keep k p hp
    · unfold crashStep at hp
      cases hs : (S.list ⟨#[]⟩)[k]? with
      | none => rw [hs] at hp; simp at hp
      | some s =>
        rw [hs] at hp
        obtain ⟨f, hf⟩ := list_mem hs
        simp only [hf, Option.getD_some] at hp
        have h1 := ok.small _ (aget_mem hf)
        have h2 := keepN_le keep k (ok.lasts _ (aget_mem hf))
        simp only at h1 h2
        unfold keepF at hp
        split at hp
        · simp [found] at hp
          subst hp
          simp; omega
        · simp [found] at hp
theorem crashTo_sum {S : DiskS} (ok : S.Ok) (keep : List Int) : ∀ k, sumF (crashTo S keep k) ≤ k * 1048576
  | 0 => by simp [crashTo, sumF]
  | k + 1 => by
    have ih := crashTo_sum ok keep k
    have hs := crashTo_small ok keep (k + 1)
    rw [crashTo] at hs ⊢
    rw [sumF_append]
    suffices h : ∀ l : List (ByteArray × FileS), (∀ p ∈ l, p.2.bytes.length ≤ 1048576) → l.length ≤ 1 → sumF l ≤ 1048576 by
      have := h (crashStep S keep k) (fun p hp => (hs p (List.mem_append_right _ hp)).1) (by
        unfold crashStep
        cases (S.list ⟨#[]⟩)[k]? with
        | none => simp
        | some s => cases h : keepF keep k ((aget S.files s).getD zeroF) <;> simp [h, found])
      omega
    intro l h1 h2
    match l, h2 with
    | [], _ => simp [sumF]
    | [p], _ => have := h1 p (by simp); simpa [sumF] using this
end Go.Proofs.YtgdgjnecgelalaaGreatDoor
