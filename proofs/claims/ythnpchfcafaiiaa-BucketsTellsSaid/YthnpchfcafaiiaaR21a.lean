/- A part of an element of a row is written; the document's buckets in memory; plain: putting into sorted buckets. -/
import Derived.Test.YthnpchfcafaiiaaR08m
import Derived.Test.YthnpchfcafaiiaaR08n
import Derived.Test.YthnpchfcafaiiaaBkt
namespace Go.Proofs.Ythnpchfcafaiiaa
open Go.RowKit Go.Lib Go.Sort

theorem flat_set {α : Type} {enc : α → List Value} {s : Nat} (hs : ∀ x, (enc x).length = s) {L : List α} {k : Nat} {x p : α} (hx : L[k]? = some x) (j : Nat) (mid : List Value) (hj : j + mid.length ≤ s) (hp : enc p = (enc x).take j ++ mid ++ (enc x).drop (j + mid.length)) (rest : List Value) :
    (L.flatMap enc ++ rest).take (k * s + j) ++ mid ++ (L.flatMap enc ++ rest).drop (k * s + j + mid.length) = (L.set k p).flatMap enc ++ rest := by
  obtain ⟨hk, rfl⟩ := List.getElem?_eq_some_iff.1 hx
  have e1 : L.flatMap enc = (L.take k).flatMap enc ++ (enc L[k] ++ (L.drop (k + 1)).flatMap enc) := by
    conv => lhs; rw [← List.take_append_drop k L, List.flatMap_append, List.drop_eq_getElem_cons hk, List.flatMap_cons]
  have e2 : (L.set k p).flatMap enc = (L.take k).flatMap enc ++ (enc p ++ (L.drop (k + 1)).flatMap enc) := by
    rw [List.set_eq_take_append_cons_drop, if_pos hk, List.flatMap_append, List.flatMap_cons]
  have hl1 : ((L.take k).flatMap enc).length = k * s := by rw [enc_len hs, List.length_take, Nat.min_eq_left (by omega)]
  have hlx := hs L[k]
  rw [e1, e2, hp]
  simp only [List.append_assoc]
  rw [← hl1, List.take_length_add_append, List.take_append_of_le_length (by omega)]
  rw [Nat.add_assoc, ← List.drop_drop, List.drop_left]
  rw [List.drop_append_of_le_length (by omega)]
  simp only [List.append_assoc]

/-- A part of an element is written. -/
theorem row_part {α : Type} {enc : α → List Value} {s : Nat} (hs : ∀ x, (enc x).length = s) (h0 : 0 < s) {w : World} {e : TypeId} {b so n c : Nat} {L : List α} (h : Row w e s (.slice (some ⟨b, so, none⟩) n c) n (L.flatMap enc)) {k : Nat} {x p : α} (hx : L[k]? = some x) (j : Nat) (mid : List Value) (hj : j + mid.length ≤ s)
    (hp : enc p = (enc x).take j ++ mid ++ (enc x).drop (j + mid.length)) :
    ∃ old new : Array Value, w.heap[b]? = some (.cells old e (0, 0)) ∧ so + (k * s + j) + mid.length ≤ old.size ∧ old.toList.take (so + (k * s + j)) ++ mid ++ old.toList.drop (so + (k * s + j) + mid.length) = new.toList ∧
      ∀ w', w'.heap[b]? = some (.cells new e (0, 0)) → Row w' e s (.slice (some ⟨b, so, none⟩) n c) n ((L.set k p).flatMap enc) := by
  have hkl := (List.getElem?_eq_some_iff.1 hx).1
  obtain ⟨hl, ⟨e', _⟩ | ⟨g', cap, cur, e', hb0, hb, h1, h2, h3, h4⟩⟩ := h
  · cases e'
  · simp only [Value.slice.injEq, Option.some.injEq, Addr.mk.injEq, and_true, true_and] at e'
    obtain ⟨⟨rfl, rfl⟩, rfl⟩ := e'
    have hln : L.length = n := by
      rw [enc_len hs] at hl
      exact Nat.eq_of_mul_eq_mul_right h0 hl
    have hks : k * s + s ≤ n * s := by rw [← Nat.succ_mul]; exact Nat.mul_le_mul_right _ (by omega)
    have hnc : n * s ≤ c * s := Nat.mul_le_mul_right _ h1
    have hcur : cur.toList = L.flatMap enc ++ cur.toList.drop (n * s) := by rw [← h4, List.take_append_drop]
    have key := flat_set hs hx j mid hj hp (cur.toList.drop (n * s))
    rw [← hcur] at key
    refine ⟨cur, ((L.set k p).flatMap enc ++ cur.toList.drop (n * s)).toArray, hb, by omega, ?_, ?_⟩
    · rw [Nat.zero_add, key]
    · intro w' hw'
      have hlen : ((L.set k p).flatMap enc).length = n * s := by rw [enc_len hs, List.length_set, hln]
      refine ⟨hlen, .inr ⟨b, c, _, rfl, hb0, hw', h1, h2, ?_, ?_⟩⟩
      · simp only [List.size_toArray, List.length_append, hlen, List.length_drop, Array.length_toList]; omega
      · rw [← hlen, List.take_left]

/-- A bucket's cells, as the document has it. -/
def rbc (b : Bk) : List Value := .int .i64 b.lo :: .int .i64 b.hi :: (agR b.a).toList
theorem rbc_len (b : Bk) : (rbc b).length = 19 := rfl
theorem rbc_one (b : Bk) : ∀ v ∈ rbc b, v.oneCell' = true := by
  intro v hv
  simp only [rbc, agR, List.mem_cons, List.not_mem_nil, or_false] at hv
  rcases hv with rfl | rfl | rfl | rfl | rfl | rfl | rfl | rfl | rfl | rfl | rfl | rfl | rfl | rfl | rfl | rfl | rfl | rfl | rfl <;> rfl
def rbs (l : List Bk) : List Value := l.flatMap rbc
theorem rbs_one (l : List Bk) : ∀ u ∈ rbs l, u.oneCell' = true := by
  intro u hu
  simp only [rbs, List.mem_flatMap] at hu
  obtain ⟨b, _, h⟩ := hu
  exact rbc_one b u h
theorem rbs_append (a b : List Bk) : rbs (a ++ b) = rbs a ++ rbs b := by simp [rbs]
theorem elem_rbk : ElemOk Try.prog 29 80 19 152 :=
  ⟨Try.underlying29, by
    obtain ⟨i0, hi, hz0, hz1, hz2⟩ := info_parts (show (Try.prog.info? 80).map (fun i => (i.zero, i.size, i.bytes)) = some (some (.agg #[.int .i64 0, .int .i64 0, .int .i64 0, .int .i64 0, .int .i64 0, .int .i64 0, .int .i64 0, .int .i64 0, .int .i64 0, .int .i64 0, .int .i64 0, .int .i64 0, .int .i64 0, .int .i64 0, .int .i64 0, .int .i64 0, .int .i64 0, .int .i64 0, .int .i64 0]), 19, 152) from by kernel_rfl)
    exact ⟨i0, _, hi, hz0, hz1, hz2, rfl⟩, by decide⟩
theorem rb_info : (Try.prog.info? 80).map (·.size) = some 19 := by kernel_rfl

/-- The document's Merge, where the second one has points. -/
theorem rMerge_any (a b : Ag) (w : World) (ha : a.fine) (hb : b.fine) (hb1 : 1 ≤ b.n) (hs : sumOk (a.s + b.s)) :
    Calls Try.prog 25 #[.agg (agR a), .agg (agR b)] w fun e w' => e = .returned (.tuple #[.agg (agR (agM a b)), .int .i64 0]) ∧ Ext w w' := by
  by_cases h : a.n = 0
  · have := rMerge_none a b w h hb1
    unfold agM
    rw [if_pos h]
    exact this
  · exact rMerge_two a b w (by have := ha.1; omega) ha.2.1 hb1 hb.2.1 ha.2.2 hb.2.2 hs

/-- Into buckets that rise. -/
def putB (a : Ag) (x : Int × Int) : List Bk → List Bk
  | [] => [⟨x.1, x.2, agM Ag.zero a⟩]
  | b :: l => if b.lo < x.1 then b :: putB a x l else if b.lo = x.1 then ⟨b.lo, b.hi, agM b.a a⟩ :: l else ⟨x.1, x.2, agM Ag.zero a⟩ :: b :: l
def putSL (L : List Bk) (a : Ag) (l : List (Int × Int)) : List Bk := l.foldl (fun L x => putB a x L) L
/-- Where it is put. -/
def kAt (z : Int) : List Bk → Nat
  | [] => 0
  | b :: l => if b.lo < z then kAt z l + 1 else 0
theorem kAt_le (z : Int) (L : List Bk) : kAt z L ≤ L.length := by
  induction L with
  | nil => simp [kAt]
  | cons b l ih => simp only [kAt]; split <;> simp <;> omega
theorem kAt_lt {z : Int} {L : List Bk} {i : Nat} {b : Bk} (hi : i < kAt z L) (hb : L[i]? = some b) : b.lo < z := by
  induction L generalizing i with
  | nil => simp at hb
  | cons c l ih =>
    simp only [kAt] at hi
    split at hi
    · cases i with
      | zero => simp at hb; subst hb; assumption
      | succ i => exact ih (i := i) (by omega) (by simpa using hb)
    · omega
theorem kAt_ge {z : Int} {L : List Bk} {b : Bk} (hb : L[kAt z L]? = some b) : ¬ b.lo < z := by
  induction L with
  | nil => simp at hb
  | cons c l ih =>
    simp only [kAt] at hb
    split at hb
    · exact ih (by simpa using hb)
    · simp at hb; subst hb; assumption
theorem putB_old {a : Ag} {x : Int × Int} {L : List Bk} {b : Bk} (hb : L[kAt x.1 L]? = some b) (h : b.lo = x.1) : putB a x L = L.set (kAt x.1 L) ⟨b.lo, b.hi, agM b.a a⟩ := by
  induction L with
  | nil => simp at hb
  | cons c l ih =>
    simp only [kAt, putB] at hb ⊢
    split at hb
    · rename_i hc
      rw [if_pos hc, if_pos hc, List.set_cons_succ, ih (by simpa using hb)]
    · rename_i hc
      simp at hb; subst hb
      rw [if_neg hc, if_pos h, if_neg hc]; rfl
theorem putB_new {a : Ag} {x : Int × Int} {L : List Bk} (h : ∀ b, L[kAt x.1 L]? = some b → b.lo ≠ x.1) : putB a x L = L.take (kAt x.1 L) ++ ⟨x.1, x.2, agM Ag.zero a⟩ :: L.drop (kAt x.1 L) := by
  induction L with
  | nil => simp [putB, kAt]
  | cons c l ih =>
    simp only [kAt, putB] at h ⊢
    split at h
    · rename_i hc
      rw [if_pos hc, if_pos hc, ih (fun b hb => h b (by simpa using hb))]
      simp
    · rename_i hc
      have := h c (by simp)
      rw [if_neg hc, if_neg this, if_neg hc]; simp
end Go.Proofs.Ythnpchfcafaiiaa
