/- The document's table (tidemillref16): Fits. -/
import Derived.Test.YtabnngcaohgppaaRtn
import Derived.Test.YtabnngcaohgppaaTabF
namespace Go.Proofs.Ytabnngcaohgppaa
open Go.RowKit Go.Sort Go.Lib

theorem mem_freshPl (T : List (ByteArray × Sl)) (l : List Sm) (s : ByteArray) (t : Int) : (s, t) ∈ freshPl T l ↔ (∃ q ∈ l, q.s = s ∧ q.t = t) ∧ hasL (tabPts T s) t = false := by
  have key : ∀ (l : List Sm) (ks : List (ByteArray × Int)), (s, t) ∈ l.foldl (freshStep T) ks ↔ (s, t) ∈ ks ∨ ((∃ q ∈ l, q.s = s ∧ q.t = t) ∧ hasL (tabPts T s) t = false) := by
    intro l
    induction l with
    | nil => intro ks; simp
    | cons q l ih =>
      intro ks
      rw [List.foldl_cons, ih]
      have h1 : (s, t) ∈ freshStep T ks q ↔ (s, t) ∈ ks ∨ (q.s = s ∧ q.t = t ∧ hasL (tabPts T s) t = false) := by
        unfold freshStep
        cases hh : hasL (tabPts T q.s) q.t
        · simp only [Bool.false_eq_true, if_false]
          split
          · rename_i hm
            constructor
            · exact .inl
            · rintro (h | ⟨rfl, rfl, _⟩)
              · exact h
              · exact hm
          · rw [List.mem_append]
            constructor
            · rintro (h | h)
              · exact .inl h
              · simp at h; obtain ⟨rfl, rfl⟩ := h; exact .inr ⟨rfl, rfl, hh⟩
            · rintro (h | ⟨rfl, rfl, _⟩)
              · exact .inl h
              · exact .inr (by simp)
        · simp only [if_true]
          constructor
          · exact .inl
          · rintro (h | ⟨rfl, rfl, h⟩)
            · exact h
            · rw [hh] at h; cases h
      rw [h1]
      constructor
      · rintro ((h | ⟨h2, h3, h4⟩) | ⟨⟨q', h2, h3⟩, h4⟩)
        · exact .inl h
        · exact .inr ⟨⟨q, List.mem_cons_self, h2, h3⟩, h4⟩
        · exact .inr ⟨⟨q', List.mem_cons_of_mem _ h2, h3⟩, h4⟩
      · rintro (h | ⟨⟨q', h2, h3⟩, h4⟩)
        · exact .inl (.inl h)
        · rcases List.mem_cons.1 h2 with rfl | h2
          · exact .inl (.inr ⟨h3.1, h3.2, h4⟩)
          · exact .inr ⟨⟨q', h2, h3⟩, h4⟩
  have h := key l []
  simp only [List.not_mem_nil, false_or] at h
  exact h
theorem freshPl_same {T L : List (ByteArray × Sl)} (h : ∀ s, tabPts T s = tabPts L s) (l : List Sm) : freshPl T l = freshPl L l := by
  have : freshStep T = freshStep L := by funext ks q; unfold freshStep; rw [h]
  unfold freshPl; rw [this]

/-- Is the place of sample j not one of the k before? -/
def firstOf (l : List Sm) (q : Sm) (k : Nat) : Bool := (l.take k).all fun x => !(decide (x.s = q.s) && decide (x.t = q.t))
theorem firstOf_step {l : List Sm} {q x : Sm} {k : Nat} (h : l[k]? = some x) : firstOf l q (k + 1) = (firstOf l q k && !(decide (x.s = q.s) && decide (x.t = q.t))) := by
  unfold firstOf
  rw [List.take_add_one, h]
  simp
theorem fresh_of_first {T : List (ByteArray × Sl)} {l : List Sm} {q : Sm} {j : Nat} (hq : l[j]? = some q) : (freshPl T (l.take (j + 1))).length = if firstOf l q j = true ∧ hasL (tabPts T q.s) q.t = false then (freshPl T (l.take j)).length + 1 else (freshPl T (l.take j)).length := by
  have e : l.take (j + 1) = l.take j ++ [q] := take_snoc' hq
  rw [e, freshPl_snoc]
  unfold freshStep
  cases hh : hasL (tabPts T q.s) q.t
  · have hm := mem_freshPl T (l.take j) q.s q.t
    by_cases hf : firstOf l q j = true
    · have : (q.s, q.t) ∉ freshPl T (l.take j) := fun h => by
        obtain ⟨⟨x, hx, h1, h2⟩, _⟩ := hm.1 h
        have := List.all_eq_true.1 hf x hx
        simp [h1, h2] at this
      simp [this, hf]
    · have : (q.s, q.t) ∈ freshPl T (l.take j) := hm.2 ⟨by
        have hf' : ((l.take j).all fun x => !(decide (x.s = q.s) && decide (x.t = q.t))) = false := by simpa [firstOf] using hf
        rw [List.all_eq_false] at hf'
        obtain ⟨x, hx, h⟩ := hf'
        exact ⟨x, hx, by simpa using h⟩, hh⟩
      simp [this, hf]
  · simp
end Go.Proofs.Ytabnngcaohgppaa
