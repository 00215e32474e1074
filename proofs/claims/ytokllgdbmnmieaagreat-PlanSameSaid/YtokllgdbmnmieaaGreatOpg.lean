/- Opening structs of one-cell fields, and slices of these, in general; with the reach. -/
import Derived.Test.YtokllgdbmnmieaaGreatU8
import Derived.Deep.Slices
import Derived.Deep.Fields
import Derived.SizedLaws
import Derived.ProofKit
import Derived.OpenShut
namespace Go.Proofs.YtokllgdbmnmieaaGreat
open Go.RowKit Go.Sort Go.Lib Go.ChangeShapes Go.WideShapes Go.Deep

section
variable {H : Type} {enc : TypeId × Value → H} {P : Program} {w : World} {base : Nat} {spare : Nat → Bool} {held : Bool}

/-- A struct of one-cell fields, read: each cell is of its field's kind. -/
theorem open_flds {e : TypeId} {fs : Array Field} {fuel : Nat} {cs : List Value} {x : DataW H × List MemPlace} (he : P.underlying e = some (.struct fs)) (hone : oneCellFields P fs = true) (h : DataW.trod enc P w base spare held fuel e cs = some x) :
    cs.length = P.cellsOf e ∧ ∀ (i : Nat) (f : Field), fs[i]? = some f → i < cs.length →
      (P.underlying f.type = some (.int .i64) → ∃ z, cs[i]? = some (.int .i64 z)) ∧ (P.underlying f.type = some .string → ∃ z, cs[i]? = some (.string z) ∧ z.size ≤ maxLen) ∧ (P.underlying f.type = some .bool → ∃ z, cs[i]? = some (.bool z)) := by
  obtain ⟨xs, n, _, _, hl, hxl, hf⟩ := DataW.trod_struct he h
  refine ⟨hl, fun i f hfi hic => ?_⟩
  obtain ⟨ho, hk⟩ := hone_of hone i f hfi
  have h1 := hf i f hfi
  have hlt : i < xs.length := by rw [hxl]; exact (Array.getElem?_eq_some_iff.1 hfi).1
  have hc : (cs.drop i).take 1 = [cs[i]] := by rw [List.drop_eq_getElem_cons hic]; rfl
  rw [ho, hk, hc, List.getElem?_eq_getElem hlt] at h1
  refine ⟨fun hi => ?_, fun hi => ?_, fun hi => ?_⟩
  · obtain ⟨z, hz, _⟩ := DataW.trod_int hi h1
    exact ⟨z, by rw [List.getElem?_eq_getElem hic]; simpa using hz⟩
  · obtain ⟨z, hz, _, hm⟩ := DataW.trod_string hi h1
    exact ⟨z, by rw [List.getElem?_eq_getElem hic]; simpa using hz, hm⟩
  · obtain ⟨z, hz, _⟩ := DataW.trod_bool hi h1
    exact ⟨z, by rw [List.getElem?_eq_getElem hic]; simpa using hz⟩

theorem flat_len {α : Type} (cells : α → List Value) (size : Nat) (hsz : ∀ p, (cells p).length = size) (l : List α) : (l.flatMap cells).length = l.length * size := by
  induction l with
  | nil => simp
  | cons p l ih => rw [List.flatMap_cons, List.length_append, ih, hsz, List.length_cons, Nat.add_mul]; omega
theorem flat_atg {α : Type} (cells : α → List Value) (size : Nat) (hsz : ∀ p, (cells p).length = size) (l : List α) (k j : Nat) (p : α) (h : l[k]? = some p) (hj : j < size) : (l.flatMap cells)[k * size + j]? = (cells p)[j]? := by
  induction l generalizing k with
  | nil => simp at h
  | cons q l ih =>
    cases k with
    | zero =>
      simp at h; subst h
      rw [List.flatMap_cons, Nat.zero_mul, Nat.zero_add, List.getElem?_append_left (by rw [hsz]; exact hj)]
    | succ k =>
      rw [List.flatMap_cons, List.getElem?_append_right (by rw [hsz, Nat.add_mul]; omega), hsz, show (k + 1) * size + j - size = k * size + j by rw [Nat.add_mul]; omega]
      exact ih k (by simpa using h)

/-- A slice of elements whose cells are read as values of a plain type. -/
theorem open_els {α : Type} [Inhabited α] (cells : α → List Value) (Ok : α → Prop) (size : Nat) (hs0 : 0 < size) (hsz : ∀ p, (cells p).length = size) (hone : ∀ p, ∀ u ∈ cells p, u.oneCell' = true) {t e : TypeId} {fuel : Nat} {cs : List Value} {x : DataW H × List MemPlace}
    (ht : P.underlying t = some (.slice e)) (hC : P.cellsOf e = size) (hop : ∀ (fuel : Nat) (cs : List Value) (x : DataW H × List MemPlace), DataW.trod enc P w base spare held fuel e cs = some x → ∃ p, cs = cells p ∧ Ok p) (h : DataW.trod enc P w base spare held fuel t cs = some x) :
    ∃ (o : Option Addr) (n c : Nat) (l : List α), cs = [.slice o n c] ∧ Src w size (.slice o n c) n (l.flatMap cells) ∧ (∀ p ∈ l, Ok p) ∧ n ≤ c ∧ ∀ B : Nat, (∀ k ∈ x.1.weights P t, k ≤ B) → n * P.bytesOf e ≤ B := by
  rcases open_slice ht h with ⟨rfl, rfl⟩ | ⟨a, len, cap, m, n, D, Pl, rfl, hb, hl, hm, hmm, rfl, hel⟩
  · exact ⟨none, 0, 0, [], rfl, .inl ⟨rfl, rfl, rfl⟩, by simp, Nat.le_refl _, fun B _ => by simp⟩
  · rw [hC] at hel
    have hlm : len ≤ m := by rw [hmm]; split <;> omega
    have hpt : ∀ i, i < len → ∃ p : α, Ok p ∧ ∀ j u, (cells p)[j]? = some u → w.cell? (a.add (i * size + j)) = some u := by
      intro i hil
      obtain ⟨cs', hc, htr⟩ := hel i (by omega)
      obtain ⟨p, rfl, hok⟩ := hop _ _ _ htr
      refine ⟨p, hok, fun j u hj => ?_⟩
      obtain ⟨_, _, hat⟩ := World.cells?_some hc
      have hj3 : j < size := by have := (List.getElem?_eq_some_iff.1 hj).1; rw [hsz] at this; exact this
      have := hat j hj3
      rw [Go.Deep.add_add] at this
      rw [this]; exact hj
    obtain ⟨F, hF⟩ := choose_lt hpt
    refine ⟨some a, len, cap, (List.range len).map F, rfl, .inr ⟨a, cap, rfl, by rw [flat_len cells size hsz]; simp, fun j u hj => ?_, fun u hu => ?_⟩, fun p hp => ?_, hl, fun B hB => ?_⟩
    · have hj' : j < len * size := by have := (List.getElem?_eq_some_iff.1 hj).1; rw [flat_len cells size hsz] at this; simpa using this
      have hj3 : j / size < len := Nat.div_lt_of_lt_mul (by rw [Nat.mul_comm]; exact hj')
      have hq : ((List.range len).map F)[j / size]? = some (F (j / size)) := by simp [List.getElem?_map, List.getElem?_range hj3]
      have hmod := Nat.mod_lt j hs0
      have hsplit : j = j / size * size + j % size := by rw [Nat.mul_comm]; exact (Nat.div_add_mod j size).symm
      have e0 := flat_atg cells size hsz _ _ (j % size) _ hq hmod
      rw [← hsplit, hj] at e0
      have := (hF (j / size) hj3).2 (j % size) u e0.symm
      rw [← hsplit] at this
      exact this
    · obtain ⟨p, _, hu⟩ := List.mem_flatMap.1 hu
      exact hone p u hu
    · obtain ⟨i, hi, rfl⟩ := List.mem_map.1 hp
      exact (hF i (List.mem_range.1 hi)).1
    · have := hB ((((List.range len).map D).length + ((List.range (m - len)).map fun j => D (len + j)).length) * P.bytesOf e) (by simp [DataW.weights, ht])
      simp at this
      exact Nat.le_trans (Nat.mul_le_mul_right _ (by omega)) this
end
end Go.Proofs.YtokllgdbmnmieaaGreat
