/- As XOpl's opening of a slice of points, with the bounds of their numbers. -/
import Derived.Test.YtokllgdbmnmieaaGreatOpq
import Derived.Test.YtokllgdbmnmieaaGreatEnc
import Derived.DataShut
namespace Go.Proofs.YtokllgdbmnmieaaGreat
open Go.RowKit Go.Sort Go.Lib Go.ChangeShapes Go.WideShapes Go.Deep

section
variable {H : Type} {enc : TypeId × Value → H} {P : Program} {w : World} {base : Nat} {spare : Nat → Bool} {held : Bool}

theorem wf_i64 {z : Int} (h : (Lit.int .i64 z).wf = true) : -9223372036854775808 ≤ z ∧ z ≤ 9223372036854775807 := by
  have := (Lit.wf_int_iff .i64 z).1 h
  simp [IntKind.min, IntKind.max, IntKind.signed, IntKind.bits] at this
  omega

/-- A point of three ints, read. -/
theorem open_ptw {e it : TypeId} {f0 f1 f2 : Field} {fuel : Nat} {cs : List Value} {x : DataW H × List MemPlace} (he : P.underlying e = some (.struct #[f0, f1, f2])) (hone : oneCellFields P #[f0, f1, f2] = true) (hC : P.cellsOf e = 3)
    (h0 : f0.type = it) (h1 : f1.type = it) (h2 : f2.type = it) (hi : P.underlying it = some (.int .i64)) (h : DataW.trod enc P w base spare held fuel e cs = some x) : ∃ p : Pt, cs = p.cells ∧ p.fits := by
  obtain ⟨xs, n, _, _, hl, hxl, hf⟩ := DataW.trod_struct he h
  rw [hC] at hl
  match cs, hl with
  | [c0, c1, c2], _ =>
    have key : ∀ (i : Nat) (f : Field) (c : Value), (#[f0, f1, f2] : Array Field)[i]? = some f → f.type = it → ([c0, c1, c2].drop i).take 1 = [c] → ∃ z, c = .int .i64 z ∧ (-9223372036854775808 ≤ z ∧ z ≤ 9223372036854775807) := by
      intro i f c hfi hft hc
      obtain ⟨ho, hk⟩ := hone_of hone i f hfi
      have h1 := hf i f hfi
      rw [ho, hk, hc, hft] at h1
      have hlt : i < xs.length := by rw [hxl]; exact (Array.getElem?_eq_some_iff.1 hfi).1
      rw [List.getElem?_eq_getElem hlt] at h1
      obtain ⟨z, hz, _, hwf⟩ := DataW.trod_int hi h1
      exact ⟨z, by simpa using hz, wf_i64 hwf⟩
    obtain ⟨t, rfl, b0⟩ := key 0 f0 c0 rfl h0 rfl
    obtain ⟨v, rfl, b1⟩ := key 1 f1 c1 rfl h1 rfl
    obtain ⟨s, rfl, b2⟩ := key 2 f2 c2 rfl h2 rfl
    exact ⟨⟨t, v, s⟩, rfl, b0, b1, b2⟩


/-- A slice of points, read. -/
theorem open_ptsw {t e it : TypeId} {f0 f1 f2 : Field} {fuel : Nat} {cs : List Value} {x : DataW H × List MemPlace} (ht : P.underlying t = some (.slice e)) (he : P.underlying e = some (.struct #[f0, f1, f2])) (hone : oneCellFields P #[f0, f1, f2] = true) (hC : P.cellsOf e = 3)
    (h0 : f0.type = it) (h1 : f1.type = it) (h2 : f2.type = it) (hi : P.underlying it = some (.int .i64)) (h : DataW.trod enc P w base spare held fuel t cs = some x) :
    ∃ (o : Option Addr) (n c : Nat) (l : List Pt), cs = [.slice o n c] ∧ Src w 3 (.slice o n c) n (pts l) ∧ n ≤ c ∧ (∀ p ∈ l, p.fits) ∧ ∀ B : Nat, (∀ k ∈ x.1.weights P t, k ≤ B) → n * P.bytesOf e ≤ B := by
  rcases open_slice ht h with ⟨rfl, rfl⟩ | ⟨a, len, cap, m, n, D, Pl, rfl, hb, hl, hm, hmm, rfl, hel⟩
  · exact ⟨none, 0, 0, [], rfl, .inl ⟨rfl, rfl, rfl⟩, Nat.le_refl _, by simp, fun B _ => by simp⟩
  · rw [hC] at hel
    have hlm : len ≤ m := by rw [hmm]; split <;> omega
    have hpt : ∀ i, i < len → ∃ p : Pt, p.fits ∧ ∀ j u, p.cells[j]? = some u → w.cell? (a.add (i * 3 + j)) = some u := by
      intro i hil
      obtain ⟨cs', hc, htr⟩ := hel i (by omega)
      obtain ⟨p, rfl, hfit⟩ := open_ptw he hone hC h0 h1 h2 hi htr
      refine ⟨p, hfit, fun j u hj => ?_⟩
      obtain ⟨_, _, hat⟩ := World.cells?_some hc
      have hj3 : j < 3 := by have := (List.getElem?_eq_some_iff.1 hj).1; simpa [Pt.cells] using this
      have := hat j hj3
      rw [Go.Deep.add_add] at this
      rw [this]; exact hj
    obtain ⟨F, hF⟩ := choose_lt hpt
    refine ⟨some a, len, cap, (List.range len).map F, rfl, .inr ⟨a, cap, rfl, by rw [pts_len]; simp, fun j u hj => ?_, pts_one _⟩, hl, fun p hp => by obtain ⟨i, hi, rfl⟩ := List.mem_map.1 hp; exact (hF i (List.mem_range.1 hi)).1, fun B hB => ?_⟩
    · have hj' : j < len * 3 := by have := (List.getElem?_eq_some_iff.1 hj).1; rw [pts_len] at this; simpa using this
      have hj3 : j / 3 < len := by omega
      have hq : ((List.range len).map F)[j / 3]? = some (F (j / 3)) := by simp [List.getElem?_map, List.getElem?_range hj3]
      obtain ⟨e0, e1, e2⟩ := pts_at _ _ _ hq
      have hFF := (hF (j / 3) (by omega)).2
      have hcases : j = j / 3 * 3 ∨ j = j / 3 * 3 + 1 ∨ j = j / 3 * 3 + 2 := by omega
      rcases hcases with e | e | e
      · rw [e, e0] at hj; rw [e]; exact hFF 0 u (by simpa [Pt.cells] using hj)
      · rw [e, e1] at hj; rw [e]; exact hFF 1 u (by simpa [Pt.cells] using hj)
      · rw [e, e2] at hj; rw [e]; exact hFF 2 u (by simpa [Pt.cells] using hj)
    · have := hB ((((List.range len).map D).length + ((List.range (m - len)).map fun j => D (len + j)).length) * P.bytesOf e) (by simp [DataW.weights, ht])
      simp at this
      exact Nat.le_trans (Nat.mul_le_mul_right _ (by omega)) this

end
end Go.Proofs.YtokllgdbmnmieaaGreat
