/- From what a reading gives of slices of points, and of slices of these, to 'Src'; with the reach. -/
import Derived.Test.YthnpchfcafaiiaaEpt
import Derived.Deep.Slices
import Derived.Deep.Fields
import Derived.SizedLaws
import Derived.ProofKit
import Derived.OpenShut
namespace Go.Proofs.Ythnpchfcafaiiaa
open Go.RowKit Go.Sort Go.Lib Go.ChangeShapes Go.WideShapes Go.Deep

section
variable {H : Type} {enc : TypeId × Value → H} {P : Program} {w : World} {base : Nat} {spare : Nat → Bool} {held : Bool}

/-- A point of three ints, read. -/
theorem open_pt {e it : TypeId} {f0 f1 f2 : Field} {fuel : Nat} {cs : List Value} {x : DataW H × List MemPlace} (he : P.underlying e = some (.struct #[f0, f1, f2])) (hone : oneCellFields P #[f0, f1, f2] = true) (hC : P.cellsOf e = 3)
    (h0 : f0.type = it) (h1 : f1.type = it) (h2 : f2.type = it) (hi : P.underlying it = some (.int .i64)) (h : DataW.trod enc P w base spare held fuel e cs = some x) : ∃ p : Pt, cs = p.cells := by
  obtain ⟨xs, n, _, _, hl, hxl, hf⟩ := DataW.trod_struct he h
  rw [hC] at hl
  match cs, hl with
  | [c0, c1, c2], _ =>
    have key : ∀ (i : Nat) (f : Field) (c : Value), (#[f0, f1, f2] : Array Field)[i]? = some f → f.type = it → ([c0, c1, c2].drop i).take 1 = [c] → ∃ z, c = .int .i64 z := by
      intro i f c hfi hft hc
      obtain ⟨ho, hk⟩ := hone_of hone i f hfi
      have h1 := hf i f hfi
      rw [ho, hk, hc, hft] at h1
      have hlt : i < xs.length := by rw [hxl]; exact (Array.getElem?_eq_some_iff.1 hfi).1
      rw [List.getElem?_eq_getElem hlt] at h1
      obtain ⟨z, hz, _⟩ := DataW.trod_int hi h1
      exact ⟨z, by simpa using hz⟩
    obtain ⟨t, rfl⟩ := key 0 f0 c0 rfl h0 rfl
    obtain ⟨v, rfl⟩ := key 1 f1 c1 rfl h1 rfl
    obtain ⟨s, rfl⟩ := key 2 f2 c2 rfl h2 rfl
    exact ⟨⟨t, v, s⟩, rfl⟩

theorem add_block (a : Addr) (i : Nat) : (a.add i).block = a.block := by unfold Addr.add; split <;> rfl

/-- A slice of points, read. -/
theorem open_pts {t e it : TypeId} {f0 f1 f2 : Field} {fuel : Nat} {cs : List Value} {x : DataW H × List MemPlace} (ht : P.underlying t = some (.slice e)) (he : P.underlying e = some (.struct #[f0, f1, f2])) (hone : oneCellFields P #[f0, f1, f2] = true) (hC : P.cellsOf e = 3)
    (h0 : f0.type = it) (h1 : f1.type = it) (h2 : f2.type = it) (hi : P.underlying it = some (.int .i64)) (h : DataW.trod enc P w base spare held fuel t cs = some x) :
    ∃ (o : Option Addr) (n c : Nat) (l : List Pt), cs = [.slice o n c] ∧ Src w 3 (.slice o n c) n (pts l) ∧ n ≤ c ∧ ∀ B : Nat, (∀ k ∈ x.1.weights P t, k ≤ B) → n * P.bytesOf e ≤ B := by
  rcases open_slice ht h with ⟨rfl, rfl⟩ | ⟨a, len, cap, m, n, D, Pl, rfl, hb, hl, hm, hmm, rfl, hel⟩
  · exact ⟨none, 0, 0, [], rfl, .inl ⟨rfl, rfl, rfl⟩, Nat.le_refl _, fun B _ => by simp⟩
  · rw [hC] at hel
    have hlm : len ≤ m := by rw [hmm]; split <;> omega
    have hpt : ∀ i, i < len → ∃ p : Pt, ∀ j u, p.cells[j]? = some u → w.cell? (a.add (i * 3 + j)) = some u := by
      intro i hil
      obtain ⟨cs', hc, htr⟩ := hel i (by omega)
      obtain ⟨p, rfl⟩ := open_pt he hone hC h0 h1 h2 hi htr
      refine ⟨p, fun j u hj => ?_⟩
      obtain ⟨_, _, hat⟩ := World.cells?_some hc
      have hj3 : j < 3 := by have := (List.getElem?_eq_some_iff.1 hj).1; simpa [Pt.cells] using this
      have := hat j hj3
      rw [Go.Deep.add_add] at this
      rw [this]; exact hj
    obtain ⟨F, hF⟩ := choose_lt hpt
    refine ⟨some a, len, cap, (List.range len).map F, rfl, .inr ⟨a, cap, rfl, by rw [pts_len]; simp, fun j u hj => ?_, pts_one _⟩, hl, fun B hB => ?_⟩
    · have hj' : j < len * 3 := by have := (List.getElem?_eq_some_iff.1 hj).1; rw [pts_len] at this; simpa using this
      have hj3 : j / 3 < len := by omega
      have hq : ((List.range len).map F)[j / 3]? = some (F (j / 3)) := by simp [List.getElem?_map, List.getElem?_range hj3]
      obtain ⟨e0, e1, e2⟩ := pts_at _ _ _ hq
      have hFF := hF (j / 3) (by omega)
      have hcases : j = j / 3 * 3 ∨ j = j / 3 * 3 + 1 ∨ j = j / 3 * 3 + 2 := by omega
      rcases hcases with e | e | e
      · rw [e, e0] at hj; rw [e]; exact hFF 0 u (by simpa [Pt.cells] using hj)
      · rw [e, e1] at hj; rw [e]; exact hFF 1 u (by simpa [Pt.cells] using hj)
      · rw [e, e2] at hj; rw [e]; exact hFF 2 u (by simpa [Pt.cells] using hj)
    · have := hB ((((List.range len).map D).length + ((List.range (m - len)).map fun j => D (len + j)).length) * P.bytesOf e) (by simp [DataW.weights, ht])
      simp at this
      exact Nat.le_trans (Nat.mul_le_mul_right _ (by omega)) this

/-- A point by value. -/
theorem open_ptv {r : Reach} {b0 : Nat} {e it : TypeId} {f0 f1 f2 : Field} {v : Value} {d : DataW H} {ps : List MemPlace} (he : P.underlying e = some (.struct #[f0, f1, f2])) (hone : oneCellFields P #[f0, f1, f2] = true) (hC : P.cellsOf e = 3)
    (h0 : f0.type = it) (h1 : f1.type = it) (h2 : f2.type = it) (hi : P.underlying it = some (.int .i64)) (hv : Value.okWide P w r b0 e v) (h : DataW.Trod enc P w base spare held e v d ps) : ∃ p : Pt, v = p.val := by
  obtain ⟨cs, rfl, _⟩ := okWide_struct he hv
  obtain ⟨fuel, hf⟩ := h
  obtain ⟨p, hp⟩ := open_pt he hone hC h0 h1 h2 hi hf
  refine ⟨p, ?_⟩
  simp only [Value.cells] at hp
  obtain ⟨l⟩ := cs
  simp at hp
  rw [hp]; rfl

/-- Two ints in an array, by value. -/
theorem open_span {r : Reach} {b0 : Nat} {t it : TypeId} {v : Value} {d : DataW H} {ps : List MemPlace} (ht : P.underlying t = some (.array 2 it)) (hC : P.cellsOf t = 2) (hc : P.cellsOf it = 1)
    (hi : P.underlying it = some (.int .i64)) (hv : Value.okWide P w r b0 t v) (h : DataW.Trod enc P w base spare held t v d ps) : ∃ x y : Int, v = .agg #[.int .i64 x, .int .i64 y] := by
  obtain ⟨cs, rfl, _⟩ : ∃ cs, v = .agg cs ∧ cs.size = P.cellsOf t := by
    simp only [Value.okWide, ht] at hv
    obtain ⟨cs, h1, h2, _⟩ := hv
    exact ⟨cs, h1, h2⟩
  obtain ⟨fuel, hf⟩ := h
  obtain ⟨xs, m, _, _, hl, hxl, hg⟩ := DataW.trod_array ht hf
  obtain ⟨l⟩ := cs
  rw [hC] at hl
  simp only [Value.cells] at hl hg
  match l, hl with
  | [c0, c1], _ =>
    match xs, hxl with
    | [y0, y1], _ =>
      have g0 := hg 0 (by omega)
      have g1 := hg 1 (by omega)
      rw [hc] at g0 g1
      simp at g0 g1
      obtain ⟨a, ha, _⟩ := DataW.trod_int hi g0
      obtain ⟨b, hb, _⟩ := DataW.trod_int hi g1
      simp at ha hb
      subst ha hb
      exact ⟨a, b, rfl⟩

theorem mem_weightsAll {e : TypeId} {ds : List (DataW H)} {d : DataW H} (h : d ∈ ds) : ∀ k ∈ d.weights P e, k ∈ DataW.weightsAll P e ds := by
  induction ds with
  | nil => cases h
  | cons x ds ih =>
    intro k hk
    simp only [DataW.weightsAll, List.mem_append]
    rcases List.mem_cons.1 h with rfl | h
    · exact .inl hk
    · exact .inr (ih h k hk)

end
end Go.Proofs.Ythnpchfcafaiiaa
