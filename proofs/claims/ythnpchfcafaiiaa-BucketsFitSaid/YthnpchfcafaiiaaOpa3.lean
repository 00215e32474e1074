/- Three ints in an array, opened. -/
import Derived.Test.YthnpchfcafaiiaaOpw
namespace Go.Proofs.Ythnpchfcafaiiaa
open Go.RowKit Go.Sort Go.Lib Go.ChangeShapes Go.WideShapes Go.Deep

section
variable {H : Type} {enc : TypeId × Value → H} {P : Program} {w : World} {base : Nat} {spare : Nat → Bool} {held : Bool}

/-- Three ints in an array, by value. -/
theorem open_arr3 {r : Reach} {b0 : Nat} {t it : TypeId} {v : Value} {d : DataW H} {ps : List MemPlace} (ht : P.underlying t = some (.array 3 it)) (hC : P.cellsOf t = 3) (hc : P.cellsOf it = 1)
    (hi : P.underlying it = some (.int .i64)) (hv : Value.okWide P w r b0 t v) (h : DataW.Trod enc P w base spare held t v d ps) : ∃ x y z : Int, v = .agg #[.int .i64 x, .int .i64 y, .int .i64 z] := by
  obtain ⟨cs, rfl, _⟩ : ∃ cs, v = .agg cs ∧ cs.size = P.cellsOf t := by
    simp only [Value.okWide, ht] at hv
    obtain ⟨cs, h1, h2, _⟩ := hv
    exact ⟨cs, h1, h2⟩
  obtain ⟨fuel, hf⟩ := h
  obtain ⟨xs, m, _, _, hl, hxl, hg⟩ := DataW.trod_array ht hf
  obtain ⟨l⟩ := cs
  rw [hC] at hl
  simp only [Value.cells] at hl hg
  match l, hl with
  | [c0, c1, c2], _ =>
    match xs, hxl with
    | [y0, y1, y2], _ =>
      have g0 := hg 0 (by omega)
      have g1 := hg 1 (by omega)
      have g2 := hg 2 (by omega)
      rw [hc] at g0 g1 g2
      simp at g0 g1 g2
      obtain ⟨a, ha, _⟩ := DataW.trod_int hi g0
      obtain ⟨b, hb, _⟩ := DataW.trod_int hi g1
      obtain ⟨c, hcc, _⟩ := DataW.trod_int hi g2
      simp at ha hb hcc
      subst ha hb hcc
      exact ⟨a, b, c, rfl⟩

end
end Go.Proofs.Ythnpchfcafaiiaa
