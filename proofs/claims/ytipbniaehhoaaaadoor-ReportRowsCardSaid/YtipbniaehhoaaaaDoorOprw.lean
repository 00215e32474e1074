/- Opening a row of the report: a struct with a struct inside, with the bounds of its numbers. -/
import Derived.Test.YtipbniaehhoaaaaDoorProg
import Derived.Test.YtipbniaehhoaaaaDoorBase
import Derived.Deep.Slices
import Derived.Deep.Fields
import Derived.SizedLaws
import Derived.ProofKit
import Derived.OpenShut
import Derived.DataShut
namespace Go.Proofs.YtipbniaehhoaaaaDoor
open Go.RowKit Go.Sort Go.Lib Go.ChangeShapes Go.WideShapes Go.Deep

theorem wfi {z : Int} (h : (Lit.int .i64 z).wf = true) : -9223372036854775808 ≤ z ∧ z ≤ 9223372036854775807 := by
  have := (Lit.wf_int_iff .i64 z).1 h
  simp [IntKind.min, IntKind.max, IntKind.signed, IntKind.bits] at this
  omega
theorem wfu {z : Int} (h : (Lit.int .u64 z).wf = true) : 0 ≤ z ∧ z < 18446744073709551616 := by
  have := (Lit.wf_int_iff .u64 z).1 h
  simp [IntKind.min, IntKind.max, IntKind.signed, IntKind.bits] at this
  omega

section
variable {H : Type} {enc : TypeId × Value → H} {w : World} {base : Nat} {spare : Nat → Bool} {held : Bool}

set_option maxRecDepth 100000 in
theorem open_big {fuel : Nat} {cs : List Value} {x : DataW H × List MemPlace} (h : DataW.trod enc Tryd.prog w base spare held fuel 24 cs = some x) :
    ∃ hi lo : Int, cs = [.int .i64 hi, .int .u64 lo] ∧ (-9223372036854775808 ≤ hi ∧ hi ≤ 9223372036854775807) ∧ (0 ≤ lo ∧ lo < 18446744073709551616) := by
  obtain ⟨xs, n, _, _, hl, hxl, hf⟩ := DataW.trod_struct Tryd.underlying24 h
  rw [show Tryd.prog.cellsOf 24 = 2 by kernel_rfl] at hl
  match cs, hl with
  | [c0, c1], _ =>
    have h0 : DataW.trod enc Tryd.prog w base spare held n 3 (([c0, c1].drop 0).take (Tryd.prog.cellsOf 3)) = xs[0]? := hf 0 _ rfl
    have h1 : DataW.trod enc Tryd.prog w base spare held n 22 (([c0, c1].drop 1).take (Tryd.prog.cellsOf 22)) = xs[1]? := hf 1 _ rfl
    have hx0 : 0 < xs.length := by rw [hxl]; decide
    have hx1 : 1 < xs.length := by rw [hxl]; decide
    rw [List.getElem?_eq_getElem hx0, show Tryd.prog.cellsOf 3 = 1 by kernel_rfl] at h0
    rw [List.getElem?_eq_getElem hx1, show Tryd.prog.cellsOf 22 = 1 by kernel_rfl] at h1
    obtain ⟨z0, e0, _, b0⟩ := DataW.trod_int Tryd.underlying3 h0
    obtain ⟨z1, e1, _, b1⟩ := DataW.trod_int Tryd.underlying22 h1
    simp at e0 e1
    subst e0 e1
    exact ⟨z0, z1, rfl, wfi b0, wfu b1⟩

set_option maxRecDepth 100000 in
theorem open_rw {fuel : Nat} {cs : List Value} {x : DataW H × List MemPlace} (h : DataW.trod enc Tryd.prog w base spare held fuel 26 cs = some x) :
    ∃ (fr tt hi lo : Int) (nul : Bool), cs = [.int .i64 fr, .int .i64 tt, .bool nul, .int .i64 hi, .int .u64 lo] ∧ (-9223372036854775808 ≤ fr ∧ fr ≤ 9223372036854775807) ∧ (-9223372036854775808 ≤ tt ∧ tt ≤ 9223372036854775807) ∧ (-9223372036854775808 ≤ hi ∧ hi ≤ 9223372036854775807) ∧ (0 ≤ lo ∧ lo < 18446744073709551616) := by
  obtain ⟨xs, n, _, _, hl, hxl, hf⟩ := DataW.trod_struct Tryd.underlying26 h
  rw [show Tryd.prog.cellsOf 26 = 5 by kernel_rfl] at hl
  match cs, hl with
  | [c0, c1, c2, c3, c4], _ =>
    have h0 : DataW.trod enc Tryd.prog w base spare held n 3 (([c0, c1, c2, c3, c4].drop 0).take (Tryd.prog.cellsOf 3)) = xs[0]? := hf 0 _ rfl
    have h1 : DataW.trod enc Tryd.prog w base spare held n 3 (([c0, c1, c2, c3, c4].drop 1).take (Tryd.prog.cellsOf 3)) = xs[1]? := hf 1 _ rfl
    have h2 : DataW.trod enc Tryd.prog w base spare held n 4 (([c0, c1, c2, c3, c4].drop 2).take (Tryd.prog.cellsOf 4)) = xs[2]? := hf 2 _ rfl
    have h3 : DataW.trod enc Tryd.prog w base spare held n 24 (([c0, c1, c2, c3, c4].drop 3).take (Tryd.prog.cellsOf 24)) = xs[3]? := hf 3 _ rfl
    have hx0 : 0 < xs.length := by rw [hxl]; decide
    have hx1 : 1 < xs.length := by rw [hxl]; decide
    have hx2 : 2 < xs.length := by rw [hxl]; decide
    have hx3 : 3 < xs.length := by rw [hxl]; decide
    rw [List.getElem?_eq_getElem hx0, show Tryd.prog.cellsOf 3 = 1 by kernel_rfl] at h0
    rw [List.getElem?_eq_getElem hx1, show Tryd.prog.cellsOf 3 = 1 by kernel_rfl] at h1
    rw [List.getElem?_eq_getElem hx2, show Tryd.prog.cellsOf 4 = 1 by kernel_rfl] at h2
    rw [List.getElem?_eq_getElem hx3, show Tryd.prog.cellsOf 24 = 2 by kernel_rfl] at h3
    obtain ⟨z0, e0, _, b0⟩ := DataW.trod_int Tryd.underlying3 h0
    obtain ⟨z1, e1, _, b1⟩ := DataW.trod_int Tryd.underlying3 h1
    obtain ⟨z2, e2, _⟩ := DataW.trod_bool Tryd.underlying4 h2
    obtain ⟨hi, lo, e3, b3, b4⟩ := open_big h3
    simp at e0 e1 e2 e3
    obtain ⟨rfl, rfl⟩ := e3
    subst e0 e1 e2
    exact ⟨z0, z1, hi, lo, z2, rfl, wfi b0, wfi b1, b3, b4⟩

theorem open_rwv {r : Reach} {b0 : Nat} {v : Value} {d : DataW H} {ps : List MemPlace} (hv : Value.okWide Tryd.prog w r b0 26 v) (h : DataW.Trod enc Tryd.prog w base spare held 26 v d ps) :
    ∃ (fr tt hi lo : Int) (nul : Bool), v = .agg #[.int .i64 fr, .int .i64 tt, .bool nul, .int .i64 hi, .int .u64 lo] ∧ (-9223372036854775808 ≤ fr ∧ fr ≤ 9223372036854775807) ∧ (-9223372036854775808 ≤ tt ∧ tt ≤ 9223372036854775807) ∧ (-9223372036854775808 ≤ hi ∧ hi ≤ 9223372036854775807) ∧ (0 ≤ lo ∧ lo < 18446744073709551616) := by
  obtain ⟨cs, rfl, _⟩ := okWide_struct Tryd.underlying26 hv
  obtain ⟨fuel, hf⟩ := h
  obtain ⟨fr, tt, hi, lo, nul, e, b⟩ := open_rw hf
  simp only [Value.cells] at e
  obtain ⟨l⟩ := cs
  simp at e
  subst e
  exact ⟨fr, tt, hi, lo, nul, rfl, b⟩
end
end Go.Proofs.YtipbniaehhoaaaaDoor
