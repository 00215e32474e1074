/- Opening a query. -/
import Derived.Test.YtfndeocebpoeeaaDoorOpg
import Derived.Test.YtfndeocebpoeeaaDoorProg
namespace Go.Proofs.YtfndeocebpoeeaaDoor
open Go.RowKit Go.Sort Go.Lib Go.ChangeShapes Go.WideShapes Go.Deep

section
variable {H : Type} {enc : TypeId × Value → H} {w : World} {base : Nat} {spare : Nat → Bool} {held : Bool}
set_option maxRecDepth 100000 in
theorem twelveQ (l : List Value) (h : l.length = 12) : ∃ c0 c1 c2 c3 c4 c5 c6 c7 c8 c9 c10 c11, l = [c0, c1, c2, c3, c4, c5, c6, c7, c8, c9, c10, c11] := by
  match l, h with
  | [c0, c1, c2, c3, c4, c5, c6, c7, c8, c9, c10, c11], _ => exact ⟨c0, c1, c2, c3, c4, c5, c6, c7, c8, c9, c10, c11, rfl⟩
set_option maxRecDepth 100000 in
theorem open_qvQ {r : Reach} {b0 : Nat} {v : Value} {d : DataW H} {ps : List MemPlace} (hv : Value.okWide Tryd.prog w r b0 23 v) (h : DataW.Trod enc Tryd.prog w base spare held 23 v d ps) :
    ∃ (op fn : Int) (ser oth : ByteArray) (fr to wd st off gap tol fill : Int), v = .agg #[.int .i64 op, .int .i64 fn, .string ser, .string oth, .int .i64 fr, .int .i64 to, .int .i64 wd, .int .i64 st, .int .i64 off, .int .i64 gap, .int .i64 tol, .int .i64 fill] ∧ ser.size ≤ maxLen ∧ oth.size ≤ maxLen := by
  obtain ⟨cs, rfl, _⟩ := okWide_struct Tryd.underlying23 hv
  obtain ⟨fuel, hf0⟩ := h
  obtain ⟨hl, hf⟩ := open_flds Tryd.underlying23 (by kernel_rfl) hf0
  rw [show Tryd.prog.cellsOf 23 = 12 by kernel_rfl] at hl
  simp only [Value.cells] at hl hf
  obtain ⟨c0, c1, c2, c3, c4, c5, c6, c7, c8, c9, c10, c11, hcs⟩ := twelveQ _ hl
  rw [hcs] at hf
  obtain ⟨z0, h0⟩ := (hf 0 _ rfl (by simp)).1 Tryd.underlying3
  obtain ⟨z1, h1⟩ := (hf 1 _ rfl (by simp)).1 Tryd.underlying3
  obtain ⟨z2, h2, m2⟩ := (hf 2 _ rfl (by simp)).2.1 Tryd.underlying9
  obtain ⟨z3, h3, m3⟩ := (hf 3 _ rfl (by simp)).2.1 Tryd.underlying9
  obtain ⟨z4, h4⟩ := (hf 4 _ rfl (by simp)).1 Tryd.underlying3
  obtain ⟨z5, h5⟩ := (hf 5 _ rfl (by simp)).1 Tryd.underlying3
  obtain ⟨z6, h6⟩ := (hf 6 _ rfl (by simp)).1 Tryd.underlying3
  obtain ⟨z7, h7⟩ := (hf 7 _ rfl (by simp)).1 Tryd.underlying3
  obtain ⟨z8, h8⟩ := (hf 8 _ rfl (by simp)).1 Tryd.underlying3
  obtain ⟨z9, h9⟩ := (hf 9 _ rfl (by simp)).1 Tryd.underlying3
  obtain ⟨z10, h10⟩ := (hf 10 _ rfl (by simp)).1 Tryd.underlying3
  obtain ⟨z11, h11⟩ := (hf 11 _ rfl (by simp)).1 Tryd.underlying3
  simp at h0 h1 h2 h3 h4 h5 h6 h7 h8 h9 h10 h11
  subst h0 h1 h2 h3 h4 h5 h6 h7 h8 h9 h10 h11
  refine ⟨z0, z1, z2, z3, z4, z5, z6, z7, z8, z9, z10, z11, ?_, m2, m3⟩
  congr 1
  exact Array.toList_inj.1 hcs
end
end Go.Proofs.YtfndeocebpoeeaaDoor
