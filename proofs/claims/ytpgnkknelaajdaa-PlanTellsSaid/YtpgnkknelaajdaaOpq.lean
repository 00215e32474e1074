/- Opening a query, and slices of tiers. -/
import Derived.Test.YtpgnkknelaajdaaOpg
import Derived.Test.YtpgnkknelaajdaaTie
namespace Go.Proofs.Ytpgnkknelaajdaa
open Go.RowKit Go.Sort Go.Lib Go.ChangeShapes Go.WideShapes Go.Deep

section
variable {H : Type} {enc : TypeId × Value → H} {w : World} {base : Nat} {spare : Nat → Bool} {held : Bool}
instance : Inhabited Ti := ⟨⟨0, 0, 0, false, ⟨#[]⟩⟩⟩

theorem twelve (l : List Value) (h : l.length = 12) : ∃ c0 c1 c2 c3 c4 c5 c6 c7 c8 c9 c10 c11, l = [c0, c1, c2, c3, c4, c5, c6, c7, c8, c9, c10, c11] := by
  match l, h with
  | [c0, c1, c2, c3, c4, c5, c6, c7, c8, c9, c10, c11], _ => exact ⟨c0, c1, c2, c3, c4, c5, c6, c7, c8, c9, c10, c11, rfl⟩
theorem five (l : List Value) (h : l.length = 5) : ∃ c0 c1 c2 c3 c4, l = [c0, c1, c2, c3, c4] := by
  match l, h with
  | [c0, c1, c2, c3, c4], _ => exact ⟨c0, c1, c2, c3, c4, rfl⟩

theorem open_ti {fuel : Nat} {cs : List Value} {x : DataW H × List MemPlace} (h : DataW.trod enc Try.prog w base spare held fuel 44 cs = some x) : ∃ p : Ti, cs = p.cells ∧ p.f.size ≤ maxLen := by
  obtain ⟨hl, hf⟩ := open_flds Try.underlying44 (by kernel_rfl) h
  rw [show Try.prog.cellsOf 44 = 5 by kernel_rfl] at hl
  obtain ⟨c0, c1, c2, c3, c4, rfl⟩ := five cs hl
  obtain ⟨z0, h0⟩ := (hf 0 _ rfl (by simp)).1 Try.underlying3
  obtain ⟨z1, h1⟩ := (hf 1 _ rfl (by simp)).1 Try.underlying3
  obtain ⟨z2, h2⟩ := (hf 2 _ rfl (by simp)).1 Try.underlying3
  obtain ⟨z3, h3⟩ := (hf 3 _ rfl (by simp)).2.2 Try.underlying4
  obtain ⟨z4, h4, hm⟩ := (hf 4 _ rfl (by simp)).2.1 Try.underlying9
  simp at h0 h1 h2 h3 h4
  subst h0 h1 h2 h3 h4
  exact ⟨⟨z0, z1, z2, z3, z4⟩, rfl, hm⟩

theorem open_tiers {fuel : Nat} {cs : List Value} {x : DataW H × List MemPlace} (h : DataW.trod enc Try.prog w base spare held fuel 24 cs = some x) :
    ∃ (o : Option Addr) (n c : Nat) (l : List Ti), cs = [.slice o n c] ∧ Src w 5 (.slice o n c) n (tis l) ∧ (∀ p ∈ l, p.f.size ≤ maxLen) ∧ n ≤ c ∧ ∀ B : Nat, (∀ k ∈ x.1.weights Try.prog 24, k ≤ B) → n * Try.prog.bytesOf 44 ≤ B :=
  open_els Ti.cells (fun p => p.f.size ≤ maxLen) 5 (by omega) (fun _ => rfl) (fun p u hu => by simp [Ti.cells] at hu; rcases hu with rfl | rfl | rfl | rfl | rfl <;> rfl) Try.underlying24 (by kernel_rfl) (fun _ _ _ h => open_ti h) h

theorem open_qv {r : Reach} {b0 : Nat} {v : Value} {d : DataW H} {ps : List MemPlace} (hv : Value.okWide Try.prog w r b0 23 v) (h : DataW.Trod enc Try.prog w base spare held 23 v d ps) :
    ∃ (op fn : Int) (ser oth : ByteArray) (fr to wd st off gap tol fill : Int), v = .agg #[.int .i64 op, .int .i64 fn, .string ser, .string oth, .int .i64 fr, .int .i64 to, .int .i64 wd, .int .i64 st, .int .i64 off, .int .i64 gap, .int .i64 tol, .int .i64 fill] ∧ ser.size ≤ maxLen ∧ oth.size ≤ maxLen := by
  obtain ⟨cs, rfl, _⟩ := okWide_struct Try.underlying23 hv
  obtain ⟨fuel, hf0⟩ := h
  obtain ⟨hl, hf⟩ := open_flds Try.underlying23 (by kernel_rfl) hf0
  rw [show Try.prog.cellsOf 23 = 12 by kernel_rfl] at hl
  simp only [Value.cells] at hl hf
  obtain ⟨c0, c1, c2, c3, c4, c5, c6, c7, c8, c9, c10, c11, hcs⟩ := twelve _ hl
  rw [hcs] at hf
  obtain ⟨z0, h0⟩ := (hf 0 _ rfl (by simp)).1 Try.underlying3
  obtain ⟨z1, h1⟩ := (hf 1 _ rfl (by simp)).1 Try.underlying3
  obtain ⟨z2, h2, m2⟩ := (hf 2 _ rfl (by simp)).2.1 Try.underlying9
  obtain ⟨z3, h3, m3⟩ := (hf 3 _ rfl (by simp)).2.1 Try.underlying9
  obtain ⟨z4, h4⟩ := (hf 4 _ rfl (by simp)).1 Try.underlying3
  obtain ⟨z5, h5⟩ := (hf 5 _ rfl (by simp)).1 Try.underlying3
  obtain ⟨z6, h6⟩ := (hf 6 _ rfl (by simp)).1 Try.underlying3
  obtain ⟨z7, h7⟩ := (hf 7 _ rfl (by simp)).1 Try.underlying3
  obtain ⟨z8, h8⟩ := (hf 8 _ rfl (by simp)).1 Try.underlying3
  obtain ⟨z9, h9⟩ := (hf 9 _ rfl (by simp)).1 Try.underlying3
  obtain ⟨z10, h10⟩ := (hf 10 _ rfl (by simp)).1 Try.underlying3
  obtain ⟨z11, h11⟩ := (hf 11 _ rfl (by simp)).1 Try.underlying3
  simp at h0 h1 h2 h3 h4 h5 h6 h7 h8 h9 h10 h11
  subst h0 h1 h2 h3 h4 h5 h6 h7 h8 h9 h10 h11
  refine ⟨z0, z1, z2, z3, z4, z5, z6, z7, z8, z9, z10, z11, ?_, m2, m3⟩
  congr 1
  exact Array.toList_inj.1 hcs
end
end Go.Proofs.Ytpgnkknelaajdaa
