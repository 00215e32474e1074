/- varint: Read, ReadText. -/
import Derived.Test.YtfablbhkmddnbaaDoorVas
import Derived.Test.YtfablbhkmddnbaaDoorBls
import Derived.Laws.BytesArg
import Derived.Laws.IdiomStrings
namespace Go.Proofs.YtfablbhkmddnbaaDoor
open Go.RowKit Go.Sort Go.Lib

theorem varR_err (l : List UInt8) : (varR l).2.2 = 0 ∨ (varR l).2.2 = 10 ∨ (varR l).2.2 = 11 := by
  unfold varR
  split
  · exact .inr (.inr rfl)
  · split
    · exact .inr (.inl rfl)
    · split
      · exact .inr (.inr rfl)
      · exact .inl rfl
theorem conts_lt_of_some {l : List UInt8} {c : UInt8} (h : l[conts l]? = some c) : conts l < l.length := (List.getElem?_eq_some_iff.1 h).1
theorem valL_le (l : List UInt8) (k : Nat) (hk : k ≤ 8) : valL (l.take (k + 1)) < 2 ^ 63 := by
  have h1 := valL_lt (l.take (k + 1))
  have h2 : (l.take (k + 1)).length ≤ 9 := by rw [List.length_take]; omega
  have h3 : 128 ^ (l.take (k + 1)).length ≤ 128 ^ 9 := Nat.pow_le_pow_right (by omega) h2
  have : (128 : Nat) ^ 9 = 2 ^ 63 := by decide
  omega
theorem varR_bounds (l : List UInt8) : (varR l).1 < 2 ^ 64 ∧ (varR l).2.1 ≤ l.length ∧ (varR l).2.1 ≤ 10 ∧ ((varR l).2.2 = 0 → 0 < (varR l).2.1) := by
  unfold varR
  split
  · simp
  · rename_i h10
    split
    · simp
    · rename_i c hc
      have hlt := conts_lt_of_some hc
      split
      · simp
      · rename_i hb
        refine ⟨?_, by simp only; omega, by simp only; omega, by simp⟩
        simp only
        by_cases h8 : conts l ≤ 8
        · have := valL_le l (conts l) h8; omega
        · have h9 : conts l = 9 := by omega
          have hc1 : c.toNat ≤ 1 := by
            rcases Nat.lt_or_ge 1 c.toNat with h | h
            · exact absurd (.inl ⟨h9, h⟩) hb
            · exact h
          rw [List.take_add_one, hc]
          simp only [Option.toList_some]
          rw [valL_snoc]
          have h1 := valL_lt (l.take (conts l))
          have h2 : (l.take (conts l)).length = 9 := by rw [List.length_take]; omega
          rw [h2] at h1 ⊢
          have : (128 : Nat) ^ 9 = 2 ^ 63 := by decide
          have : c.toNat % 128 ≤ 1 := by omega
          have : c.toNat % 128 * 128 ^ 9 ≤ 1 * 128 ^ 9 := Nat.mul_le_mul_right _ this
          omega

/-- A text that is read: its bytes, how many bytes it took, the error. -/
def txtR (l : List UInt8) (most : Int) : List UInt8 × Nat × Int :=
  if (varR l).2.2 ≠ 0 then ([], 0, (varR l).2.2)
  else if most < 0 ∨ most < (varR l).1 then ([], 0, 3)
  else if l.length - (varR l).2.1 < (varR l).1 then ([], 0, 10)
  else ((l.drop (varR l).2.1).take (varR l).1, (varR l).2.1 + (varR l).1, 0)

/-- A slice of bytes as a text. -/
theorem conv_text {w : World} {a : Option Addr} {n c : Nat} {l : List UInt8} (h : Src w 1 (.slice a n c) n (u8s l)) : (Go.convert 22 9 (.slice a n c)).run Tryd.prog w = .ok (.string ⟨l.toArray⟩) w := by
  have hl := u8s_src_len h
  rcases h with ⟨e, h0, h1⟩ | ⟨ad, c', e, _, h2, h3⟩
  · simp only [Value.slice.injEq] at e
    obtain ⟨rfl, rfl, rfl⟩ := e
    have : l = [] := List.length_eq_zero_iff.1 (by omega)
    subst this
    exact run_convert_bytes_nil (P := Tryd.prog) (w := w) 22 5 Tryd.underlying22 Tryd.underlying5 0 0 9 Tryd.underlying9
  · simp only [Value.slice.injEq] at e
    obtain ⟨rfl, _, rfl⟩ := e
    subst hl
    exact run_convert_bytes_back (P := Tryd.prog) w 22 9 5 ad c l Tryd.underlying22 Tryd.underlying5 Tryd.underlying9 (fun j hj => h2 j _ (by simp [u8s, List.getElem?_eq_getElem hj]))
theorem sz_u8 : ∀ W, (sizeOf 5).run Tryd.prog W = .ok 1 W := fun _ => by kernel_rfl

end Go.Proofs.YtfablbhkmddnbaaDoor
