/- The windows that have a time (plain). -/
import Derived.Test.YthnpchfcafaiiaaWol
namespace Go.Proofs.Ythnpchfcafaiiaa
open Go.RowKit Go.Lib Go.Sort

theorem lastF_eq (st off t : Int) : lastF st off t = off + st * ((t - off) / st) := by
  unfold lastF
  have := Int.mul_ediv_add_emod (t - off) st
  omega
theorem firstF_eq (wd st off t : Int) : firstF wd st off t = off + st * ((t - wd - off) / st) + st := by
  unfold firstF
  rw [lastF_eq]
/-- There are at most 64. -/
theorem win_count {wd st off t : Int} (h1 : 1 ≤ st) (h2 : st ≤ wd) (h3 : wd ≤ 64 * st) : ∃ q : Nat, lastF st off t - firstF wd st off t = q * st ∧ q ≤ 63 := by
  have e1 := lastF_eq st off t
  have e2 := firstF_eq wd st off t
  obtain ⟨A, hA⟩ : ∃ A, A = (t - off) / st := ⟨_, rfl⟩
  obtain ⟨B, hB⟩ : ∃ B, B = (t - wd - off) / st := ⟨_, rfl⟩
  have a1 := Int.mul_ediv_add_emod (t - off) st
  have a2 := Int.emod_nonneg (t - off) (show st ≠ 0 by omega)
  have a3 := Int.emod_lt_of_pos (t - off) (show 0 < st by omega)
  have b1 := Int.mul_ediv_add_emod (t - wd - off) st
  have b2 := Int.emod_nonneg (t - wd - off) (show st ≠ 0 by omega)
  have b3 := Int.emod_lt_of_pos (t - wd - off) (show 0 < st by omega)
  rw [← hA] at e1 a1
  rw [← hB] at e2 b1
  have hlt : B < A := by
    refine Int.lt_of_mul_lt_mul_left (a := st) ?_ (by omega)
    omega
  have hle : A < B + 65 := by
    refine Int.lt_of_mul_lt_mul_left (a := st) ?_ (by omega)
    rw [Int.mul_add]
    omega
  refine ⟨(A - B - 1).toNat, ?_, by omega⟩
  have : ((A - B - 1).toNat : Int) = A - B - 1 := by omega
  rw [e1, e2, this, Int.sub_mul, Int.sub_mul, Int.mul_comm A, Int.mul_comm B]
  omega
end Go.Proofs.Ythnpchfcafaiiaa
