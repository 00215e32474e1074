/- The document's answers of plain functions: tidemillref01.Mod, tidemillref09.Valid. -/
import Derived.Test.YthnpchfcafaiiaaWrd
namespace Go.Proofs.Ythnpchfcafaiiaa
open Go.RowKit Go.Sort Go.Lib

set_option maxHeartbeats 1000000 in
theorem refMod_any (a b : Int) (w : World) (hb : 1 ≤ b) (hb2 : b ≤ 1099511627776) (ha : -4611686018427387904 ≤ a) (ha2 : a ≤ 4611686018427387904) :
    Calls Try.prog 79 #[.int .i64 a, .int .i64 b] w fun e w' => e = .returned (.tuple #[.int .i64 (a % b), .bool true]) ∧ w = w' := by
  have h1 := Int.emod_nonneg a (show b ≠ 0 by omega)
  have h2 := Int.emod_lt_of_pos a (show 0 < b by omega)
  obtain ⟨r, hr⟩ : ∃ r, a.tmod b = r := ⟨_, rfl⟩
  obtain ⟨m, hm⟩ : ∃ m, a % b = m := ⟨_, rfl⟩
  have hk : (r = m) ∨ (r < 0 ∧ r + b = m) := by
    rw [← hr, ← hm, Int.tmod_eq_emod]
    split
    · left; omega
    · rename_i hnd
      by_cases h0 : a % b = 0
      · exact absurd (Or.inr (Int.dvd_of_emod_eq_zero h0)) hnd
      · right
        have e : (b.natAbs : Int) = b := by omega
        rw [e]; omega
  rw [hm] at h1 h2 ⊢
  clear hm
  have hw : IntKind.i64.wrap r = r := by rw [IntKind.wrap_i64]; omega
  have hnb : ¬ b ≤ 0 := by omega
  have hb0 : b ≠ 0 := by omega
  rcases hk with hk | ⟨hk, hk2⟩
  · subst hk
    have hn : ¬ r < 0 := by omega
    go_enter Try.func79, Try.ntmps79
    go_wp2_with fail
    go_ret2
    exact ⟨rfl, rfl⟩
  · have HK := Lib.hid hk2
    have hw2 : IntKind.i64.wrap (r + b) = r + b := by rw [IntKind.wrap_i64]; omega
    clear hk2
    go_enter Try.func79, Try.ntmps79
    go_wp2_with fail
    go_ret2
    exact ⟨by rw [← HK.out]; rfl, rfl⟩

theorem ceil_le (wd st : Int) (h : 1 ≤ st) (hw : st ≤ wd) : (wd + st - 1).tdiv st ≤ 64 ↔ wd ≤ 64 * st := by
  rw [Int.tdiv_eq_ediv_of_nonneg (by omega)]
  have h1 := Int.emod_nonneg (wd + st - 1) (show st ≠ 0 by omega)
  have h2 := Int.emod_lt_of_pos (wd + st - 1) (show 0 < st by omega)
  have hd := Int.emod_def (wd + st - 1) st
  obtain ⟨q, hq⟩ : ∃ q, (wd + st - 1) / st = q := ⟨_, rfl⟩
  rw [hq] at hd ⊢
  constructor
  · intro h64
    have := Int.mul_le_mul_of_nonneg_left h64 (show 0 ≤ st by omega)
    have e : st * 64 = 64 * st := Int.mul_comm _ _
    omega
  · intro h64
    rcases Int.lt_or_le 64 q with h | h
    · have := Int.mul_le_mul_of_nonneg_left (show 65 ≤ q by omega) (show 0 ≤ st by omega)
      have e : st * 65 = 65 * st := Int.mul_comm _ _
      omega
    · exact h
theorem floor_lt (wd st : Int) (h : 1 ≤ st) (hw : st ≤ wd) (h64 : wd ≤ 64 * st) : wd.tdiv st < 64 ∨ (wd.tdiv st = 64 ∧ wd = 64 * st) := by
  rw [Int.tdiv_eq_ediv_of_nonneg (by omega)]
  have h1 := Int.emod_nonneg wd (show st ≠ 0 by omega)
  have hd := Int.emod_def wd st
  obtain ⟨q, hq⟩ : ∃ q, wd / st = q := ⟨_, rfl⟩
  rw [hq] at hd ⊢
  rcases Int.lt_or_le q 64 with h | h
  · exact .inl h
  · have := Int.mul_le_mul_of_nonneg_left h (show 0 ≤ st by omega)
    have e : st * 64 = 64 * st := Int.mul_comm _ _
    right
    refine ⟨?_, by omega⟩
    rcases Int.lt_or_le 64 q with h' | h'
    · have := Int.mul_le_mul_of_nonneg_left (show 65 ≤ q by omega) (show 0 ≤ st by omega)
      have e : st * 65 = 65 * st := Int.mul_comm _ _
      omega
    · omega
theorem tdiv_small (a b : Int) (ha : 0 ≤ a) (hb : 1 ≤ b) : 0 ≤ a.tdiv b ∧ a.tdiv b ≤ a := by
  rw [Int.tdiv_eq_ediv_of_nonneg ha]
  exact ⟨Int.ediv_nonneg ha (by omega), Int.ediv_le_self b ha⟩

set_option maxHeartbeats 4000000 in
set_option maxRecDepth 100000 in
theorem refWin_any (wd st off : Int) (w : World) :
    Calls Try.prog 11 #[.int .i64 wd, .int .i64 st, .int .i64 off] w fun e w' => e = .returned (.bool (windowB wd st off)) ∧ w = w' := by
  have Hf : Hid (windowB wd st off = (decide (1 ≤ wd) && decide (wd ≤ 1099511627776) && decide (1 ≤ st) && decide (st ≤ wd) && decide (wd ≤ 64 * st) && decide (0 ≤ off) && decide (off < st))) := rfl
  by_cases h0 : 1 ≤ wd
  case neg =>
    go_enter Try.func11, Try.ntmps11
    go_wp2_with fail
    go_ret
    exact ⟨by rw [Hf.out]; first | (simp [*]; done) | (simp [*]; omega), rfl⟩
  by_cases h1 : wd ≤ 1099511627776
  case neg =>
    go_enter Try.func11, Try.ntmps11
    go_wp2_with fail
    go_ret
    exact ⟨by rw [Hf.out]; first | (simp [*]; done) | (simp [*]; omega), rfl⟩
  by_cases h2 : 1 ≤ st
  case neg =>
    go_enter Try.func11, Try.ntmps11
    go_wp2_with fail
    go_ret
    exact ⟨by rw [Hf.out]; first | (simp [*]; done) | (simp [*]; omega), rfl⟩
  by_cases h3 : st ≤ wd
  case neg =>
    go_enter Try.func11, Try.ntmps11
    go_wp2_with fail
    go_ret
    exact ⟨by rw [Hf.out]; first | (simp [*]; done) | (simp [*]; omega), rfl⟩
  by_cases h4 : 0 ≤ off
  case neg =>
    go_enter Try.func11, Try.ntmps11
    go_wp2_with fail
    go_ret
    exact ⟨by rw [Hf.out]; first | (simp [*]; done) | (simp [*]; omega), rfl⟩
  by_cases h5 : off < st
  case neg =>
    go_enter Try.func11, Try.ntmps11
    go_wp2_with fail
    go_ret
    exact ⟨by rw [Hf.out]; first | (simp [*]; done) | (simp [*]; omega), rfl⟩
  have s1 := tdiv_small (wd + st - 1) st (by omega) (by omega)
  have s2 := tdiv_small wd st (by omega) (by omega)
  have k1 := ceil_le wd st h2 h3
  have k2 := floor_lt wd st h2 h3
  obtain ⟨q, hq⟩ : ∃ q, (wd + st - 1).tdiv st = q := ⟨_, rfl⟩
  obtain ⟨p, hp⟩ : ∃ p, wd.tdiv st = p := ⟨_, rfl⟩
  rw [hq] at s1 k1
  rw [hp] at s2 k2
  have z0 : IntKind.i64.wrap (wd + st) = wd + st := by rw [IntKind.wrap_i64]; omega
  have z1 : IntKind.i64.wrap (wd + st - 1) = wd + st - 1 := by rw [IntKind.wrap_i64]; omega
  have z2 : IntKind.i64.wrap q = q := by rw [IntKind.wrap_i64]; omega
  have z3 : IntKind.i64.wrap p = p := by rw [IntKind.wrap_i64]; omega
  have z4 : IntKind.i64.wrap (64 * st) = 64 * st := by rw [IntKind.wrap_i64]; omega
  have z5 : st ≠ 0 := by omega
  by_cases h6 : wd ≤ 64 * st
  · have h7 := k1.2 h6
    rcases k2 h6 with h8 | ⟨h8, h9⟩
    · clear k1 k2 s1 s2
      go_enter Try.func11, Try.ntmps11
      go_wp2_with fail
      go_ret
      exact ⟨by rw [Hf.out]; first | (simp [*]; done) | (simp [*]; omega), rfl⟩
    · clear k1 k2 s1 s2
      subst h8
      have h9' : 64 * st = wd := h9.symm
      rw [h9'] at z4
      clear h9 h6
      have h6 : wd ≤ 64 * st := by omega
      have HH6 := Lib.hid h6
      clear h6
      go_enter Try.func11, Try.ntmps11
      go_wp2_with fail
      go_ret
      exact ⟨by rw [Hf.out]; first | (simp [*]; done) | (simp [*]; omega), rfl⟩
  · have h7 : ¬ q ≤ 64 := fun h => h6 (k1.1 h)
    clear k1 k2 s1 s2
    go_enter Try.func11, Try.ntmps11
    go_wp2_with fail
    go_ret
    exact ⟨by rw [Hf.out]; first | (simp [*]; done) | (simp [*]; omega), rfl⟩
end Go.Proofs.Ythnpchfcafaiiaa
