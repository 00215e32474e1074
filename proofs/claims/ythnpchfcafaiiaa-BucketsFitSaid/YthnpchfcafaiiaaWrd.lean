/- word.Div, word.Mod; window.Fits. -/
import Derived.Test.YthnpchfcafaiiaaWin
import Derived.Laws.StructEq
import Derived.WalkSpells
namespace Go.Proofs.Ythnpchfcafaiiaa
open Go.RowKit Go.Sort Go.Lib

theorem tdiv_facts (a b : Int) (hb : 0 < b) : ∃ q : Int, a.tdiv b = q ∧ (0 ≤ a → a / b = q) ∧ (a < 0 → q * b = a → a / b = q) ∧ (a < 0 → q * b ≠ a → a / b = q - 1) ∧
    (a < 0 → a ≤ q * b ∧ q * b ≤ 0 ∧ q ≤ 0 ∧ a ≤ q) ∧ (0 ≤ a → 0 ≤ q ∧ q ≤ a) := by
  refine ⟨_, rfl, fun h => (Int.tdiv_eq_ediv_of_nonneg h).symm, ?_⟩
  by_cases ha : a < 0
  · obtain ⟨n, rfl⟩ : ∃ n, a = -n := ⟨-a, by omega⟩
    have hn : 0 < n := by omega
    have e : (-n).tdiv b = -(n / b) := by rw [Int.neg_tdiv, Int.tdiv_eq_ediv_of_nonneg (by omega)]
    rw [e]
    have hd := Int.emod_def n b
    have h1 := Int.emod_nonneg n (show b ≠ 0 by omega)
    have h2 := Int.emod_lt_of_pos n hb
    have h3 := Int.ediv_nonneg (show 0 ≤ n by omega) (show 0 ≤ b by omega)
    have h4 := Int.ediv_le_self b (show 0 ≤ n by omega)
    have h5 := Int.mul_nonneg (show 0 ≤ b by omega) h3
    have e2 : -(n / b) * b = -(b * (n / b)) := by rw [Int.neg_mul, Int.mul_comm]
    have e3 : b * (-(n / b)) = -(b * (n / b)) := Int.mul_neg _ _
    have e4 : b * (-(n / b) - 1) = -(b * (n / b)) - b := by rw [Int.mul_sub, Int.mul_neg, Int.mul_one]
    refine ⟨fun _ h => ?_, fun _ h => ?_, fun _ => ?_, fun h => by omega⟩
    · exact ((Int.ediv_emod_unique (r := 0) hb).2 ⟨by rw [e3]; omega, by omega, by omega⟩).1
    · exact ((Int.ediv_emod_unique (r := b - n % b) hb).2 ⟨by rw [e4]; omega, by omega, by omega⟩).1
    · rw [e2]; refine ⟨by omega, by omega, by omega, by omega⟩
  · have h : 0 ≤ a := by omega
    refine ⟨fun h => by omega, fun h => by omega, fun h => by omega, fun _ => ?_⟩
    rw [Int.tdiv_eq_ediv_of_nonneg h]
    exact ⟨Int.ediv_nonneg h (by omega), Int.ediv_le_self b h⟩

set_option maxHeartbeats 1000000 in
theorem div_any (a b : Int) (w : World) (hb : 1 ≤ b) (ha : -9223372036854775807 ≤ a) (ha2 : a ≤ 9223372036854775807) :
    Calls Try.prog 81 #[.int .i64 a, .int .i64 b] w fun e w' => e = .returned (.tuple #[.int .i64 (a / b), .bool true]) ∧ w = w' := by
  have hnb : ¬ b ≤ 0 := by omega
  obtain ⟨q, hq, f1, f2, f3, f4, f5⟩ := tdiv_facts a b (by omega)
  by_cases h0 : a < 0
  · have g4 := f4 h0
    have hw : IntKind.i64.wrap (q * b) = q * b := by rw [IntKind.wrap_i64]; omega
    have hw1 : IntKind.i64.wrap (a.tdiv b) = q := by rw [hq, IntKind.wrap_i64]; omega
    by_cases h1 : q * b = a
    · have HR := Lib.hid (f2 h0 h1)
      clear f1 f2 f3 f4 f5 hq
      go_enter Try.func81, Try.ntmps81
      go_wp2_with fail
      go_ret2
      rw [HR.out]
      exact ⟨rfl, rfl⟩
    · have HR := Lib.hid (f3 h0 h1)
      clear f1 f2 f3 f4 f5 hq
      have hw2 : IntKind.i64.wrap (q - 1) = q - 1 := by rw [IntKind.wrap_i64]; omega
      go_enter Try.func81, Try.ntmps81
      go_wp2_with fail
      go_ret2
      rw [HR.out]
      exact ⟨rfl, rfl⟩
  · have h0' : 0 ≤ a := by omega
    have g5 := f5 h0'
    have HR := Lib.hid (f1 h0')
    have hw1 : IntKind.i64.wrap (a.tdiv b) = q := by rw [hq, IntKind.wrap_i64]; omega
    clear f1 f2 f3 f4 f5 hq
    go_enter Try.func81, Try.ntmps81
    go_wp2_with fail
    go_ret2
    rw [HR.out]
    exact ⟨rfl, rfl⟩

set_option maxHeartbeats 1000000 in
theorem mod_any (a b : Int) (w : World) (hb : 1 ≤ b) (hb2 : b ≤ 1099511627776) (ha : -4611686018427387904 ≤ a) (ha2 : a ≤ 4611686018427387904) :
    Calls Try.prog 65 #[.int .i64 a, .int .i64 b] w fun e w' => e = .returned (.tuple #[.int .i64 (a % b), .bool true]) ∧ w = w' := by
  have hd := Int.emod_def a b
  have h1 := Int.emod_nonneg a (show b ≠ 0 by omega)
  have h2 := Int.emod_lt_of_pos a (show 0 < b by omega)
  obtain ⟨q, hq⟩ : ∃ q, a / b = q := ⟨_, rfl⟩
  obtain ⟨p, hp⟩ : ∃ p, q * b = p := ⟨_, rfl⟩
  obtain ⟨r, hr⟩ : ∃ r, a % b = r := ⟨_, rfl⟩
  have e : b * q = p := by rw [Int.mul_comm]; exact hp
  rw [hq, e] at hd
  rw [hr] at hd h1 h2 ⊢
  have hw : IntKind.i64.wrap (q * b) = p := by rw [hp, IntKind.wrap_i64]; omega
  have hw2 : IntKind.i64.wrap (a - p) = r := by rw [← hd, IntKind.wrap_i64]; omega
  have HQ := Lib.hid hq
  have HP := Lib.hid hp
  clear hp e hd hr hq
  go_enter Try.func65, Try.ntmps65
  go_wp2_with (go_at_call 81; refine (div_any a b _ hb (by omega) (by omega)).mono ?_; rw [HQ.out]; rintro e w' ⟨rfl, rfl⟩)
  go_ret2
  exact ⟨rfl, rfl⟩

def fitsW (wd st off w o : Int) : Bool := windowB wd st off && decide (1 ≤ w) && decide (w ≤ 1099511627776) && decide (0 ≤ o) && decide (o < w) && decide (wd % w = 0) && decide (st % w = 0) && decide ((off - o) % w = 0)

theorem tmod0 (x y : Int) : x.tmod y = 0 ↔ x % y = 0 := by
  rw [← Int.dvd_iff_tmod_eq_zero, Int.dvd_iff_emod_eq_zero]

set_option maxHeartbeats 4000000 in
theorem fitsW_any (wd st off w o : Int) (W : World) (ho : -4611686018427387904 ≤ o) (ho2 : o ≤ 4611686018427387904) :
    Calls Try.prog 10 #[.agg #[.int .i64 wd, .int .i64 st, .int .i64 off], .int .i64 w, .int .i64 o] W fun e w' => e = .returned (.bool (fitsW wd st off w o)) ∧ Ext W w' := by
  have HF : Hid (fitsW wd st off w o = (windowB wd st off && decide (1 ≤ w) && decide (w ≤ 1099511627776) && decide (0 ≤ o) && decide (o < w) && decide (wd % w = 0) && decide (st % w = 0) && decide ((off - o) % w = 0))) := rfl
  cases hv : windowB wd st off
  · have HV := Lib.hid hv; clear hv
    go_enter Try.func10, Try.ntmps10
    go_wp2_with (go_at_call 15; refine (windowValid_any _ _ _ _).mono ?_; rw [HV.out]; rintro e w1 ⟨rfl, hb1⟩)
    go_ret
    exact ⟨by rw [HF.out, HV.out]; simp, ((Ext.refl _).alloc _).trans hb1⟩
  · have HV := Lib.hid hv
    simp only [windowB, Bool.and_eq_true, decide_eq_true_eq] at hv
    obtain ⟨⟨⟨⟨⟨⟨v1, v2⟩, v3⟩, v4⟩, v5⟩, v6⟩, v7⟩ := hv
    rw [HV.out, Bool.true_and] at HF
    by_cases h1 : 1 ≤ w
    · by_cases h2 : w ≤ 1099511627776
      · by_cases h3 : 0 ≤ o
        · by_cases h4 : o < w
          · have e1 := tmod0 wd w
            have e2 := tmod0 st w
            have e3 := tmod0 (off - o) w
            have e1' : wd.tmod w = wd % w := Int.tmod_eq_emod_of_nonneg (by omega)
            have e2' : st.tmod w = st % w := Int.tmod_eq_emod_of_nonneg (by omega)
            by_cases h7 : (off - o) % w = 0
            · have e3' : (off - o).tmod w = 0 := e3.2 h7
              clear e1 e2 e3
              by_cases h5 : wd % w = 0
              · by_cases h6 : st % w = 0
                · skip
                  go_enter Try.func10, Try.ntmps10
                  go_wp2_with (go_at_call 15; refine (windowValid_any _ _ _ _).mono ?_; rw [HV.out]; rintro e w1 ⟨rfl, hb1⟩; have hc1 := hb1.cells; have hz1 : W.heap.size < w1.heap.size := by (have := hb1.size; simp at this; omega))
                  go_ret
                  exact ⟨by rw [HF.out]; first | (simp [*]; done) | (simp [*]; intros; omega), ((Ext.refl _).alloc _).trans hb1⟩
                · skip
                  go_enter Try.func10, Try.ntmps10
                  go_wp2_with (go_at_call 15; refine (windowValid_any _ _ _ _).mono ?_; rw [HV.out]; rintro e w1 ⟨rfl, hb1⟩; have hc1 := hb1.cells; have hz1 : W.heap.size < w1.heap.size := by (have := hb1.size; simp at this; omega))
                  go_ret
                  exact ⟨by rw [HF.out]; first | (simp [*]; done) | (simp [*]; intros; omega), ((Ext.refl _).alloc _).trans hb1⟩
              · skip
                go_enter Try.func10, Try.ntmps10
                go_wp2_with (go_at_call 15; refine (windowValid_any _ _ _ _).mono ?_; rw [HV.out]; rintro e w1 ⟨rfl, hb1⟩; have hc1 := hb1.cells; have hz1 : W.heap.size < w1.heap.size := by (have := hb1.size; simp at this; omega))
                go_ret
                exact ⟨by rw [HF.out]; first | (simp [*]; done) | (simp [*]; intros; omega), ((Ext.refl _).alloc _).trans hb1⟩
            · have e3' : ¬ (off - o).tmod w = 0 := fun h => h7 (e3.1 h)
              clear e1 e2 e3
              by_cases h5 : wd % w = 0
              · by_cases h6 : st % w = 0
                · skip
                  go_enter Try.func10, Try.ntmps10
                  go_wp2_with (go_at_call 15; refine (windowValid_any _ _ _ _).mono ?_; rw [HV.out]; rintro e w1 ⟨rfl, hb1⟩; have hc1 := hb1.cells; have hz1 : W.heap.size < w1.heap.size := by (have := hb1.size; simp at this; omega))
                  go_ret
                  exact ⟨by rw [HF.out]; first | (simp [*]; done) | (simp [*]; intros; omega), ((Ext.refl _).alloc _).trans hb1⟩
                · skip
                  go_enter Try.func10, Try.ntmps10
                  go_wp2_with (go_at_call 15; refine (windowValid_any _ _ _ _).mono ?_; rw [HV.out]; rintro e w1 ⟨rfl, hb1⟩; have hc1 := hb1.cells; have hz1 : W.heap.size < w1.heap.size := by (have := hb1.size; simp at this; omega))
                  go_ret
                  exact ⟨by rw [HF.out]; first | (simp [*]; done) | (simp [*]; intros; omega), ((Ext.refl _).alloc _).trans hb1⟩
              · skip
                go_enter Try.func10, Try.ntmps10
                go_wp2_with (go_at_call 15; refine (windowValid_any _ _ _ _).mono ?_; rw [HV.out]; rintro e w1 ⟨rfl, hb1⟩; have hc1 := hb1.cells; have hz1 : W.heap.size < w1.heap.size := by (have := hb1.size; simp at this; omega))
                go_ret
                exact ⟨by rw [HF.out]; first | (simp [*]; done) | (simp [*]; intros; omega), ((Ext.refl _).alloc _).trans hb1⟩
          · skip
            go_enter Try.func10, Try.ntmps10
            go_wp2_with (go_at_call 15; refine (windowValid_any _ _ _ _).mono ?_; rw [HV.out]; rintro e w1 ⟨rfl, hb1⟩; have hc1 := hb1.cells; have hz1 : W.heap.size < w1.heap.size := by (have := hb1.size; simp at this; omega))
            go_ret
            exact ⟨by rw [HF.out]; first | (simp [*]; done) | (simp [*]; intros; omega), ((Ext.refl _).alloc _).trans hb1⟩
        · skip
          go_enter Try.func10, Try.ntmps10
          go_wp2_with (go_at_call 15; refine (windowValid_any _ _ _ _).mono ?_; rw [HV.out]; rintro e w1 ⟨rfl, hb1⟩; have hc1 := hb1.cells; have hz1 : W.heap.size < w1.heap.size := by (have := hb1.size; simp at this; omega))
          go_ret
          exact ⟨by rw [HF.out]; first | (simp [*]; done) | (simp [*]; intros; omega), ((Ext.refl _).alloc _).trans hb1⟩
      · skip
        go_enter Try.func10, Try.ntmps10
        go_wp2_with (go_at_call 15; refine (windowValid_any _ _ _ _).mono ?_; rw [HV.out]; rintro e w1 ⟨rfl, hb1⟩; have hc1 := hb1.cells; have hz1 : W.heap.size < w1.heap.size := by (have := hb1.size; simp at this; omega))
        go_ret
        exact ⟨by rw [HF.out]; first | (simp [*]; done) | (simp [*]; intros; omega), ((Ext.refl _).alloc _).trans hb1⟩
    · skip
      go_enter Try.func10, Try.ntmps10
      go_wp2_with (go_at_call 15; refine (windowValid_any _ _ _ _).mono ?_; rw [HV.out]; rintro e w1 ⟨rfl, hb1⟩; have hc1 := hb1.cells; have hz1 : W.heap.size < w1.heap.size := by (have := hb1.size; simp at this; omega))
      go_ret
      exact ⟨by rw [HF.out]; first | (simp [*]; done) | (simp [*]; intros; omega), ((Ext.refl _).alloc _).trans hb1⟩

end Go.Proofs.Ythnpchfcafaiiaa
