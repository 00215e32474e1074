/- word.Div, word.Mod; window.Fits. -/
import Derived.Test.YtokllgdbmnmieaaGreatWin
import Derived.Laws.StructEq
import Derived.WalkSpells
namespace Go.Proofs.YtokllgdbmnmieaaGreat
open Go.RowKit Go.Sort Go.Lib

theorem tdiv_facts (a b : Int) (hb : 0 < b) : ∃ q : Int, a.tdiv b = q ∧ (0 ≤ a → a / b = q) ∧ (a < 0 → q * b = a → a / b = q) ∧ (a < 0 → q * b ≠ a → a / b = q - 1) ∧
    (a < 0 → a ≤ q * b ∧ q * b ≤ 0 ∧ q ≤ 0 ∧ a ≤ q) ∧ (0 ≤ a → 0 ≤ q ∧ q ≤ a) := by
  refine ⟨_, rfl, fun h => (Int.tdiv_eq_ediv_of_nonneg h).symm, ?_⟩
  by_cases ha : a < 0
  · obtain ⟨n, rfl⟩ : ∃ n, a = -n := ⟨-a, by omega⟩
    have hn : 0 < n := by omega
    have e : (-n).tdiv b = -(n / b) := by rw [Int.neg_tdiv, Int.tdiv_eq_ediv_of_nonneg (by omega)]
    rw [e]
    have hd := Int.emod_def n b
    have h1 := Int.emod_nonneg n (show b ≠ 0 by omega)
    have h2 := Int.emod_lt_of_pos n hb
    have h3 := Int.ediv_nonneg (show 0 ≤ n by omega) (show 0 ≤ b by omega)
    have h4 := Int.ediv_le_self b (show 0 ≤ n by omega)
    have h5 := Int.mul_nonneg (show 0 ≤ b by omega) h3
    have e2 : -(n / b) * b = -(b * (n / b)) := by rw [Int.neg_mul, Int.mul_comm]
    have e3 : b * (-(n / b)) = -(b * (n / b)) := Int.mul_neg _ _
    have e4 : b * (-(n / b) - 1) = -(b * (n / b)) - b := by rw [Int.mul_sub, Int.mul_neg, Int.mul_one]
    refine ⟨fun _ h => ?_, fun _ h => ?_, fun _ => ?_, fun h => by omega⟩
    · exact ((Int.ediv_emod_unique (r := 0) hb).2 ⟨by rw [e3]; omega, by omega, by omega⟩).1
    · exact ((Int.ediv_emod_unique (r := b - n % b) hb).2 ⟨by rw [e4]; omega, by omega, by omega⟩).1
    · rw [e2]; refine ⟨by omega, by omega, by omega, by omega⟩
  · have h : 0 ≤ a := by omega
    refine ⟨fun h => by omega, fun h => by omega, fun h => by omega, fun _ => ?_⟩
    rw [Int.tdiv_eq_ediv_of_nonneg h]
    exact ⟨Int.ediv_nonneg h (by omega), Int.ediv_le_self b h⟩

set_option maxHeartbeats 1000000 in
theorem div_any (a b : Int) (w : World) (hb : 1 ≤ b) (ha : -9223372036854775807 ≤ a) (ha2 : a ≤ 9223372036854775807) :
    Calls Tryz.prog 66 #[.int .i64 a, .int .i64 b] w fun e w' => e = .returned (.tuple #[.int .i64 (a / b), .bool true]) ∧ w = w' := by
  have hnb : ¬ b ≤ 0 := by omega
  obtain ⟨q, hq, f1, f2, f3, f4, f5⟩ := tdiv_facts a b (by omega)
  by_cases h0 : a < 0
  · have g4 := f4 h0
    have hw : IntKind.i64.wrap (q * b) = q * b := by rw [IntKind.wrap_i64]; omega
    have hw1 : IntKind.i64.wrap (a.tdiv b) = q := by rw [hq, IntKind.wrap_i64]; omega
    by_cases h1 : q * b = a
    · have HR := Lib.hid (f2 h0 h1)
      clear f1 f2 f3 f4 f5 hq
      go_enter Tryz.func66, Tryz.ntmps66
      go_wp2_with fail
      go_ret2
      rw [HR.out]
      exact ⟨rfl, rfl⟩
    · have HR := Lib.hid (f3 h0 h1)
      clear f1 f2 f3 f4 f5 hq
      have hw2 : IntKind.i64.wrap (q - 1) = q - 1 := by rw [IntKind.wrap_i64]; omega
      go_enter Tryz.func66, Tryz.ntmps66
      go_wp2_with fail
      go_ret2
      rw [HR.out]
      exact ⟨rfl, rfl⟩
  · have h0' : 0 ≤ a := by omega
    have g5 := f5 h0'
    have HR := Lib.hid (f1 h0')
    have hw1 : IntKind.i64.wrap (a.tdiv b) = q := by rw [hq, IntKind.wrap_i64]; omega
    clear f1 f2 f3 f4 f5 hq
    go_enter Tryz.func66, Tryz.ntmps66
    go_wp2_with fail
    go_ret2
    rw [HR.out]
    exact ⟨rfl, rfl⟩

set_option maxHeartbeats 1000000 in
theorem mod_any (a b : Int) (w : World) (hb : 1 ≤ b) (hb2 : b ≤ 1099511627776) (ha : -4611686018427387904 ≤ a) (ha2 : a ≤ 4611686018427387904) :
    Calls Tryz.prog 37 #[.int .i64 a, .int .i64 b] w fun e w' => e = .returned (.tuple #[.int .i64 (a % b), .bool true]) ∧ w = w' := by
  have hd := Int.emod_def a b
  have h1 := Int.emod_nonneg a (show b ≠ 0 by omega)
  have h2 := Int.emod_lt_of_pos a (show 0 < b by omega)
  obtain ⟨q, hq⟩ : ∃ q, a / b = q := ⟨_, rfl⟩
  obtain ⟨p, hp⟩ : ∃ p, q * b = p := ⟨_, rfl⟩
  obtain ⟨r, hr⟩ : ∃ r, a % b = r := ⟨_, rfl⟩
  have e : b * q = p := by rw [Int.mul_comm]; exact hp
  rw [hq, e] at hd
  rw [hr] at hd h1 h2 ⊢
  have hw : IntKind.i64.wrap (q * b) = p := by rw [hp, IntKind.wrap_i64]; omega
  have hw2 : IntKind.i64.wrap (a - p) = r := by rw [← hd, IntKind.wrap_i64]; omega
  have HQ := Lib.hid hq
  have HP := Lib.hid hp
  clear hp e hd hr hq
  go_enter Tryz.func37, Tryz.ntmps37
  go_wp2_with (go_at_call 66; refine (div_any a b _ hb (by omega) (by omega)).mono ?_; rw [HQ.out]; rintro e w' ⟨rfl, rfl⟩)
  go_ret2
  exact ⟨rfl, rfl⟩

def fitsW (wd st off w o : Int) : Bool := windowB wd st off && decide (1 ≤ w) && decide (w ≤ 1099511627776) && decide (0 ≤ o) && decide (o < w) && decide (wd % w = 0) && decide (st % w = 0) && decide ((off - o) % w = 0)

theorem tmod0 (x y : Int) : x.tmod y = 0 ↔ x % y = 0 := by
  rw [← Int.dvd_iff_tmod_eq_zero, Int.dvd_iff_emod_eq_zero]

set_option maxHeartbeats 4000000 in
theorem fitsW_any (wd st off w o : Int) (W : World) (ho : -4611686018427387904 ≤ o) (ho2 : o ≤ 4611686018427387904) :
    Calls Tryz.prog 15 #[.agg #[.int .i64 wd, .int .i64 st, .int .i64 off], .int .i64 w, .int .i64 o] W fun e w' => e = .returned (.bool (fitsW wd st off w o)) ∧ Ext W w' := by
  have HF : Hid (fitsW wd st off w o = (windowB wd st off && decide (1 ≤ w) && decide (w ≤ 1099511627776) && decide (0 ≤ o) && decide (o < w) && decide (wd % w = 0) && decide (st % w = 0) && decide ((off - o) % w = 0))) := rfl
  cases hv : windowB wd st off
  · have HV := Lib.hid hv; clear hv
    go_enter Tryz.func15, Tryz.ntmps15
    go_wp2_with (go_at_call 29; refine (windowValid_any _ _ _ _).mono ?_; rw [HV.out]; rintro e w1 ⟨rfl, hb1⟩)
    go_ret
    exact ⟨by rw [HF.out, HV.out]; simp, ((Ext.refl _).alloc _).trans hb1⟩
  · have HV := Lib.hid hv
    simp only [windowB, Bool.and_eq_true, decide_eq_true_eq] at hv
    obtain ⟨⟨⟨⟨⟨⟨v1, v2⟩, v3⟩, v4⟩, v5⟩, v6⟩, v7⟩ := hv
    rw [HV.out, Bool.true_and] at HF
    by_cases h1 : 1 ≤ w
    · by_cases h2 : w ≤ 1099511627776
      · by_cases h3 : 0 ≤ o
        · by_cases h4 : o < w
          · have e1 := tmod0 wd w
            have e2 := tmod0 st w
            have e3 := tmod0 (off - o) w
            have e1' : wd.tmod w = wd % w := Int.tmod_eq_emod_of_nonneg (by omega)
            have e2' : st.tmod w = st % w := Int.tmod_eq_emod_of_nonneg (by omega)
            by_cases h7 : (off - o) % w = 0
            · have e3' : (off - o).tmod w = 0 := e3.2 h7
              clear e1 e2 e3
              by_cases h5 : wd % w = 0
              · by_cases h6 : st % w = 0
                · skip
                  go_enter Tryz.func15, Tryz.ntmps15
                  go_wp2_with (go_at_call 29; refine (windowValid_any _ _ _ _).mono ?_; rw [HV.out]; rintro e w1 ⟨rfl, hb1⟩; have hc1 := hb1.cells; have hz1 : W.heap.size < w1.heap.size := by (have := hb1.size; simp at this; omega))
                  go_ret
                  exact ⟨by rw [HF.out]; first | (simp [*]; done) | (simp [*]; intros; omega), ((Ext.refl _).alloc _).trans hb1⟩
                · skip
                  go_enter Tryz.func15, Tryz.ntmps15
                  go_wp2_with (go_at_call 29; refine (windowValid_any _ _ _ _).mono ?_; rw [HV.out]; rintro e w1 ⟨rfl, hb1⟩; have hc1 := hb1.cells; have hz1 : W.heap.size < w1.heap.size := by (have := hb1.size; simp at this; omega))
                  go_ret
                  exact ⟨by rw [HF.out]; first | (simp [*]; done) | (simp [*]; intros; omega), ((Ext.refl _).alloc _).trans hb1⟩
              · skip
                go_enter Tryz.func15, Tryz.ntmps15
                go_wp2_with (go_at_call 29; refine (windowValid_any _ _ _ _).mono ?_; rw [HV.out]; rintro e w1 ⟨rfl, hb1⟩; have hc1 := hb1.cells; have hz1 : W.heap.size < w1.heap.size := by (have := hb1.size; simp at this; omega))
                go_ret
                exact ⟨by rw [HF.out]; first | (simp [*]; done) | (simp [*]; intros; omega), ((Ext.refl _).alloc _).trans hb1⟩
            · have e3' : ¬ (off - o).tmod w = 0 := fun h => h7 (e3.1 h)
              clear e1 e2 e3
              by_cases h5 : wd % w = 0
              · by_cases h6 : st % w = 0
                · skip
                  go_enter Tryz.func15, Tryz.ntmps15
                  go_wp2_with (go_at_call 29; refine (windowValid_any _ _ _ _).mono ?_; rw [HV.out]; rintro e w1 ⟨rfl, hb1⟩; have hc1 := hb1.cells; have hz1 : W.heap.size < w1.heap.size := by (have := hb1.size; simp at this; omega))
                  go_ret
                  exact ⟨by rw [HF.out]; first | (simp [*]; done) | (simp [*]; intros; omega), ((Ext.refl _).alloc _).trans hb1⟩
                · skip
                  go_enter Tryz.func15, Tryz.ntmps15
                  go_wp2_with (go_at_call 29; refine (windowValid_any _ _ _ _).mono ?_; rw [HV.out]; rintro e w1 ⟨rfl, hb1⟩; have hc1 := hb1.cells; have hz1 : W.heap.size < w1.heap.size := by (have := hb1.size; simp at this; omega))
                  go_ret
                  exact ⟨by rw [HF.out]; first | (simp [*]; done) | (simp [*]; intros; omega), ((Ext.refl _).alloc _).trans hb1⟩
              · skip
                go_enter Tryz.func15, Tryz.ntmps15
                go_wp2_with (go_at_call 29; refine (windowValid_any _ _ _ _).mono ?_; rw [HV.out]; rintro e w1 ⟨rfl, hb1⟩; have hc1 := hb1.cells; have hz1 : W.heap.size < w1.heap.size := by (have := hb1.size; simp at this; omega))
                go_ret
                exact ⟨by rw [HF.out]; first | (simp [*]; done) | (simp [*]; intros; omega), ((Ext.refl _).alloc _).trans hb1⟩
          · skip
            go_enter Tryz.func15, Tryz.ntmps15
            go_wp2_with (go_at_call 29; refine (windowValid_any _ _ _ _).mono ?_; rw [HV.out]; rintro e w1 ⟨rfl, hb1⟩; have hc1 := hb1.cells; have hz1 : W.heap.size < w1.heap.size := by (have := hb1.size; simp at this; omega))
            go_ret
            exact ⟨by rw [HF.out]; first | (simp [*]; done) | (simp [*]; intros; omega), ((Ext.refl _).alloc _).trans hb1⟩
        · skip
          go_enter Tryz.func15, Tryz.ntmps15
          go_wp2_with (go_at_call 29; refine (windowValid_any _ _ _ _).mono ?_; rw [HV.out]; rintro e w1 ⟨rfl, hb1⟩; have hc1 := hb1.cells; have hz1 : W.heap.size < w1.heap.size := by (have := hb1.size; simp at this; omega))
          go_ret
          exact ⟨by rw [HF.out]; first | (simp [*]; done) | (simp [*]; intros; omega), ((Ext.refl _).alloc _).trans hb1⟩
      · skip
        go_enter Tryz.func15, Tryz.ntmps15
        go_wp2_with (go_at_call 29; refine (windowValid_any _ _ _ _).mono ?_; rw [HV.out]; rintro e w1 ⟨rfl, hb1⟩; have hc1 := hb1.cells; have hz1 : W.heap.size < w1.heap.size := by (have := hb1.size; simp at this; omega))
        go_ret
        exact ⟨by rw [HF.out]; first | (simp [*]; done) | (simp [*]; intros; omega), ((Ext.refl _).alloc _).trans hb1⟩
    · skip
      go_enter Tryz.func15, Tryz.ntmps15
      go_wp2_with (go_at_call 29; refine (windowValid_any _ _ _ _).mono ?_; rw [HV.out]; rintro e w1 ⟨rfl, hb1⟩; have hc1 := hb1.cells; have hz1 : W.heap.size < w1.heap.size := by (have := hb1.size; simp at this; omega))
      go_ret
      exact ⟨by rw [HF.out]; first | (simp [*]; done) | (simp [*]; intros; omega), ((Ext.refl _).alloc _).trans hb1⟩

end Go.Proofs.YtokllgdbmnmieaaGreat

/-! The document's answers of plain functions: tidemillref01.Mod, tidemillref09.Valid. -/

namespace Go.Proofs.YtokllgdbmnmieaaGreat
open Go.RowKit Go.Sort Go.Lib

set_option maxHeartbeats 1000000 in
theorem refMod_any (a b : Int) (w : World) (hb : 1 ≤ b) (hb2 : b ≤ 1099511627776) (ha : -4611686018427387904 ≤ a) (ha2 : a ≤ 4611686018427387904) :
    Calls Tryz.prog 120 #[.int .i64 a, .int .i64 b] w fun e w' => e = .returned (.tuple #[.int .i64 (a % b), .bool true]) ∧ w = w' := by
  have h1 := Int.emod_nonneg a (show b ≠ 0 by omega)
  have h2 := Int.emod_lt_of_pos a (show 0 < b by omega)
  obtain ⟨r, hr⟩ : ∃ r, a.tmod b = r := ⟨_, rfl⟩
  obtain ⟨m, hm⟩ : ∃ m, a % b = m := ⟨_, rfl⟩
  have hk : (r = m) ∨ (r < 0 ∧ r + b = m) := by
    rw [← hr, ← hm, Int.tmod_eq_emod]
    split
    · left; omega
    · rename_i hnd
      by_cases h0 : a % b = 0
      · exact absurd (Or.inr (Int.dvd_of_emod_eq_zero h0)) hnd
      · right
        have e : (b.natAbs : Int) = b := by omega
        rw [e]; omega
  rw [hm] at h1 h2 ⊢
  clear hm
  have hw : IntKind.i64.wrap r = r := by rw [IntKind.wrap_i64]; omega
  have hnb : ¬ b ≤ 0 := by omega
  have hb0 : b ≠ 0 := by omega
  rcases hk with hk | ⟨hk, hk2⟩
  · subst hk
    have hn : ¬ r < 0 := by omega
    go_enter Tryz.func120, Tryz.ntmps120
    go_wp2_with fail
    go_ret2
    exact ⟨rfl, rfl⟩
  · have HK := Lib.hid hk2
    have hw2 : IntKind.i64.wrap (r + b) = r + b := by rw [IntKind.wrap_i64]; omega
    clear hk2
    go_enter Tryz.func120, Tryz.ntmps120
    go_wp2_with fail
    go_ret2
    exact ⟨by rw [← HK.out]; rfl, rfl⟩

theorem ceil_le (wd st : Int) (h : 1 ≤ st) (hw : st ≤ wd) : (wd + st - 1).tdiv st ≤ 64 ↔ wd ≤ 64 * st := by
  rw [Int.tdiv_eq_ediv_of_nonneg (by omega)]
  have h1 := Int.emod_nonneg (wd + st - 1) (show st ≠ 0 by omega)
  have h2 := Int.emod_lt_of_pos (wd + st - 1) (show 0 < st by omega)
  have hd := Int.emod_def (wd + st - 1) st
  obtain ⟨q, hq⟩ : ∃ q, (wd + st - 1) / st = q := ⟨_, rfl⟩
  rw [hq] at hd ⊢
  constructor
  · intro h64
    have := Int.mul_le_mul_of_nonneg_left h64 (show 0 ≤ st by omega)
    have e : st * 64 = 64 * st := Int.mul_comm _ _
    omega
  · intro h64
    rcases Int.lt_or_le 64 q with h | h
    · have := Int.mul_le_mul_of_nonneg_left (show 65 ≤ q by omega) (show 0 ≤ st by omega)
      have e : st * 65 = 65 * st := Int.mul_comm _ _
      omega
    · exact h
theorem floor_lt (wd st : Int) (h : 1 ≤ st) (hw : st ≤ wd) (h64 : wd ≤ 64 * st) : wd.tdiv st < 64 ∨ (wd.tdiv st = 64 ∧ wd = 64 * st) := by
  rw [Int.tdiv_eq_ediv_of_nonneg (by omega)]
  have h1 := Int.emod_nonneg wd (show st ≠ 0 by omega)
  have hd := Int.emod_def wd st
  obtain ⟨q, hq⟩ : ∃ q, wd / st = q := ⟨_, rfl⟩
  rw [hq] at hd ⊢
  rcases Int.lt_or_le q 64 with h | h
  · exact .inl h
  · have := Int.mul_le_mul_of_nonneg_left h (show 0 ≤ st by omega)
    have e : st * 64 = 64 * st := Int.mul_comm _ _
    right
    refine ⟨?_, by omega⟩
    rcases Int.lt_or_le 64 q with h' | h'
    · have := Int.mul_le_mul_of_nonneg_left (show 65 ≤ q by omega) (show 0 ≤ st by omega)
      have e : st * 65 = 65 * st := Int.mul_comm _ _
      omega
    · omega
theorem tdiv_small (a b : Int) (ha : 0 ≤ a) (hb : 1 ≤ b) : 0 ≤ a.tdiv b ∧ a.tdiv b ≤ a := by
  rw [Int.tdiv_eq_ediv_of_nonneg ha]
  exact ⟨Int.ediv_nonneg ha (by omega), Int.ediv_le_self b ha⟩

set_option maxHeartbeats 4000000 in
set_option maxRecDepth 100000 in
theorem refWin_any (wd st off : Int) (w : World) :
    Calls Tryz.prog 52 #[.int .i64 wd, .int .i64 st, .int .i64 off] w fun e w' => e = .returned (.bool (windowB wd st off)) ∧ w = w' := by
  have Hf : Hid (windowB wd st off = (decide (1 ≤ wd) && decide (wd ≤ 1099511627776) && decide (1 ≤ st) && decide (st ≤ wd) && decide (wd ≤ 64 * st) && decide (0 ≤ off) && decide (off < st))) := rfl
  by_cases h0 : 1 ≤ wd
  case neg =>
    go_enter Tryz.func52, Tryz.ntmps52
    go_wp2_with fail
    go_ret
    exact ⟨by rw [Hf.out]; first | (simp [*]; done) | (simp [*]; omega), rfl⟩
  by_cases h1 : wd ≤ 1099511627776
  case neg =>
    go_enter Tryz.func52, Tryz.ntmps52
    go_wp2_with fail
    go_ret
    exact ⟨by rw [Hf.out]; first | (simp [*]; done) | (simp [*]; omega), rfl⟩
  by_cases h2 : 1 ≤ st
  case neg =>
    go_enter Tryz.func52, Tryz.ntmps52
    go_wp2_with fail
    go_ret
    exact ⟨by rw [Hf.out]; first | (simp [*]; done) | (simp [*]; omega), rfl⟩
  by_cases h3 : st ≤ wd
  case neg =>
    go_enter Tryz.func52, Tryz.ntmps52
    go_wp2_with fail
    go_ret
    exact ⟨by rw [Hf.out]; first | (simp [*]; done) | (simp [*]; omega), rfl⟩
  by_cases h4 : 0 ≤ off
  case neg =>
    go_enter Tryz.func52, Tryz.ntmps52
    go_wp2_with fail
    go_ret
    exact ⟨by rw [Hf.out]; first | (simp [*]; done) | (simp [*]; omega), rfl⟩
  by_cases h5 : off < st
  case neg =>
    go_enter Tryz.func52, Tryz.ntmps52
    go_wp2_with fail
    go_ret
    exact ⟨by rw [Hf.out]; first | (simp [*]; done) | (simp [*]; omega), rfl⟩
  have s1 := tdiv_small (wd + st - 1) st (by omega) (by omega)
  have s2 := tdiv_small wd st (by omega) (by omega)
  have k1 := ceil_le wd st h2 h3
  have k2 := floor_lt wd st h2 h3
  obtain ⟨q, hq⟩ : ∃ q, (wd + st - 1).tdiv st = q := ⟨_, rfl⟩
  obtain ⟨p, hp⟩ : ∃ p, wd.tdiv st = p := ⟨_, rfl⟩
  rw [hq] at s1 k1
  rw [hp] at s2 k2
  have z0 : IntKind.i64.wrap (wd + st) = wd + st := by rw [IntKind.wrap_i64]; omega
  have z1 : IntKind.i64.wrap (wd + st - 1) = wd + st - 1 := by rw [IntKind.wrap_i64]; omega
  have z2 : IntKind.i64.wrap q = q := by rw [IntKind.wrap_i64]; omega
  have z3 : IntKind.i64.wrap p = p := by rw [IntKind.wrap_i64]; omega
  have z4 : IntKind.i64.wrap (64 * st) = 64 * st := by rw [IntKind.wrap_i64]; omega
  have z5 : st ≠ 0 := by omega
  by_cases h6 : wd ≤ 64 * st
  · have h7 := k1.2 h6
    rcases k2 h6 with h8 | ⟨h8, h9⟩
    · clear k1 k2 s1 s2
      go_enter Tryz.func52, Tryz.ntmps52
      go_wp2_with fail
      go_ret
      exact ⟨by rw [Hf.out]; first | (simp [*]; done) | (simp [*]; omega), rfl⟩
    · clear k1 k2 s1 s2
      subst h8
      have h9' : 64 * st = wd := h9.symm
      rw [h9'] at z4
      clear h9 h6
      have h6 : wd ≤ 64 * st := by omega
      have HH6 := Lib.hid h6
      clear h6
      go_enter Tryz.func52, Tryz.ntmps52
      go_wp2_with fail
      go_ret
      exact ⟨by rw [Hf.out]; first | (simp [*]; done) | (simp [*]; omega), rfl⟩
  · have h7 : ¬ q ≤ 64 := fun h => h6 (k1.1 h)
    clear k1 k2 s1 s2
    go_enter Tryz.func52, Tryz.ntmps52
    go_wp2_with fail
    go_ret
    exact ⟨by rw [Hf.out]; first | (simp [*]; done) | (simp [*]; omega), rfl⟩
end Go.Proofs.YtokllgdbmnmieaaGreat
