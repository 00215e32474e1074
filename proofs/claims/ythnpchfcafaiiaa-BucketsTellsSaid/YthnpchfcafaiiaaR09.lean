/- The document's windows: tidemillref09.time, first, Of. -/
import Derived.Test.YthnpchfcafaiiaaRfv
import Derived.Test.YthnpchfcafaiiaaWou
import Derived.Test.YthnpchfcafaiiaaWdp
namespace Go.Proofs.Ythnpchfcafaiiaa
open Go.RowKit Go.Lib Go.Sort

theorem elem_rspan : ElemOk Try.prog 75 78 2 16 :=
  ⟨Try.underlying75, by
    obtain ⟨i0, hi, hz0, hz1, hz2⟩ := info_parts (show (Try.prog.info? 78).map (fun i => (i.zero, i.size, i.bytes)) = some (some (.agg #[.int .i64 0, .int .i64 0]), 2, 16) from by kernel_rfl)
    exact ⟨i0, _, hi, hz0, hz1, hz2, rfl⟩, by decide⟩

set_option maxHeartbeats 1000000 in
theorem rtime_any (t : Int) (w : World) : Calls Try.prog 40 #[.int .i64 t] w fun e w' => e = .returned (.bool (timeB t)) ∧ w = w' := by
  have HE : Hid (timeB t = (decide (-1152921504606846976 ≤ t) && decide (t ≤ 1152921504606846976))) := Lib.hid rfl
  by_cases h1 : -1152921504606846976 ≤ t
  · by_cases h2 : t ≤ 1152921504606846976
    · have HB : Hid (timeB t = true) := Lib.hid (by rw [HE.out]; simp [h1, h2])
      go_enter Try.func40, Try.ntmps40
      go_wp2_with fail
      go_ret
      rw [HB.out]
      exact ⟨rfl, rfl⟩
    · have HB : Hid (timeB t = false) := Lib.hid (by rw [HE.out]; simp [h1, h2])
      go_enter Try.func40, Try.ntmps40
      go_wp2_with fail
      go_ret
      rw [HB.out]
      exact ⟨rfl, rfl⟩
  · have HB : Hid (timeB t = false) := Lib.hid (by rw [HE.out]; simp [h1])
    go_enter Try.func40, Try.ntmps40
    go_wp2_with fail
    go_ret
    rw [HB.out]
    exact ⟨rfl, rfl⟩

/-- On its way back: so many steps behind the first one. -/
theorem first_step {wd st off t f : Int} (h1 : 1 ≤ st) (h2 : st ≤ wd) (hf : ∃ c, f = off + st * c ∧ firstF wd st off t ≤ f ∧ f ≤ lastF st off t) :
    (f = firstF wd st off t ∧ f - st + wd ≤ t) ∨ (t < f - st + wd ∧ ∃ c, f - st = off + st * c ∧ firstF wd st off t ≤ f - st ∧ f - st ≤ lastF st off t) := by
  obtain ⟨c, hc, hlo, hhi⟩ := hf
  have e1 := lastF_eq st off t
  have e2 := firstF_eq wd st off t
  have q3 := Int.mul_ediv_self_le (x := t - wd - off) (k := st) (by omega)
  have q4 := Int.lt_mul_ediv_self_add (x := t - wd - off) (k := st) (by omega)
  obtain ⟨A, hA⟩ : ∃ A, A = (t - wd - off) / st := ⟨_, rfl⟩
  rw [← hA] at e2 q3 q4
  rcases Int.lt_or_le (A + 1) c with h | h
  · right
    have m1 : st * (A + 1) ≤ st * (c - 1) := Int.mul_le_mul_of_nonneg_left (by omega) (by omega)
    rw [Int.mul_add, Int.mul_one, Int.mul_sub, Int.mul_one] at m1
    exact ⟨by omega, c - 1, by rw [Int.mul_sub, Int.mul_one]; omega, by omega, by omega⟩
  · left
    have m1 : st * c ≤ st * (A + 1) := Int.mul_le_mul_of_nonneg_left h (by omega)
    rw [Int.mul_add, Int.mul_one] at m1
    exact ⟨by omega, by omega⟩
theorem first_bnd {wd st off t : Int} (h1 : 1 ≤ st) (h2 : st ≤ wd) (h3 : wd ≤ 1099511627776) (h4 : 0 ≤ off) (h5 : off < st) (t1 : -1152921504606846976 ≤ t) (t2 : t ≤ 1152921504606846976) :
    -2305843009213693952 ≤ firstF wd st off t ∧ firstF wd st off t ≤ lastF st off t ∧ lastF st off t ≤ t ∧ t < lastF st off t + st ∧ ∃ c, lastF st off t = off + st * c := by
  have m0 := Int.emod_nonneg (t - wd - off) (show st ≠ 0 by omega)
  have m1 := Int.emod_lt_of_pos (t - wd - off) (show 0 < st by omega)
  have m2 := Int.emod_nonneg (t - off) (show st ≠ 0 by omega)
  have m3 := Int.emod_lt_of_pos (t - off) (show 0 < st by omega)
  obtain ⟨x, hx⟩ : ∃ x, winN wd st off t = x + 1 := ⟨_, rfl⟩
  have e1 := lastF_eq st off t
  have e2 := firstF_eq wd st off t
  have q1 := Int.mul_ediv_self_le (x := t - off) (k := st) (by omega)
  have q2 := Int.lt_mul_ediv_self_add (x := t - off) (k := st) (by omega)
  have q3 := Int.mul_ediv_self_le (x := t - wd - off) (k := st) (by omega)
  have q4 := Int.lt_mul_ediv_self_add (x := t - wd - off) (k := st) (by omega)
  obtain ⟨B, hB⟩ : ∃ B, B = (t - off) / st := ⟨_, rfl⟩
  obtain ⟨A, hA⟩ : ∃ A, A = (t - wd - off) / st := ⟨_, rfl⟩
  rw [← hB] at e1 q1 q2
  rw [← hA] at e2 q3 q4
  have hAB : A + 1 ≤ B := by
    have h3 : st * (A + 1) < st * (B + 1) := by rw [Int.mul_add, Int.mul_add]; omega
    have := Int.lt_of_mul_lt_mul_left h3 (by omega)
    omega
  have hm : st * (A + 1) ≤ st * B := Int.mul_le_mul_of_nonneg_left hAB (by omega)
  rw [Int.mul_add, Int.mul_one] at hm
  refine ⟨?_, by omega, by omega, by omega, B, e1⟩
  unfold firstF lastF
  omega

set_option maxHeartbeats 2000000 in
set_option maxRecDepth 100000 in
theorem rfirst_any (wd st off t : Int) (w : World) (h1 : 1 ≤ st) (h2 : st ≤ wd) (h3 : wd ≤ 1099511627776) (h4 : 0 ≤ off) (h5 : off < st) (t1 : -1152921504606846976 ≤ t) (t2 : t ≤ 1152921504606846976) :
    Calls Try.prog 56 #[.int .i64 wd, .int .i64 st, .int .i64 off, .int .i64 t] w fun e w' => e = .returned (.int .i64 (firstF wd st off t)) ∧ w = w' := by
  have HB := Lib.hid (first_bnd h1 h2 h3 h4 h5 t1 t2)
  have HS := Lib.hid (fun f hf => first_step (wd := wd) (off := off) (t := t) (f := f) h1 h2 hf)
  have hm0 := Int.emod_nonneg (t - off) (show st ≠ 0 by omega)
  have hm1 := Int.emod_lt_of_pos (t - off) (show 0 < st by omega)
  have HL : Hid (t - (t - off) % st = lastF st off t) := Lib.hid rfl
  obtain ⟨F, hF⟩ : ∃ F, F = firstF wd st off t := ⟨_, rfl⟩
  obtain ⟨L, hL⟩ : ∃ L, L = lastF st off t := ⟨_, rfl⟩
  rw [← hF, ← hL] at HB HS
  rw [← hL] at HL
  rw [← hF]
  clear hF hL
  go_enter Try.func56, Try.ntmps56
  go_wp2_with fail
  refine (refMod_any (t - off) st _ h1 (by omega) (by omega) (by omega)).mono ?_
  rintro e w1 ⟨rfl, rfl⟩
  obtain ⟨m, hm⟩ : ∃ m, m = (t - off) % st := ⟨_, rfl⟩
  rw [← hm] at hm0 hm1 HL ⊢
  clear hm
  go_wp2_with fail
  rw [HL.out]
  go_loop [11] (fun s11 => ∃ f : Int, s11 = .int .i64 f ∧ Hid (∃ c, f = off + st * c ∧ F ≤ f ∧ f ≤ L)) (fun s11 => (RowKit.intOf s11 - F).toNat)
  case atStart => exact ⟨L, rfl, Lib.hid (by obtain ⟨c, hc⟩ := HB.out.2.2.2.2; exact ⟨c, hc, HB.out.2.1, Int.le_refl _⟩)⟩
  case round =>
    obtain ⟨f, rfl, HI⟩ := hrel
    have hb1 : F ≤ f := by obtain ⟨c, _, h, _⟩ := HI.out; exact h
    have hb2 : f ≤ L := by obtain ⟨c, _, _, h⟩ := HI.out; exact h
    have hb3 := HB.out.1
    have hb4 := HB.out.2.2.1
    rcases HS.out f HI.out with ⟨hf, hx⟩ | ⟨hx, hc⟩
    · go_wp2_with fail
      go_ret
      exact ⟨by rw [← hf]; rfl, rfl⟩
    · have HC := Lib.hid hc
      have hb5 : F ≤ f - st := by obtain ⟨c, _, h, _⟩ := hc; exact h
      clear hc
      go_wp2_with fail
      go_round
      case rel => exact ⟨f - st, rfl, HC⟩
      case measure => simp [RowKit.intOf]; omega
end Go.Proofs.Ythnpchfcafaiiaa
