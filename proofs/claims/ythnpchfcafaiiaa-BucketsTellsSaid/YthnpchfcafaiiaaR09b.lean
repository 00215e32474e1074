/- The document's windows: tidemillref09.Of where the kind and the time may be. -/
import Derived.Test.YthnpchfcafaiiaaR09
namespace Go.Proofs.Ythnpchfcafaiiaa
open Go.RowKit Go.Lib Go.Sort

/-- The next window has the time, just if it is one of so many. -/
theorem of_step {wd st off t : Int} (h1 : 1 ≤ st) (h2 : st ≤ wd) (h3 : wd ≤ 1099511627776) (h4 : 0 ≤ off) (h5 : off < st) (t1 : -1152921504606846976 ≤ t) (t2 : t ≤ 1152921504606846976) (k : Nat) :
    (k < winN wd st off t ↔ firstF wd st off t + (k : Int) * st ≤ t) ∧ (k ≤ winN wd st off t → firstF wd st off t + (k : Int) * st ≤ t + st) := by
  obtain ⟨b0, b1, b2, b3, _⟩ := first_bnd h1 h2 h3 h4 h5 t1 t2
  have e1 := lastF_eq st off t
  have e2 := firstF_eq wd st off t
  obtain ⟨B, hB⟩ : ∃ B, B = (t - off) / st := ⟨_, rfl⟩
  obtain ⟨A, hA⟩ : ∃ A, A = (t - wd - off) / st := ⟨_, rfl⟩
  rw [← hB] at e1
  rw [← hA] at e2
  have hN : winN wd st off t = (B - A - 1).toNat + 1 := by
    unfold winN
    rw [e1, e2]
    have : ((off + st * B - (off + st * A + st)) : Int) = (B - A - 1) * st := by rw [Int.sub_mul, Int.sub_mul, Int.mul_comm B, Int.mul_comm A]; omega
    rw [this, Int.mul_ediv_cancel _ (by omega)]
  have hAB : A + 1 ≤ B := by
    have h3 : st * (A + 1) < st * (B + 1) := by rw [Int.mul_add, Int.mul_add]; omega
    have := Int.lt_of_mul_lt_mul_left h3 (by omega)
    omega
  have hL : lastF st off t = firstF wd st off t + (B - A - 1) * st := by
    rw [e1, e2, Int.sub_mul, Int.sub_mul, Int.mul_comm B, Int.mul_comm A]; omega
  rw [hN]
  refine ⟨⟨fun h => ?_, fun h => ?_⟩, fun h => ?_⟩
  · have : (k : Int) * st ≤ (B - A - 1) * st := Int.mul_le_mul_of_nonneg_right (by omega) (by omega)
    omega
  · rcases Nat.lt_or_ge k ((B - A - 1).toNat + 1) with h6 | h6
    · exact h6
    · have : (B - A) * st ≤ (k : Int) * st := Int.mul_le_mul_of_nonneg_right (by omega) (by omega)
      rw [Int.sub_mul, Int.one_mul] at hL
      omega
  · have : (k : Int) * st ≤ (B - A) * st := Int.mul_le_mul_of_nonneg_right (by omega) (by omega)
    rw [Int.sub_mul, Int.one_mul] at hL
    omega

set_option maxHeartbeats 2000000 in
set_option maxRecDepth 100000 in
theorem rof09_any (wd st off t : Int) (w : World) (hv : windowB wd st off = true) (ht : timeB t = true) :
    Calls Try.prog 36 #[.int .i64 wd, .int .i64 st, .int .i64 off, .int .i64 t] w fun e w' => ∃ v, e = .returned (.tuple #[v, .int .i64 0]) ∧ MadeTo w 78 2 v (winN wd st off t) (sps (winL wd st off t)) w' := by
  have HV := Lib.hid (window_nums hv)
  have HT := Lib.hid (time_nums ht)
  have HST := Lib.hid (fun k => of_step (wd := wd) (st := st) (off := off) (t := t) HV.out.2.2.1 HV.out.2.2.2.1 HV.out.2.1 HV.out.2.2.2.2.2.1 HV.out.2.2.2.2.2.2 HT.out.1 HT.out.2 k)
  have HFB := Lib.hid (first_bnd (wd := wd) (st := st) (off := off) (t := t) HV.out.2.2.1 HV.out.2.2.2.1 HV.out.2.1 HV.out.2.2.2.2.2.1 HV.out.2.2.2.2.2.2 HT.out.1 HT.out.2)
  have HW := Lib.hid hv
  have HTT := Lib.hid ht
  have HN : Hid (winN wd st off t ≤ 64) := Lib.hid (winN_le hv)
  have HFC := Lib.hid (fun W => rfirst_any wd st off t W HV.out.2.2.1 HV.out.2.2.2.1 HV.out.2.1 HV.out.2.2.2.2.2.1 HV.out.2.2.2.2.2.2 HT.out.1 HT.out.2)
  unfold winL
  obtain ⟨F, hF⟩ : ∃ F, F = firstF wd st off t := ⟨_, rfl⟩
  obtain ⟨N, hN⟩ : ∃ N, N = winN wd st off t := ⟨_, rfl⟩
  simp only [← hF, ← hN] at HST HFB HFC HN
  rw [← hF, ← hN]
  clear hv ht hF hN
  go_enter Try.func36, Try.ntmps36
  go_wp2_with fail
  refine (refWin_any wd st off _).mono ?_
  rw [HW.out]
  rintro e w1 ⟨rfl, rfl⟩
  go_wp2_with fail
  refine (rtime_any t _).mono ?_
  rw [HTT.out]
  rintro e w1 ⟨rfl, rfl⟩
  go_wp2_with fail
  refine (HFC.out _).mono ?_
  rintro e w1 ⟨rfl, rfl⟩
  go_wp2_with fail
  go_loopw [10, 11] (fun s10 s11 wr => ∃ (k vc : Nat) (va : Option Addr) (f : Int), k ≤ N ∧ f = F + (k : Int) * st ∧ s10 = .slice va k vc ∧ s11 = .int .i64 f ∧ Hid (MadeTo w 78 2 (.slice va k vc) k (sps (spansL k F wd st)) wr)) (fun _ s11 _ => (t + 1 + st - RowKit.intOf s11).toNat)
  case atStart => exact ⟨0, 0, none, F, by omega, by omega, rfl, rfl, Lib.hid ⟨Row.nil _ _ _, fun g hg => by simp [Value.ownBlock] at hg, Ext.refl w⟩⟩
  case round =>
    obtain ⟨k, vc, va, f, hk, hf, rfl, rfl, HM⟩ := hrel
    have hst := HST.out k
    rw [← hf] at hst
    have HFF := Lib.hid hf
    have HK := Lib.hid hk
    clear hf
    by_cases hkN : k < N
    · have hft := hst.1.1 hkN
      have hb := HFB.out.1
      have ht := HT.out
      have hv2 := HV.out
      have hfl : F ≤ f := by
        rw [HFF.out]
        have : 0 ≤ (k : Int) * st := Int.mul_nonneg (by omega) (by omega)
        omega
      have g1 : -9223372036854775808 ≤ f + wd := by omega
      have g2 : f + wd ≤ 9223372036854775807 := by omega
      have g3 : -9223372036854775808 ≤ f + st := by omega
      have g4 : f + st ≤ 9223372036854775807 := by omega
      have hk64 : k ≤ 64 := by have := HN.out; omega
      have HFS : Hid (f + st = F + ((k + 1 : Nat) : Int) * st) := Lib.hid (by rw [HFF.out, Int.natCast_add, Int.add_mul]; simp; omega)
      have HME : Hid (f ≤ t ∧ 1 ≤ st) := Lib.hid ⟨hft, by omega⟩
      clear hst hb ht hv2 hfl hk
      go_wp2_with (first | (refine wpList_append_start elem_rspan rfl _ _ rfl rfl rfl (Start.row ((HM.out.row).alloc _) HM.out.own) (HM.out.ext.alloc _) (src_new wr #[.int .i64 f, .int .i64 (f + wd)] 78 2 1 (0, 0) rfl (by simp [Value.oneCell'])) (by omega) (by unfold maxLen; omega) (by omega) ?_; rintro v' w5 ha; obtain ⟨va', vc', rfl⟩ := ha.row.shape; have HA := Lib.hid ha; clear ha))
      refine ⟨⟨k + 1, vc', va', f + st, hkN, HFS.out, rfl, by go_num, Lib.hid ?_⟩, ?_⟩
      · rw [spansL_succ, sps_append, ← HFF.out]; exact HA.out
      · have := HME.out
        simp [RowKit.intOf]; omega
    · have hft : ¬ f ≤ t := fun h => hkN (hst.1.2 h)
      have hkn : k = N := by omega
      clear hst
      go_wp2_with fail
      go_ret2
      refine ⟨_, rfl, ?_⟩
      rw [← hkn]
      exact HM.out
end Go.Proofs.Ythnpchfcafaiiaa
