/- window.times. -/
import Derived.Test.YthnpchfcafaiiaaWoo
import Derived.Test.YthnpchfcafaiiaaZin
namespace Go.Proofs.Ythnpchfcafaiiaa
open Go.RowKit Go.Lib Go.Sort

def timeB (t : Int) : Bool := decide (-1152921504606846976 ≤ t) && decide (t ≤ 1152921504606846976)
theorem zints_one (l : List Int) : ∀ u ∈ zints l, u.oneCell' = true := by
  intro u hu
  obtain ⟨z, _, rfl⟩ := List.mem_map.1 hu
  rfl

set_option maxHeartbeats 2000000 in
set_option maxRecDepth 100000 in
theorem times_any (w : World) (a : Option Addr) (n c : Nat) (l : List Int) (hl : Src w 1 (.slice a n c) n (zints l)) (hn : n < 4611686018427387904) :
    Calls Try.prog 38 #[.slice a n c] w fun e w' => e = .returned (.bool (l.all timeB)) ∧ w = w' := by
  have HL := Lib.hid hl
  have HN := Lib.hid (zints_src_len hl)
  clear hl
  go_enter Try.func38, Try.ntmps38
  go_wp2_with fail
  go_loop [7] (fun i => ∃ k : Nat, k ≤ n ∧ i = .int .i64 k ∧ Hid (∀ z ∈ l.take k, timeB z = true)) (fun i => n - (RowKit.intOf i).toNat)
  case atStart => exact ⟨0, by omega, rfl, Lib.hid (by simp)⟩
  case round =>
    obtain ⟨k, hk, rfl, HI⟩ := hrel
    by_cases hlt : k < n
    · obtain ⟨b, off, z, rfl, hz, z0⟩ := zints_src HL.out hlt
      have HZ := Lib.hid hz
      clear hz
      by_cases hb : timeB z = true
      · have HX : Hid (∀ y ∈ l.take (k + 1), timeB y = true) := Lib.hid (fun y hy => by
          rw [List.take_add_one, HZ.out] at hy
          rcases List.mem_append.1 hy with hy | hy
          · exact HI.out y hy
          · simp at hy; subst hy; exact hb)
        unfold timeB at hb
        simp only [Bool.and_eq_true, decide_eq_true_eq] at hb
        obtain ⟨q1, q2⟩ := hb
        have q1' : ¬ z < -1152921504606846976 := by omega
        have q2' : ¬ 1152921504606846976 < z := by omega
        go_wp2_with fail
        go_round
        case rel => exact ⟨k + 1, by omega, by go_num, HX⟩
        case measure => simp [RowKit.intOf]; omega
      · have HF : Hid (l.all timeB = false) := Lib.hid (by
          rw [List.all_eq_false]
          exact ⟨z, List.mem_of_getElem? HZ.out, hb⟩)
        have hq : z < -1152921504606846976 ∨ (-1152921504606846976 ≤ z ∧ 1152921504606846976 < z) := by
          unfold timeB at hb
          simp only [Bool.and_eq_true, decide_eq_true_eq] at hb
          omega
        clear hb
        rcases hq with hq | ⟨hq0, hq⟩
        · go_wp2_with fail
          go_ret
          rw [HF.out]
          exact ⟨rfl, rfl⟩
        · have hq0' : ¬ z < -1152921504606846976 := by omega
          go_wp2_with fail
          go_ret
          rw [HF.out]
          exact ⟨rfl, rfl⟩
    · have HF : Hid (l.all timeB = true) := Lib.hid (by
        rw [List.all_eq_true]
        intro z hz
        exact HI.out z (by rw [List.take_of_length_le (by have := HN.out; omega)]; exact hz))
      go_wp2_with fail
      go_ret
      rw [HF.out]
      exact ⟨rfl, rfl⟩
end Go.Proofs.Ythnpchfcafaiiaa
