/- buckets: isTime; slices.ContainsFunc of points that are odd. -/
import Derived.Test.YthnpchfcafaiiaaBcm
namespace Go.Proofs.Ythnpchfcafaiiaa
open Go.RowKit Go.Lib Go.Sort

set_option maxHeartbeats 1000000 in
theorem isTime_any (t : Int) (w : World) : Calls Try.prog 14 #[.int .i64 t] w fun e w' => e = .returned (.bool (timeB t)) ∧ w = w' := by
  have HE : Hid (timeB t = (decide (-1152921504606846976 ≤ t) && decide (t ≤ 1152921504606846976))) := Lib.hid rfl
  by_cases h1 : -1152921504606846976 ≤ t
  · by_cases h2 : t ≤ 1152921504606846976
    · have HB : Hid (timeB t = true) := Lib.hid (by rw [HE.out]; simp [h1, h2])
      go_enter Try.func14, Try.ntmps14
      go_wp2_with fail
      go_ret
      rw [HB.out]
      exact ⟨rfl, rfl⟩
    · have HB : Hid (timeB t = false) := Lib.hid (by rw [HE.out]; simp [h1, h2])
      go_enter Try.func14, Try.ntmps14
      go_wp2_with fail
      go_ret
      rw [HB.out]
      exact ⟨rfl, rfl⟩
  · have HB : Hid (timeB t = false) := Lib.hid (by rw [HE.out]; simp [h1])
    go_enter Try.func14, Try.ntmps14
    go_wp2_with fail
    go_ret
    rw [HB.out]
    exact ⟨rfl, rfl⟩

set_option maxHeartbeats 1000000 in
theorem odd_any (p : Pt) (w : World) : Calls Try.prog 13 #[.agg #[.int .i64 p.t, .int .i64 p.v, .int .i64 p.s]] w fun e w' => e = .returned (.bool (!timeB p.t)) ∧ Ext w w' := by
  obtain ⟨t, v, s⟩ := p
  simp only
  go_enter Try.func13, Try.ntmps13
  go_wp2_with fail
  refine (isTime_any t _).mono ?_
  rintro e w1 ⟨rfl, rfl⟩
  obtain ⟨b, hb⟩ : ∃ b, b = timeB t := ⟨_, rfl⟩
  rw [← hb]
  have HB := Lib.hid hb
  clear hb
  go_wp2_with fail
  go_ret
  rw [← HB.out]
  exact ⟨rfl, (Ext.refl w).alloc _⟩

set_option maxHeartbeats 2000000 in
set_option maxRecDepth 100000 in
theorem indexOdd (w : World) (a : Option Addr) (n c : Nat) (l : List Pt) (hl : Src w 3 (.slice a n c) n (pts l)) (hn : n < 4611686018427387904) :
    Calls Try.prog 29 #[.slice a n c, .func (.func 13) #[] #[]] w fun e w' => ∃ z : Int, e = .returned (.int .i64 z) ∧ decide (0 ≤ z) = l.any (fun p => !timeB p.t) ∧ Ext w w' := by
  have HL := Lib.hid hl
  have HN := Lib.hid (src_len hl)
  clear hl
  go_enter Try.func29, Try.ntmps29
  go_wp2_with fail
  go_loopw [8] (fun i wr => ∃ k : Nat, k ≤ n ∧ i = .int .i64 k ∧ Hid ((∀ p ∈ l.take k, timeB p.t = true) ∧ Ext w wr)) (fun i _ => n - (RowKit.intOf i).toNat)
  case atStart => exact ⟨0, by omega, rfl, Lib.hid ⟨by simp, Ext.refl _⟩⟩
  case round =>
    obtain ⟨k, hk, rfl, HI⟩ := hrel
    by_cases hlt : k < n
    · obtain ⟨b, off, p, rfl, hp, c0, c1, c2⟩ := pts_src (HL.out.ext HI.out.2) hlt
      have HP := Lib.hid hp
      clear hp
      go_wp2_with fail
      refine (odd_any p _).mono ?_
      rintro e w1 ⟨rfl, hx⟩
      have HX := Lib.hid hx
      clear hx
      cases hb : timeB p.t with
      | true =>
        have HT : Hid (∀ q ∈ l.take (k + 1), timeB q.t = true) := Lib.hid (fun q hq => by
          rw [List.take_add_one, HP.out] at hq
          rcases List.mem_append.1 hq with hq | hq
          · exact HI.out.1 q hq
          · simp at hq; subst hq; exact hb)
        clear hb
        go_wp2_with fail
        go_roundw
        case rel => exact ⟨k + 1, by omega, by go_num, Lib.hid ⟨HT.out, HI.out.2.trans HX.out⟩⟩
        case measure => simp [RowKit.intOf]; omega
      | false =>
        have HT : Hid (l.any (fun p => !timeB p.t) = true) := Lib.hid (by
          rw [List.any_eq_true]
          exact ⟨p, List.mem_of_getElem? HP.out, by simp [hb]⟩)
        clear hb
        go_wp2_with fail
        go_ret
        exact ⟨_, rfl, by rw [HT.out]; simp, HI.out.2.trans HX.out⟩
    · have HT : Hid (l.any (fun p => !timeB p.t) = false) := Lib.hid (by
        rw [List.any_eq_false]
        intro p hp
        rw [HI.out.1 p (by rw [List.take_of_length_le (by have := HN.out; omega)]; exact hp)]
        simp)
      go_wp2_with fail
      go_ret
      exact ⟨_, rfl, by rw [HT.out]; simp, HI.out.2⟩

set_option maxHeartbeats 1000000 in
theorem anyOdd (w : World) (a : Option Addr) (n c : Nat) (l : List Pt) (hl : Src w 3 (.slice a n c) n (pts l)) (hn : n < 4611686018427387904) :
    Calls Try.prog 16 #[.slice a n c, .func (.func 13) #[] #[]] w fun e w' => e = .returned (.bool (l.any (fun p => !timeB p.t))) ∧ Ext w w' := by
  have HL := Lib.hid hl
  clear hl
  go_enter Try.func16, Try.ntmps16
  go_wp2_with fail
  refine (indexOdd w a n c l HL.out hn).mono ?_
  rintro e w1 ⟨z, rfl, hz, hx⟩
  have HZ := Lib.hid (And.intro hz hx)
  clear hz hx
  go_wp2_with fail
  go_ret
  rw [← HZ.out.1]
  exact ⟨rfl, HZ.out.2⟩
end Go.Proofs.Ythnpchfcafaiiaa
