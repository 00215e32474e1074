/- The closure by which buckets are sorted. -/
import Derived.Test.YtokllgdbmnmieaaGreatFtp
import Derived.Test.YtokllgdbmnmieaaGreatSok
namespace Go.Proofs.YtokllgdbmnmieaaGreat
open Go.RowKit Go.Lib Go.Sort

instance : Inhabited Bk := ⟨⟨0, 0, Ag.zero⟩⟩
theorem alloc2_grow (w : World) (a b : Obj) : (w.alloc a).alloc b = grow (w.drewN 0) (#[a] ++ #[b]) := by
  rw [alloc_eq_grow, alloc_eq_grow, grow_grow]
  rfl
def cmpB (x y : Bk) : Int := cmpI x.lo y.lo

set_option maxHeartbeats 2000000 in
set_option maxRecDepth 100000 in
theorem bcmp_any (x y : Bk) (w : World) : Calls Tryz.prog 77 #[.agg (bkc x).toArray, .agg (bkc y).toArray] w fun e w' => e = .returned (.int .i64 (cmpB x y)) ∧ ∃ q os', w' = grow (w.drewN q) os' := by
  obtain ⟨xl, xh, xa⟩ := x
  obtain ⟨yl, yh, ya⟩ := y
  unfold cmpB bkc
  simp only
  go_enter Tryz.func77, Tryz.ntmps77
  go_wp2_with fail
  refine (compare_int xl yl _).mono ?_
  rintro e w1 ⟨rfl, rfl⟩
  go_wp2_with fail
  go_ret
  exact ⟨rfl, 0, _, alloc2_grow w _ _⟩

theorem ltOf_cmpB (x y : Bk) : ltOf cmpB x y = decide (x.lo < y.lo) := by
  unfold ltOf cmpB cmpI
  split
  · simp; omega
  · split
    · simp; omega
    · simp; omega
theorem cmpB_swo : SWO (ltOf cmpB) := by
  refine ⟨fun x => ?_, fun x y z h1 h2 => ?_, fun x y z h1 h2 => ?_⟩
  · rw [ltOf_cmpB]; simp
  · rw [ltOf_cmpB] at *
    simp only [decide_eq_true_eq] at *
    omega
  · rw [ltOf_cmpB] at *
    simp only [decide_eq_false_iff_not] at *
    omega
theorem bcmp_lays (w : World) (blk off size : Nat) : CmpLays Tryz.prog 77 #[] bkc 13 cmpB blk off size w := by
  intro m os dk _ x y
  exact bcmp_any x y _
end Go.Proofs.YtokllgdbmnmieaaGreat

/-! buckets: isTime; slices.ContainsFunc of points that are odd. -/

namespace Go.Proofs.YtokllgdbmnmieaaGreat
open Go.RowKit Go.Lib Go.Sort

set_option maxHeartbeats 1000000 in
theorem isTime_any (t : Int) (w : World) : Calls Tryz.prog 41 #[.int .i64 t] w fun e w' => e = .returned (.bool (timeB t)) ∧ w = w' := by
  have HE : Hid (timeB t = (decide (-1152921504606846976 ≤ t) && decide (t ≤ 1152921504606846976))) := Lib.hid rfl
  by_cases h1 : -1152921504606846976 ≤ t
  · by_cases h2 : t ≤ 1152921504606846976
    · have HB : Hid (timeB t = true) := Lib.hid (by rw [HE.out]; simp [h1, h2])
      go_enter Tryz.func41, Tryz.ntmps41
      go_wp2_with fail
      go_ret
      rw [HB.out]
      exact ⟨rfl, rfl⟩
    · have HB : Hid (timeB t = false) := Lib.hid (by rw [HE.out]; simp [h1, h2])
      go_enter Tryz.func41, Tryz.ntmps41
      go_wp2_with fail
      go_ret
      rw [HB.out]
      exact ⟨rfl, rfl⟩
  · have HB : Hid (timeB t = false) := Lib.hid (by rw [HE.out]; simp [h1])
    go_enter Tryz.func41, Tryz.ntmps41
    go_wp2_with fail
    go_ret
    rw [HB.out]
    exact ⟨rfl, rfl⟩

set_option maxHeartbeats 1000000 in
theorem odd_any (p : Pt) (w : World) : Calls Tryz.prog 59 #[.agg #[.int .i64 p.t, .int .i64 p.v, .int .i64 p.s]] w fun e w' => e = .returned (.bool (!timeB p.t)) ∧ Ext w w' := by
  obtain ⟨t, v, s⟩ := p
  simp only
  go_enter Tryz.func59, Tryz.ntmps59
  go_wp2_with fail
  refine (isTime_any t _).mono ?_
  rintro e w1 ⟨rfl, rfl⟩
  obtain ⟨b, hb⟩ : ∃ b, b = timeB t := ⟨_, rfl⟩
  rw [← hb]
  have HB := Lib.hid hb
  clear hb
  go_wp2_with fail
  go_ret
  rw [← HB.out]
  exact ⟨rfl, (Ext.refl w).alloc _⟩

set_option maxHeartbeats 2000000 in
set_option maxRecDepth 100000 in
theorem indexOdd (w : World) (a : Option Addr) (n c : Nat) (l : List Pt) (hl : Src w 3 (.slice a n c) n (pts l)) (hn : n < 4611686018427387904) :
    Calls Tryz.prog 102 #[.slice a n c, .func (.func 59) #[] #[]] w fun e w' => ∃ z : Int, e = .returned (.int .i64 z) ∧ decide (0 ≤ z) = l.any (fun p => !timeB p.t) ∧ Ext w w' := by
  have HL := Lib.hid hl
  have HN := Lib.hid (src_len hl)
  clear hl
  go_enter Tryz.func102, Tryz.ntmps102
  go_wp2_with fail
  go_loopw [8] (fun i wr => ∃ k : Nat, k ≤ n ∧ i = .int .i64 k ∧ Hid ((∀ p ∈ l.take k, timeB p.t = true) ∧ Ext w wr)) (fun i _ => n - (RowKit.intOf i).toNat)
  case atStart => exact ⟨0, by omega, rfl, Lib.hid ⟨by simp, Ext.refl _⟩⟩
  case round =>
    obtain ⟨k, hk, rfl, HI⟩ := hrel
    by_cases hlt : k < n
    · obtain ⟨b, off, p, rfl, hp, c0, c1, c2⟩ := pts_src (HL.out.ext HI.out.2) hlt
      have HP := Lib.hid hp
      clear hp
      go_wp2_with fail
      refine (odd_any p _).mono ?_
      rintro e w1 ⟨rfl, hx⟩
      have HX := Lib.hid hx
      clear hx
      cases hb : timeB p.t with
      | true =>
        have HT : Hid (∀ q ∈ l.take (k + 1), timeB q.t = true) := Lib.hid (fun q hq => by
          rw [List.take_add_one, HP.out] at hq
          rcases List.mem_append.1 hq with hq | hq
          · exact HI.out.1 q hq
          · simp at hq; subst hq; exact hb)
        clear hb
        go_wp2_with fail
        go_roundw
        case rel => exact ⟨k + 1, by omega, by go_num, Lib.hid ⟨HT.out, HI.out.2.trans HX.out⟩⟩
        case measure => simp [RowKit.intOf]; omega
      | false =>
        have HT : Hid (l.any (fun p => !timeB p.t) = true) := Lib.hid (by
          rw [List.any_eq_true]
          exact ⟨p, List.mem_of_getElem? HP.out, by simp [hb]⟩)
        clear hb
        go_wp2_with fail
        go_ret
        exact ⟨_, rfl, by rw [HT.out]; simp, HI.out.2.trans HX.out⟩
    · have HT : Hid (l.any (fun p => !timeB p.t) = false) := Lib.hid (by
        rw [List.any_eq_false]
        intro p hp
        rw [HI.out.1 p (by rw [List.take_of_length_le (by have := HN.out; omega)]; exact hp)]
        simp)
      go_wp2_with fail
      go_ret
      exact ⟨_, rfl, by rw [HT.out]; simp, HI.out.2⟩

set_option maxHeartbeats 1000000 in
theorem anyOdd (w : World) (a : Option Addr) (n c : Nat) (l : List Pt) (hl : Src w 3 (.slice a n c) n (pts l)) (hn : n < 4611686018427387904) :
    Calls Tryz.prog 60 #[.slice a n c, .func (.func 59) #[] #[]] w fun e w' => e = .returned (.bool (l.any (fun p => !timeB p.t))) ∧ Ext w w' := by
  have HL := Lib.hid hl
  clear hl
  go_enter Tryz.func60, Tryz.ntmps60
  go_wp2_with fail
  refine (indexOdd w a n c l HL.out hn).mono ?_
  rintro e w1 ⟨z, rfl, hz, hx⟩
  have HZ := Lib.hid (And.intro hz hx)
  clear hz hx
  go_wp2_with fail
  go_ret
  rw [← HZ.out.1]
  exact ⟨rfl, HZ.out.2⟩
end Go.Proofs.YtokllgdbmnmieaaGreat
