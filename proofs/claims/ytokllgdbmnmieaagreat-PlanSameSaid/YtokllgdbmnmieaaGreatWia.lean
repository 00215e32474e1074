/- window.from, window.Of. -/
import Derived.Test.YtokllgdbmnmieaaGreatWop
import Derived.Test.YtokllgdbmnmieaaGreatPlan
import Derived.Test.YtokllgdbmnmieaaGreatU8
namespace Go.Proofs.YtokllgdbmnmieaaGreat
open Go.RowKit Go.Lib Go.Sort

set_option maxHeartbeats 4000000 in
set_option maxRecDepth 100000 in
theorem from_any (n : Nat) (a wd st off : Int) (w : World) (hn : n ≤ 70000) (hst : 1 ≤ st) (hst2 : st ≤ 1099511627776) (hwd : 1 ≤ wd) (hwd2 : wd ≤ 1099511627776) (ha1 : -2305843009213693952 ≤ a) (ha2 : a ≤ 2305843009213693952) :
    Calls Tryz.prog 87 #[.agg #[.int .i64 wd, .int .i64 st, .int .i64 off], .int .i64 a, .int .i64 (n : Int)] w fun e w' => ∃ v, e = .returned v ∧ MadeTo w 124 2 v n (sps (spansL n a wd st)) w' := by
  go_enter Tryz.func87, Tryz.ntmps87
  go_wp2_with fail
  refine (list_any n a wd st off (w.heap.size + 1) w.heap.size _ (by simp) (by
    have h0 := heap_alloc_new w (.cells #[.int .i64 wd, .int .i64 st, .int .i64 off] 67 (0, 0))
    exact (((Ext.refl (w.alloc (.cells #[.int .i64 wd, .int .i64 st, .int .i64 off] 67 (0, 0)))).alloc _).block (block_lt h0)).trans h0) hn hst hst2 hwd hwd2 ha1 ha2).mono ?_
  rintro e w2 ⟨v, rfl, hm⟩
  have HM := Lib.hid hm
  obtain ⟨va, vc, rfl⟩ := hm.row.shape
  clear hm
  go_wp2_with fail
  go_ret
  exact ⟨_, rfl, ⟨HM.out.row, fun g hg => by have h1 := HM.out.own g hg; simp at h1; omega, (((Ext.refl w).alloc _).alloc _).trans HM.out.ext⟩⟩
end Go.Proofs.YtokllgdbmnmieaaGreat

/-! window.times. -/

namespace Go.Proofs.YtokllgdbmnmieaaGreat
open Go.RowKit Go.Lib Go.Sort

def timeB (t : Int) : Bool := decide (-1152921504606846976 ≤ t) && decide (t ≤ 1152921504606846976)
theorem zints_one (l : List Int) : ∀ u ∈ zints l, u.oneCell' = true := by
  intro u hu
  obtain ⟨z, _, rfl⟩ := List.mem_map.1 hu
  rfl

set_option maxHeartbeats 2000000 in
set_option maxRecDepth 100000 in
theorem times_any (w : World) (a : Option Addr) (n c : Nat) (l : List Int) (hl : Src w 1 (.slice a n c) n (zints l)) (hn : n < 4611686018427387904) :
    Calls Tryz.prog 84 #[.slice a n c] w fun e w' => e = .returned (.bool (l.all timeB)) ∧ w = w' := by
  have HL := Lib.hid hl
  have HN := Lib.hid (zints_src_len hl)
  clear hl
  go_enter Tryz.func84, Tryz.ntmps84
  go_wp2_with fail
  go_loop [7] (fun i => ∃ k : Nat, k ≤ n ∧ i = .int .i64 k ∧ Hid (∀ z ∈ l.take k, timeB z = true)) (fun i => n - (RowKit.intOf i).toNat)
  case atStart => exact ⟨0, by omega, rfl, Lib.hid (by simp)⟩
  case round =>
    obtain ⟨k, hk, rfl, HI⟩ := hrel
    by_cases hlt : k < n
    · obtain ⟨b, off, z, rfl, hz, z0⟩ := zints_src HL.out hlt
      have HZ := Lib.hid hz
      clear hz
      by_cases hb : timeB z = true
      · have HX : Hid (∀ y ∈ l.take (k + 1), timeB y = true) := Lib.hid (fun y hy => by
          rw [List.take_add_one, HZ.out] at hy
          rcases List.mem_append.1 hy with hy | hy
          · exact HI.out y hy
          · simp at hy; subst hy; exact hb)
        unfold timeB at hb
        simp only [Bool.and_eq_true, decide_eq_true_eq] at hb
        obtain ⟨q1, q2⟩ := hb
        have q1' : ¬ z < -1152921504606846976 := by omega
        have q2' : ¬ 1152921504606846976 < z := by omega
        go_wp2_with fail
        go_round
        case rel => exact ⟨k + 1, by omega, by go_num, HX⟩
        case measure => simp [RowKit.intOf]; omega
      · have HF : Hid (l.all timeB = false) := Lib.hid (by
          rw [List.all_eq_false]
          exact ⟨z, List.mem_of_getElem? HZ.out, hb⟩)
        have hq : z < -1152921504606846976 ∨ (-1152921504606846976 ≤ z ∧ 1152921504606846976 < z) := by
          unfold timeB at hb
          simp only [Bool.and_eq_true, decide_eq_true_eq] at hb
          omega
        clear hb
        rcases hq with hq | ⟨hq0, hq⟩
        · go_wp2_with fail
          go_ret
          rw [HF.out]
          exact ⟨rfl, rfl⟩
        · have hq0' : ¬ z < -1152921504606846976 := by omega
          go_wp2_with fail
          go_ret
          rw [HF.out]
          exact ⟨rfl, rfl⟩
    · have HF : Hid (l.all timeB = true) := Lib.hid (by
        rw [List.all_eq_true]
        intro z hz
        exact HI.out z (by rw [List.take_of_length_le (by have := HN.out; omega)]; exact hz))
      go_wp2_with fail
      go_ret
      rw [HF.out]
      exact ⟨rfl, rfl⟩
end Go.Proofs.YtokllgdbmnmieaaGreat

/-! window.Of where the kind and the time may be. -/

namespace Go.Proofs.YtokllgdbmnmieaaGreat
open Go.RowKit Go.Lib Go.Sort

/-- The windows that have a time. -/
def winN (wd st off t : Int) : Nat := ((lastF st off t - firstF wd st off t) / st).toNat + 1
def winL (wd st off t : Int) : List (Int × Int) := spansL (winN wd st off t) (firstF wd st off t) wd st

theorem window_nums {wd st off : Int} (h : windowB wd st off = true) : 1 ≤ wd ∧ wd ≤ 1099511627776 ∧ 1 ≤ st ∧ st ≤ wd ∧ wd ≤ 64 * st ∧ 0 ≤ off ∧ off < st := by
  unfold windowB at h
  simp only [Bool.and_eq_true, decide_eq_true_eq] at h
  omega
theorem time_nums {t : Int} (h : timeB t = true) : -1152921504606846976 ≤ t ∧ t ≤ 1152921504606846976 := by
  unfold timeB at h
  simp only [Bool.and_eq_true, decide_eq_true_eq] at h
  exact h

set_option maxHeartbeats 8000000 in
set_option maxRecDepth 100000 in
theorem of_any (wd st off t : Int) (w : World) (hv : windowB wd st off = true) (ht : timeB t = true) :
    Calls Tryz.prog 73 #[.agg #[.int .i64 wd, .int .i64 st, .int .i64 off], .int .i64 t] w fun e w' => ∃ v, e = .returned (.tuple #[v, .int .i64 0]) ∧ MadeTo w 124 2 v (winN wd st off t) (sps (winL wd st off t)) w' := by
  have HV := Lib.hid hv
  have HT := Lib.hid ht
  clear hv ht
  go_enter Tryz.func73, Tryz.ntmps73
  go_wp2_with fail
  refine (windowValid_any wd st off _).mono ?_
  rw [HV.out]
  rintro e w1 ⟨rfl, hx1⟩
  have HX1 := Lib.hid hx1
  clear hx1
  go_wp2_with fail
  refine (times_any _ _ 1 1 [t] (by have := src_new w1 #[.int .i64 t] 3 1 1 (0, 0) rfl (by simp [Value.oneCell']); simpa [zints] using this) (by omega)).mono ?_
  rintro e w2 ⟨rfl, rfl⟩
  rw [show [t].all timeB = true by simp [HT.out]]
  go_wp2_with fail
  generalize hW : World.alloc _ _ = W
  have HB : Hid (W.heap[w.heap.size]? = some (.cells #[.int .i64 wd, .int .i64 st, .int .i64 off] 67 (0, 0))) := Lib.hid (by subst hW; exact (((HX1.out).alloc _).block (block_lt (heap_alloc_new w _))).trans (heap_alloc_new w _))
  have HXW : Hid (Ext w W) := Lib.hid (by subst hW; exact ((Ext.refl w).alloc _).trans (HX1.out.alloc _))
  clear hW HX1
  obtain ⟨A, hA⟩ : ∃ A, A = firstF wd st off t := ⟨_, rfl⟩
  obtain ⟨B, hB⟩ : ∃ B, B = lastF st off t := ⟨_, rfl⟩
  have HFL : Hid (A = firstF wd st off t ∧ B = lastF st off t) := Lib.hid ⟨hA, hB⟩
  clear hA hB
  have HV' := Lib.hid (window_nums HV.out)
  have HT' := Lib.hid (time_nums HT.out)
  have r0 := cell_regrown (show W.cell? ⟨w.heap.size, 0, none⟩ = some (.int .i64 wd) by have := cell_of_block HB.out 0; simpa using this)
  have r1 := cell_regrown (show W.cell? ⟨w.heap.size, 1, none⟩ = some (.int .i64 st) by have := cell_of_block HB.out 1; simpa using this)
  have r2 := cell_regrown (show W.cell? ⟨w.heap.size, 2, none⟩ = some (.int .i64 off) by have := cell_of_block HB.out 2; simpa using this)
  have HC : Hid (∀ (d : Nat) (os : Array Obj), Calls Tryz.prog 85 #[.agg #[.int .i64 wd, .int .i64 st, .int .i64 off], .int .i64 t] (grow (redrawn W d) os) fun e w'' => e = .returned (.int .i64 A) ∧ ∃ p : Regrown, w'' = grow (redrawn W p.d) p.os) := Lib.hid (fun d os => Calls.grown_of (by
    rw [HFL.out.1]
    have := HV'.out
    exact first_any wd st off t _ (by omega) (by omega) (by omega) (by omega) (by omega) (by omega) HT'.out.1 HT'.out.2))
  have HD : Hid (∀ (d : Nat) (os : Array Obj), Calls Tryz.prog 86 #[.agg #[.int .i64 wd, .int .i64 st, .int .i64 off], .int .i64 t] (grow (redrawn W d) os) fun e w'' => e = .returned (.int .i64 B) ∧ ∃ p : Regrown, w'' = grow (redrawn W p.d) p.os) := Lib.hid (fun d os => Calls.grown_of (by
    rw [HFL.out.2]
    have := HV'.out
    have := HT'.out
    exact last_any wd st off t _ (by omega) (by omega) (by omega) (by omega) (by omega) (by omega)))
  refine wp_region_quiet_below (by kernel_rfl) (by kernel_rfl) ?_
  repeat (go_big_quiet_step (first | (go_at_call 86; exact HD.out _ _) | (go_at_call 85; exact HC.out _ _)))
  refine wpQuiet_nil ?_
  intro _ hw'
  obtain ⟨pr, rfl⟩ := hw'
  generalize hW4 : grow _ _ = W4
  have HX4 : Hid (Ext W W4) := Lib.hid (by subst hW4; exact Ext.regrown _ _ _)
  clear hW4 r0 r1 r2
  have HB4 : Hid (W4.heap[w.heap.size]? = some (.cells #[.int .i64 wd, .int .i64 st, .int .i64 off] 67 (0, 0))) := Lib.hid ((HX4.out.block (block_lt HB.out)).trans HB.out)
  have HXZ := Lib.hid (HXW.out.trans HX4.out)
  clear HXW HX4 HC HD HB
  obtain ⟨q, hq, hq63⟩ := win_count (wd := wd) (st := st) (off := off) (t := t) HV'.out.2.2.1 HV'.out.2.2.2.1 HV'.out.2.2.2.2.1
  have HQ : Hid (B - A = (q : Int) * st ∧ q ≤ 63) := Lib.hid ⟨by rw [HFL.out.1, HFL.out.2]; exact hq, hq63⟩
  clear hq hq63
  have HAB : Hid (-2305843009213693952 ≤ A ∧ A ≤ 2305843009213693952 ∧ -2305843009213693952 ≤ B ∧ B ≤ 2305843009213693952) := Lib.hid (by
    rw [HFL.out.1, HFL.out.2]
    have h1 := HV'.out
    have h2 := HT'.out
    have m0 := Int.emod_nonneg (t - wd - off) (show st ≠ 0 by omega)
    have m1 := Int.emod_lt_of_pos (t - wd - off) (show 0 < st by omega)
    have m2 := Int.emod_nonneg (t - off) (show st ≠ 0 by omega)
    have m3 := Int.emod_lt_of_pos (t - off) (show 0 < st by omega)
    unfold firstF lastF
    omega)
  have f0 := cell_turned (T := fun _ => false) (show W4.cell? ⟨w.heap.size, 0, none⟩ = some (.int .i64 wd) by have := cell_of_block HB4.out 0; simpa using this) rfl
  have f1 := cell_turned (T := fun _ => false) (show W4.cell? ⟨w.heap.size, 1, none⟩ = some (.int .i64 st) by have := cell_of_block HB4.out 1; simpa using this) rfl
  have f2 := cell_turned (T := fun _ => false) (show W4.cell? ⟨w.heap.size, 2, none⟩ = some (.int .i64 off) by have := cell_of_block HB4.out 2; simpa using this) rfl
  have e1 : IntKind.i64.wrap (B - A) = B - A := IntWalk.i64_in _ (by have := HAB.out; omega)
  have hst0 : ¬ st = 0 := by have := HV'.out; omega
  go_wp2_with fail
  refine wp_region_plan 9 (fun w' => ∃ p : Turned, w' = turned W4 (fun _ => false) p.d p.f p.os) (.reads [0, 1, 2, 3, 4, 5, 6, 7, 8] (.one 9 (.one 10 (.one 11 .done)))) (by kernel_rfl) (by kernel_rfl) (fun _ _ dd _ _ hh => by cases dd <;> exact hh) ?_ ?_
  · exact turned_of_ext (Ext.drewN W4 1)
  refine wpPlan_reads ?_
  simp only [pickOps, List.getElem?_cons_succ, List.getElem?_cons_zero]
  repeat (go_big_quiet_step (fail))
  refine wpQuiet_nil ?_
  refine wpPlan_one ?_
  simp only [pickOps, List.getElem?_cons_succ, List.getElem?_cons_zero]
  clear f0 f1 f2
  go_wp2_with fail
  have e2 : wrap64 ((B - A).tdiv st) = (q : Int) := by
    rw [HQ.out.1, Int.mul_tdiv_cancel _ hst0]
    exact IntWalk.wrap64_in (q : Int) (by have := HQ.out.2; omega)
  have e3 : wrap64 (wrap64 ((B - A).tdiv st) + 1) = ((q + 1 : Nat) : Int) := by
    rw [e2]; exact IntWalk.wrap64_in _ (by have := HQ.out.2; omega)
  rw [e3]
  refine (from_any (q + 1) A wd st off _ (by have := HQ.out.2; omega) (by have := HV'.out; omega) (by have := HV'.out; omega) (by have := HV'.out; omega) (by have := HV'.out; omega) HAB.out.1 HAB.out.2.1).mono ?_
  rintro e w5 ⟨v, rfl, hm⟩
  obtain ⟨va, vc, rfl⟩ := hm.row.shape
  have HM := Lib.hid hm
  clear hm e2 e3
  go_wp2_with fail
  refine thenX_last (wpPlan_one ?_)
  simp only [pickOps, List.getElem?_cons_succ, List.getElem?_cons_zero]
  go_wp2_with fail
  refine thenX_last (wpPlan_one ?_)
  simp only [pickOps, List.getElem?_cons_succ, List.getElem?_cons_zero]
  go_wp2_with fail
  refine thenX_last (wpPlan_done ?_)
  go_wp2_with fail
  have HN : winN wd st off t = q + 1 := by
    unfold winN
    rw [← HFL.out.1, ← HFL.out.2, HQ.out.1, Int.mul_ediv_cancel _ hst0]
    rfl
  go_ret2
  refine ⟨_, rfl, ?_⟩
  unfold winL
  rw [HN, ← HFL.out.1]
  exact ⟨HM.out.row, fun g hg => by have h1 := HM.out.own g hg; have h2 := HXZ.out.size; simp at h1; omega, (HXZ.out.trans (Ext.drewN W4 1)).trans HM.out.ext⟩
end Go.Proofs.YtokllgdbmnmieaaGreat

/-! window.All where the kind and the span may be, and the windows are not too many. -/

namespace Go.Proofs.YtokllgdbmnmieaaGreat
open Go.RowKit Go.Lib Go.Sort

/-- The windows that have a time of a span. -/
def allN (wd st off fr to : Int) : Nat := if fr = to then 0 else ((lastF st off (to - 1) - firstF wd st off fr) / st).toNat + 1
def allW (wd st off fr to : Int) : List (Int × Int) := spansL (allN wd st off fr to) (firstF wd st off fr) wd st

theorem all_count {wd st off fr to : Int} (hv : windowB wd st off = true) (h : fr < to) : ∃ q : Nat, lastF st off (to - 1) - firstF wd st off fr = q * st ∧ allN wd st off fr to = q + 1 ∧ (q : Int) ≤ to - fr + 63 := by
  obtain ⟨v1, v2, v3, v4, v5, v6, v7⟩ := window_nums hv
  obtain ⟨q1, hq1, hq2⟩ := win_count (wd := wd) (st := st) (off := off) (t := fr) v3 v4 v5
  have e1 := lastF_eq st off fr
  have e2 := lastF_eq st off (to - 1)
  have hle : (fr - off) / st ≤ (to - 1 - off) / st := Int.ediv_le_ediv (by omega) (by omega)
  obtain ⟨q2, hq3⟩ := Int.eq_ofNat_of_zero_le (show 0 ≤ (to - 1 - off) / st - (fr - off) / st by omega)
  have e3 : lastF st off (to - 1) - lastF st off fr = q2 * st := by
    rw [e1, e2, ← hq3, Int.sub_mul, Int.mul_comm _ st, Int.mul_comm _ st]; omega
  have e4 : lastF st off (to - 1) - firstF wd st off fr = ((q1 + q2 : Nat) : Int) * st := by rw [Int.natCast_add, Int.add_mul]; omega
  refine ⟨q1 + q2, e4, ?_, ?_⟩
  · unfold allN
    rw [if_neg (by omega), e4, Int.mul_ediv_cancel _ (by omega)]
    rfl
  · have m0 := Int.emod_nonneg (to - 1 - off) (show st ≠ 0 by omega)
    have m1 := Int.emod_nonneg (fr - off) (show st ≠ 0 by omega)
    have m2 := Int.emod_lt_of_pos (fr - off) (show 0 < st by omega)
    have d1 := Int.mul_ediv_add_emod (to - 1 - off) st
    have d2 := Int.mul_ediv_add_emod (fr - off) st
    have h5 : (q2 : Int) * 1 ≤ (q2 : Int) * st := Int.mul_le_mul_of_nonneg_left v3 (by omega)
    have h6 : (q2 : Int) ≤ to - fr := by
      rcases Int.lt_or_le (to - fr) (q2 : Int) with h7 | h7
      · exfalso
        have h8 : (q2 : Int) * st = st * ((to - 1 - off) / st) - st * ((fr - off) / st) := by rw [← hq3, Int.sub_mul, Int.mul_comm _ st, Int.mul_comm _ st]
        have h9 : (to - fr + 1) * st ≤ (q2 : Int) * st := Int.mul_le_mul_of_nonneg_right (by omega) (by omega)
        have h10 : (to - fr) * 1 ≤ (to - fr) * st := Int.mul_le_mul_of_nonneg_left v3 (by omega)
        rw [Int.add_mul, Int.one_mul] at h9
        omega
      · exact h7
    omega

set_option maxHeartbeats 8000000 in
set_option maxRecDepth 100000 in
theorem wall_any (wd st off fr to : Int) (w : World) (hv : windowB wd st off = true) (h1 : timeB fr = true) (h2 : timeB to = true) (h3 : fr ≤ to) (hn : allN wd st off fr to ≤ 65536) :
    Calls Tryz.prog 46 #[.agg #[.int .i64 wd, .int .i64 st, .int .i64 off], .agg #[.int .i64 fr, .int .i64 to]] w fun e w' => ∃ v, e = .returned (.tuple #[v, .int .i64 0]) ∧ MadeTo w 124 2 v (allN wd st off fr to) (sps (allW wd st off fr to)) w' := by
  have HV := Lib.hid hv
  have HT1 := Lib.hid h1
  have HT2 := Lib.hid h2
  have HN := Lib.hid hn
  clear hv h1 h2 hn
  rcases Int.lt_or_eq_of_le h3 with hlt | heq
  · have HV' := Lib.hid (window_nums HV.out)
    have HT' := Lib.hid (And.intro (time_nums HT1.out) (time_nums HT2.out))
    obtain ⟨q, hq1, hq2, _⟩ := all_count HV.out hlt
    have HQ := Lib.hid (And.intro hq1 (And.intro hq2 (show q ≤ 65535 by have := HN.out; omega)))
    clear hq1 hq2
    have hne : (fr == to) = false := beq_eq_false_iff_ne.2 (by omega)
    have hgt : ¬ to < fr := by omega
    clear h3
    go_enter Tryz.func46, Tryz.ntmps46
    go_wp2_with fail
    refine (windowValid_any wd st off _).mono ?_
    rw [HV.out]
    rintro e w1 ⟨rfl, hx1⟩
    have HX1 := Lib.hid ((((Ext.refl w).alloc _).alloc _).trans hx1)
    have HB1 : Hid (w1.heap[w.heap.size]? = some (.cells #[.int .i64 wd, .int .i64 st, .int .i64 off] 67 (0, 0))) := Lib.hid (by
      have h0 := heap_alloc_new w (.cells #[.int .i64 wd, .int .i64 st, .int .i64 off] 67 (0, 0))
      exact ((((Ext.refl _).alloc _).trans hx1).block (block_lt h0)).trans h0)
    have HB2 : Hid (w1.heap[w.heap.size + 1]? = some (.cells #[.int .i64 fr, .int .i64 to] 124 (0, 0))) := Lib.hid (by
      have h0 := heap_alloc2 w (.cells #[.int .i64 wd, .int .i64 st, .int .i64 off] 67 (0, 0)) (.cells #[.int .i64 fr, .int .i64 to] 124 (0, 0))
      exact (hx1.block (block_lt h0)).trans h0)
    clear hx1
    have s0 : w1.cell? ⟨w.heap.size + 1, 0, none⟩ = some (.int .i64 fr) := by have := cell_of_block HB2.out 0; simpa using this
    have s1 : w1.cell? ⟨w.heap.size + 1, 1, none⟩ = some (.int .i64 to) := by have := cell_of_block HB2.out 1; simpa using this
    go_wp2_with fail
    refine (times_any _ _ 2 2 [fr, to] (by have := src_new w1 #[.int .i64 fr, .int .i64 to] 3 1 2 (0, 0) rfl (by simp [Value.oneCell']); simpa [zints] using this) (by omega)).mono ?_
    rintro e w2 ⟨rfl, rfl⟩
    rw [show [fr, to].all timeB = true by simp [HT1.out, HT2.out]]
    generalize hW : World.alloc _ _ = W
    have HXW : Hid (Ext w W) := Lib.hid (by subst hW; exact HX1.out.alloc _)
    have HC1 : Hid (W.heap[w.heap.size]? = some (.cells #[.int .i64 wd, .int .i64 st, .int .i64 off] 67 (0, 0))) := Lib.hid (by subst hW; exact (((Ext.refl _).alloc _).block (block_lt HB1.out)).trans HB1.out)
    have HC2 : Hid (W.heap[w.heap.size + 1]? = some (.cells #[.int .i64 fr, .int .i64 to] 124 (0, 0))) := Lib.hid (by subst hW; exact (((Ext.refl _).alloc _).block (block_lt HB2.out)).trans HB2.out)
    clear hW HX1 HB1 HB2 s0 s1
    have s0 : W.cell? ⟨w.heap.size + 1, 0, none⟩ = some (.int .i64 fr) := by have := cell_of_block HC2.out 0; simpa using this
    have s1 : W.cell? ⟨w.heap.size + 1, 1, none⟩ = some (.int .i64 to) := by have := cell_of_block HC2.out 1; simpa using this
    go_wp2_with fail
    clear s0 s1
    obtain ⟨A, hA⟩ : ∃ A, A = firstF wd st off fr := ⟨_, rfl⟩
    obtain ⟨B, hB⟩ : ∃ B, B = lastF st off (to - 1) := ⟨_, rfl⟩
    have HFL : Hid (A = firstF wd st off fr ∧ B = lastF st off (to - 1)) := Lib.hid ⟨hA, hB⟩
    clear hA hB
    have r0 := cell_regrown (show W.cell? ⟨w.heap.size, 0, none⟩ = some (.int .i64 wd) by have := cell_of_block HC1.out 0; simpa using this)
    have r1 := cell_regrown (show W.cell? ⟨w.heap.size, 1, none⟩ = some (.int .i64 st) by have := cell_of_block HC1.out 1; simpa using this)
    have r2 := cell_regrown (show W.cell? ⟨w.heap.size, 2, none⟩ = some (.int .i64 off) by have := cell_of_block HC1.out 2; simpa using this)
    have r3 := cell_regrown (show W.cell? ⟨w.heap.size + 1, 0, none⟩ = some (.int .i64 fr) by have := cell_of_block HC2.out 0; simpa using this)
    have r4 := cell_regrown (show W.cell? ⟨w.heap.size + 1, 1, none⟩ = some (.int .i64 to) by have := cell_of_block HC2.out 1; simpa using this)
    have e1 : IntKind.i64.wrap (to - 1) = to - 1 := IntWalk.i64_in _ (by have := HT'.out; omega)
    have HC : Hid (∀ (d : Nat) (os : Array Obj), Calls Tryz.prog 85 #[.agg #[.int .i64 wd, .int .i64 st, .int .i64 off], .int .i64 fr] (grow (redrawn W d) os) fun e w'' => e = .returned (.int .i64 A) ∧ ∃ p : Regrown, w'' = grow (redrawn W p.d) p.os) := Lib.hid (fun d os => Calls.grown_of (by
      rw [HFL.out.1]
      have := HV'.out
      exact first_any wd st off fr _ (by omega) (by omega) (by omega) (by omega) (by omega) (by omega) HT'.out.1.1 HT'.out.1.2))
    have HD : Hid (∀ (d : Nat) (os : Array Obj), Calls Tryz.prog 86 #[.agg #[.int .i64 wd, .int .i64 st, .int .i64 off], .int .i64 (to - 1)] (grow (redrawn W d) os) fun e w'' => e = .returned (.int .i64 B) ∧ ∃ p : Regrown, w'' = grow (redrawn W p.d) p.os) := Lib.hid (fun d os => Calls.grown_of (by
      rw [HFL.out.2]
      have := HV'.out
      have := HT'.out
      exact last_any wd st off (to - 1) _ (by omega) (by omega) (by omega) (by omega) (by omega) (by omega)))
    refine wp_region_quiet_below (by kernel_rfl) (by kernel_rfl) ?_
    repeat (go_big_quiet_step (first | (go_at_call 86; exact HD.out _ _) | (go_at_call 85; exact HC.out _ _)))
    refine wpQuiet_nil ?_
    intro _ hw'
    obtain ⟨pr, rfl⟩ := hw'
    generalize hW4 : grow _ _ = W4
    have HX4 : Hid (Ext W W4) := Lib.hid (by subst hW4; exact Ext.regrown _ _ _)
    clear hW4 r0 r1 r2 r3 r4 HC HD
    have HB4 : Hid (W4.heap[w.heap.size]? = some (.cells #[.int .i64 wd, .int .i64 st, .int .i64 off] 67 (0, 0))) := Lib.hid ((HX4.out.block (block_lt HC1.out)).trans HC1.out)
    have HXZ := Lib.hid (HXW.out.trans HX4.out)
    clear HXW HX4 HC1 HC2
    have HAB : Hid (-2305843009213693952 ≤ A ∧ A ≤ 2305843009213693952 ∧ -2305843009213693952 ≤ B ∧ B ≤ 2305843009213693952) := Lib.hid (by
      rw [HFL.out.1, HFL.out.2]
      have h1 := HV'.out
      have h2 := HT'.out
      have m0 := Int.emod_nonneg (fr - wd - off) (show st ≠ 0 by omega)
      have m1 := Int.emod_lt_of_pos (fr - wd - off) (show 0 < st by omega)
      have m2 := Int.emod_nonneg (to - 1 - off) (show st ≠ 0 by omega)
      have m3 := Int.emod_lt_of_pos (to - 1 - off) (show 0 < st by omega)
      unfold firstF lastF
      omega)
    have f0 : W4.cell? ⟨w.heap.size, 0, none⟩ = some (.int .i64 wd) := by have := cell_of_block HB4.out 0; simpa using this
    have f1 : W4.cell? ⟨w.heap.size, 1, none⟩ = some (.int .i64 st) := by have := cell_of_block HB4.out 1; simpa using this
    have f2 : W4.cell? ⟨w.heap.size, 2, none⟩ = some (.int .i64 off) := by have := cell_of_block HB4.out 2; simpa using this
    have e2 : IntKind.i64.wrap (B - A) = B - A := IntWalk.i64_in _ (by have := HAB.out; omega)
    have hst0 : ¬ st = 0 := by have := HV'.out; omega
    have hq65 : q ≤ 65535 := HQ.out.2.2
    have e3 : wrap64 ((B - A).tdiv st) = (q : Int) := by
      rw [HFL.out.1, HFL.out.2, HQ.out.1, Int.mul_tdiv_cancel _ hst0]
      exact IntWalk.wrap64_in (q : Int) (by omega)
    obtain ⟨m, hm1⟩ : ∃ m : Nat, m = q + 1 := ⟨_, rfl⟩
    have e4 : wrap64 ((q : Int) + 1) = (m : Int) := by rw [hm1]; exact IntWalk.wrap64_in _ (by omega)
    have hm65 : m ≤ 65536 := by omega
    have HM1 := Lib.hid hm1
    clear hm1 hq65
    go_wp2_with fail
    refine (from_any m A wd st off _ (by omega) (by have := HV'.out; omega) (by have := HV'.out; omega) (by have := HV'.out; omega) (by have := HV'.out; omega) HAB.out.1 HAB.out.2.1).mono ?_
    rintro e w5 ⟨v, rfl, hm⟩
    obtain ⟨va, vc, rfl⟩ := hm.row.shape
    have HM := Lib.hid hm
    clear hm e2 e3 e4 hm65
    go_wp2_with fail
    go_ret2
    refine ⟨_, rfl, ?_⟩
    unfold allW
    rw [HQ.out.2.1, ← HFL.out.1, ← HM1.out]
    exact ⟨HM.out.row, fun g hg => by have h1 := HM.out.own g hg; have h2 := HXZ.out.size; omega, HXZ.out.trans HM.out.ext⟩
  · subst heq
    have hne : (fr == fr) = true := beq_self_eq_true _
    have hgt : ¬ fr < fr := by omega
    clear h3
    go_enter Tryz.func46, Tryz.ntmps46
    go_wp2_with fail
    refine (windowValid_any wd st off _).mono ?_
    rw [HV.out]
    rintro e w1 ⟨rfl, hx1⟩
    have HX1 := Lib.hid ((((Ext.refl w).alloc _).alloc _).trans hx1)
    have HB1 : Hid (w1.heap[w.heap.size]? = some (.cells #[.int .i64 wd, .int .i64 st, .int .i64 off] 67 (0, 0))) := Lib.hid (by
      have h0 := heap_alloc_new w (.cells #[.int .i64 wd, .int .i64 st, .int .i64 off] 67 (0, 0))
      exact ((((Ext.refl _).alloc _).trans hx1).block (block_lt h0)).trans h0)
    have HB2 : Hid (w1.heap[w.heap.size + 1]? = some (.cells #[.int .i64 fr, .int .i64 fr] 124 (0, 0))) := Lib.hid (by
      have h0 := heap_alloc2 w (.cells #[.int .i64 wd, .int .i64 st, .int .i64 off] 67 (0, 0)) (.cells #[.int .i64 fr, .int .i64 fr] 124 (0, 0))
      exact (hx1.block (block_lt h0)).trans h0)
    clear hx1
    have s0 : w1.cell? ⟨w.heap.size + 1, 0, none⟩ = some (.int .i64 fr) := by have := cell_of_block HB2.out 0; simpa using this
    have s1 : w1.cell? ⟨w.heap.size + 1, 1, none⟩ = some (.int .i64 fr) := by have := cell_of_block HB2.out 1; simpa using this
    go_wp2_with fail
    refine (times_any _ _ 2 2 [fr, fr] (by have := src_new w1 #[.int .i64 fr, .int .i64 fr] 3 1 2 (0, 0) rfl (by simp [Value.oneCell']); simpa [zints] using this) (by omega)).mono ?_
    rintro e w2 ⟨rfl, rfl⟩
    rw [show [fr, fr].all timeB = true by simp [HT1.out, HT2.out]]
    generalize hW : World.alloc _ _ = W
    have HXW : Hid (Ext w W) := Lib.hid (by subst hW; exact HX1.out.alloc _)
    have HC1 : Hid (W.heap[w.heap.size]? = some (.cells #[.int .i64 wd, .int .i64 st, .int .i64 off] 67 (0, 0))) := Lib.hid (by subst hW; exact (((Ext.refl _).alloc _).block (block_lt HB1.out)).trans HB1.out)
    have HC2 : Hid (W.heap[w.heap.size + 1]? = some (.cells #[.int .i64 fr, .int .i64 fr] 124 (0, 0))) := Lib.hid (by subst hW; exact (((Ext.refl _).alloc _).block (block_lt HB2.out)).trans HB2.out)
    clear hW HX1 HB1 HB2 s0 s1
    have s0 : W.cell? ⟨w.heap.size + 1, 0, none⟩ = some (.int .i64 fr) := by have := cell_of_block HC2.out 0; simpa using this
    have s1 : W.cell? ⟨w.heap.size + 1, 1, none⟩ = some (.int .i64 fr) := by have := cell_of_block HC2.out 1; simpa using this
    go_wp2_with fail
    go_ret2
    refine ⟨_, rfl, ?_⟩
    have e : allN wd st off fr fr = 0 := by unfold allN; rw [if_pos rfl]
    unfold allW
    rw [e]
    exact ⟨Row.nil _ _ _, by simp [Value.ownBlock], HXW.out⟩
end Go.Proofs.YtokllgdbmnmieaaGreat
