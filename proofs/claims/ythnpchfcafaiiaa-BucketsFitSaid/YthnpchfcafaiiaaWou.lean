/- window.Of where the kind and the time may be. -/
import Derived.Test.YthnpchfcafaiiaaWot
namespace Go.Proofs.Ythnpchfcafaiiaa
open Go.RowKit Go.Lib Go.Sort

/-- The windows that have a time. -/
def winN (wd st off t : Int) : Nat := ((lastF st off t - firstF wd st off t) / st).toNat + 1
def winL (wd st off t : Int) : List (Int × Int) := spansL (winN wd st off t) (firstF wd st off t) wd st

theorem window_nums {wd st off : Int} (h : windowB wd st off = true) : 1 ≤ wd ∧ wd ≤ 1099511627776 ∧ 1 ≤ st ∧ st ≤ wd ∧ wd ≤ 64 * st ∧ 0 ≤ off ∧ off < st := by
  unfold windowB at h
  simp only [Bool.and_eq_true, decide_eq_true_eq] at h
  omega
theorem time_nums {t : Int} (h : timeB t = true) : -1152921504606846976 ≤ t ∧ t ≤ 1152921504606846976 := by
  unfold timeB at h
  simp only [Bool.and_eq_true, decide_eq_true_eq] at h
  exact h

set_option maxHeartbeats 8000000 in
set_option maxRecDepth 100000 in
theorem of_any (wd st off t : Int) (w : World) (hv : windowB wd st off = true) (ht : timeB t = true) :
    Calls Try.prog 30 #[.agg #[.int .i64 wd, .int .i64 st, .int .i64 off], .int .i64 t] w fun e w' => ∃ v, e = .returned (.tuple #[v, .int .i64 0]) ∧ MadeTo w 72 2 v (winN wd st off t) (sps (winL wd st off t)) w' := by
  have HV := Lib.hid hv
  have HT := Lib.hid ht
  clear hv ht
  go_enter Try.func30, Try.ntmps30
  go_wp2_with fail
  refine (windowValid_any wd st off _).mono ?_
  rw [HV.out]
  rintro e w1 ⟨rfl, hx1⟩
  have HX1 := Lib.hid hx1
  clear hx1
  go_wp2_with fail
  refine (times_any _ _ 1 1 [t] (by have := src_new w1 #[.int .i64 t] 3 1 1 (0, 0) rfl (by simp [Value.oneCell']); simpa [zints] using this) (by omega)).mono ?_
  rintro e w2 ⟨rfl, rfl⟩
  rw [show [t].all timeB = true by simp [HT.out]]
  go_wp2_with fail
  generalize hW : World.alloc _ _ = W
  have HB : Hid (W.heap[w.heap.size]? = some (.cells #[.int .i64 wd, .int .i64 st, .int .i64 off] 24 (0, 0))) := Lib.hid (by subst hW; exact (((HX1.out).alloc _).block (block_lt (heap_alloc_new w _))).trans (heap_alloc_new w _))
  have HXW : Hid (Ext w W) := Lib.hid (by subst hW; exact ((Ext.refl w).alloc _).trans (HX1.out.alloc _))
  clear hW HX1
  obtain ⟨A, hA⟩ : ∃ A, A = firstF wd st off t := ⟨_, rfl⟩
  obtain ⟨B, hB⟩ : ∃ B, B = lastF st off t := ⟨_, rfl⟩
  have HFL : Hid (A = firstF wd st off t ∧ B = lastF st off t) := Lib.hid ⟨hA, hB⟩
  clear hA hB
  have HV' := Lib.hid (window_nums HV.out)
  have HT' := Lib.hid (time_nums HT.out)
  have r0 := cell_regrown (show W.cell? ⟨w.heap.size, 0, none⟩ = some (.int .i64 wd) by have := cell_of_block HB.out 0; simpa using this)
  have r1 := cell_regrown (show W.cell? ⟨w.heap.size, 1, none⟩ = some (.int .i64 st) by have := cell_of_block HB.out 1; simpa using this)
  have r2 := cell_regrown (show W.cell? ⟨w.heap.size, 2, none⟩ = some (.int .i64 off) by have := cell_of_block HB.out 2; simpa using this)
  have HC : Hid (∀ (d : Nat) (os : Array Obj), Calls Try.prog 49 #[.agg #[.int .i64 wd, .int .i64 st, .int .i64 off], .int .i64 t] (grow (redrawn W d) os) fun e w'' => e = .returned (.int .i64 A) ∧ ∃ p : Regrown, w'' = grow (redrawn W p.d) p.os) := Lib.hid (fun d os => Calls.grown_of (by
    rw [HFL.out.1]
    have := HV'.out
    exact first_any wd st off t _ (by omega) (by omega) (by omega) (by omega) (by omega) (by omega) HT'.out.1 HT'.out.2))
  have HD : Hid (∀ (d : Nat) (os : Array Obj), Calls Try.prog 50 #[.agg #[.int .i64 wd, .int .i64 st, .int .i64 off], .int .i64 t] (grow (redrawn W d) os) fun e w'' => e = .returned (.int .i64 B) ∧ ∃ p : Regrown, w'' = grow (redrawn W p.d) p.os) := Lib.hid (fun d os => Calls.grown_of (by
    rw [HFL.out.2]
    have := HV'.out
    have := HT'.out
    exact last_any wd st off t _ (by omega) (by omega) (by omega) (by omega) (by omega) (by omega)))
  refine wp_region_quiet_below (by kernel_rfl) (by kernel_rfl) ?_
  repeat (go_big_quiet_step (first | (go_at_call 50; exact HD.out _ _) | (go_at_call 49; exact HC.out _ _)))
  refine wpQuiet_nil ?_
  intro _ hw'
  obtain ⟨pr, rfl⟩ := hw'
  generalize hW4 : grow _ _ = W4
  have HX4 : Hid (Ext W W4) := Lib.hid (by subst hW4; exact Ext.regrown _ _ _)
  clear hW4 r0 r1 r2
  have HB4 : Hid (W4.heap[w.heap.size]? = some (.cells #[.int .i64 wd, .int .i64 st, .int .i64 off] 24 (0, 0))) := Lib.hid ((HX4.out.block (block_lt HB.out)).trans HB.out)
  have HXZ := Lib.hid (HXW.out.trans HX4.out)
  clear HXW HX4 HC HD HB
  obtain ⟨q, hq, hq63⟩ := win_count (wd := wd) (st := st) (off := off) (t := t) HV'.out.2.2.1 HV'.out.2.2.2.1 HV'.out.2.2.2.2.1
  have HQ : Hid (B - A = (q : Int) * st ∧ q ≤ 63) := Lib.hid ⟨by rw [HFL.out.1, HFL.out.2]; exact hq, hq63⟩
  clear hq hq63
  have HAB : Hid (-2305843009213693952 ≤ A ∧ A ≤ 2305843009213693952 ∧ -2305843009213693952 ≤ B ∧ B ≤ 2305843009213693952) := Lib.hid (by
    rw [HFL.out.1, HFL.out.2]
    have h1 := HV'.out
    have h2 := HT'.out
    have m0 := Int.emod_nonneg (t - wd - off) (show st ≠ 0 by omega)
    have m1 := Int.emod_lt_of_pos (t - wd - off) (show 0 < st by omega)
    have m2 := Int.emod_nonneg (t - off) (show st ≠ 0 by omega)
    have m3 := Int.emod_lt_of_pos (t - off) (show 0 < st by omega)
    unfold firstF lastF
    omega)
  have f0 := cell_turned (T := fun _ => false) (show W4.cell? ⟨w.heap.size, 0, none⟩ = some (.int .i64 wd) by have := cell_of_block HB4.out 0; simpa using this) rfl
  have f1 := cell_turned (T := fun _ => false) (show W4.cell? ⟨w.heap.size, 1, none⟩ = some (.int .i64 st) by have := cell_of_block HB4.out 1; simpa using this) rfl
  have f2 := cell_turned (T := fun _ => false) (show W4.cell? ⟨w.heap.size, 2, none⟩ = some (.int .i64 off) by have := cell_of_block HB4.out 2; simpa using this) rfl
  have e1 : IntKind.i64.wrap (B - A) = B - A := IntWalk.i64_in _ (by have := HAB.out; omega)
  have hst0 : ¬ st = 0 := by have := HV'.out; omega
  go_wp2_with fail
  refine wp_region_plan 9 (fun w' => ∃ p : Turned, w' = turned W4 (fun _ => false) p.d p.f p.os) (.reads [0, 1, 2, 3, 4, 5, 6, 7, 8] (.one 9 (.one 10 (.one 11 .done)))) (by kernel_rfl) (by kernel_rfl) (fun _ _ dd _ _ hh => by cases dd <;> exact hh) ?_ ?_
  · exact turned_of_ext (Ext.drewN W4 1)
  refine wpPlan_reads ?_
  simp only [pickOps, List.getElem?_cons_succ, List.getElem?_cons_zero]
  repeat (go_big_quiet_step (fail))
  refine wpQuiet_nil ?_
  refine wpPlan_one ?_
  simp only [pickOps, List.getElem?_cons_succ, List.getElem?_cons_zero]
  clear f0 f1 f2
  go_wp2_with fail
  have e2 : wrap64 ((B - A).tdiv st) = (q : Int) := by
    rw [HQ.out.1, Int.mul_tdiv_cancel _ hst0]
    exact IntWalk.wrap64_in (q : Int) (by have := HQ.out.2; omega)
  have e3 : wrap64 (wrap64 ((B - A).tdiv st) + 1) = ((q + 1 : Nat) : Int) := by
    rw [e2]; exact IntWalk.wrap64_in _ (by have := HQ.out.2; omega)
  rw [e3]
  refine (from_any (q + 1) A wd st off _ (by have := HQ.out.2; omega) (by have := HV'.out; omega) (by have := HV'.out; omega) (by have := HV'.out; omega) (by have := HV'.out; omega) HAB.out.1 HAB.out.2.1).mono ?_
  rintro e w5 ⟨v, rfl, hm⟩
  obtain ⟨va, vc, rfl⟩ := hm.row.shape
  have HM := Lib.hid hm
  clear hm e2 e3
  go_wp2_with fail
  refine thenX_last (wpPlan_one ?_)
  simp only [pickOps, List.getElem?_cons_succ, List.getElem?_cons_zero]
  go_wp2_with fail
  refine thenX_last (wpPlan_one ?_)
  simp only [pickOps, List.getElem?_cons_succ, List.getElem?_cons_zero]
  go_wp2_with fail
  refine thenX_last (wpPlan_done ?_)
  go_wp2_with fail
  have HN : winN wd st off t = q + 1 := by
    unfold winN
    rw [← HFL.out.1, ← HFL.out.2, HQ.out.1, Int.mul_ediv_cancel _ hst0]
    rfl
  go_ret2
  refine ⟨_, rfl, ?_⟩
  unfold winL
  rw [HN, ← HFL.out.1]
  exact ⟨HM.out.row, fun g hg => by have h1 := HM.out.own g hg; have h2 := HXZ.out.size; simp at h1; omega, (HXZ.out.trans (Ext.drewN W4 1)).trans HM.out.ext⟩
end Go.Proofs.Ythnpchfcafaiiaa
