/- wide.Sum.Int where it fits. -/
import Derived.Test.YthpindmcklennaaWid
import Derived.Test.YthpindmcklennaaPlan
namespace Go.Proofs.Ythpindmcklennaa
open Go.RowKit Go.Lib Go.Sort

set_option maxHeartbeats 4000000 in
set_option maxRecDepth 100000 in
theorem sumInt_any (s : Int) (w : World) (h1 : -9223372036854775808 ≤ s) (h2 : s ≤ 9223372036854775807) :
    Calls Try.prog 9 #[.agg #[.int .i64 (s / 18446744073709551616), .int .u64 (s % 18446744073709551616)]] w fun e w' => e = .returned (.tuple #[.int .i64 s, .bool true]) ∧ Ext w w' := by
  obtain ⟨hi, hhi⟩ : ∃ x, x = s / 18446744073709551616 := ⟨_, rfl⟩
  obtain ⟨lo, hlo⟩ : ∃ x, x = s % 18446744073709551616 := ⟨_, rfl⟩
  have HW : Hid (IntKind.i64.wrap lo = s) := Lib.hid (by rw [hlo, IntKind.wrap_i64]; omega)
  have HO : Hid (∀ W, Calls Try.prog 27 #[.int .i64 s] W fun e w' => e = .returned (.agg #[.int .i64 hi, .int .u64 lo]) ∧ Ext W w') := Lib.hid (fun W => by
    rw [hhi, hlo]; exact wideOf_any s W h1 h2)
  rw [← hhi, ← hlo]
  clear hhi hlo
  go_enter Try.func9, Try.ntmps9
  go_wp2_with fail
  generalize hW : World.alloc _ _ = W
  have HXW : Hid (Ext w W) := Lib.hid (by subst hW; exact (Ext.refl w).alloc _)
  have HB : Hid (W.heap[w.heap.size]? = some (.cells #[.int .i64 hi, .int .u64 lo] 33 (0, 0))) := Lib.hid (by subst hW; exact heap_alloc_new w _)
  clear hW
  have f0 := cell_turned (T := fun _ => false) (show W.cell? ⟨w.heap.size, 0, none⟩ = some (.int .i64 hi) by have := cell_of_block HB.out 0; simpa using this) rfl
  have f1 := cell_turned (T := fun _ => false) (show W.cell? ⟨w.heap.size, 1, none⟩ = some (.int .u64 lo) by have := cell_of_block HB.out 1; simpa using this) rfl
  have e1 := HW.out
  refine wp_region_plan 5 (fun w' => ∃ p : Turned, w' = turned W (fun _ => false) p.d p.f p.os) (.reads [0, 1, 2, 3] (.one 4 (.one 5 .done))) (by kernel_rfl) (by kernel_rfl) (fun _ _ dd _ _ hh => by cases dd <;> exact hh) ?_ ?_
  · exact turned_of_ext (Ext.drewN W 1)
  refine wpPlan_reads ?_
  simp only [pickOps, List.getElem?_cons_succ, List.getElem?_cons_zero]
  repeat (go_big_quiet_step (fail))
  refine wpQuiet_nil ?_
  clear f0 f1
  refine wpPlan_one ?_
  simp only [pickOps, List.getElem?_cons_succ, List.getElem?_cons_zero]
  go_wp2_with fail
  refine (HO.out _).mono ?_
  rintro e w1 ⟨rfl, hx1⟩
  have HX1 := Lib.hid ((Ext.drewN W 1).trans hx1)
  clear hx1
  go_wp2_with fail
  refine thenX_mk (turned_of_ext HX1.out) (wpPlan_one ?_)
  simp only [pickOps, List.getElem?_cons_succ, List.getElem?_cons_zero]
  go_wp2_with fail
  refine thenX_last (wpPlan_done ?_)
  have HB1 : Hid (w1.heap[w.heap.size]? = some (.cells #[.int .i64 hi, .int .u64 lo] 33 (0, 0))) := Lib.hid ((HX1.out.block (block_lt HB.out)).trans HB.out)
  have c1 : w1.cell? ⟨w.heap.size, 1, none⟩ = some (.int .u64 lo) := by have := cell_of_block HB1.out 1; simpa using this
  go_wp2_with fail
  go_ret2
  exact ⟨rfl, HXW.out.trans HX1.out⟩
end Go.Proofs.Ythpindmcklennaa
