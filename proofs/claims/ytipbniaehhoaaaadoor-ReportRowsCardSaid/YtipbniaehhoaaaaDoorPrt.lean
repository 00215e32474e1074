/- wide.parts by 10^19. -/
import Derived.Test.YtipbniaehhoaaaaDoorAmt
import Derived.Test.YtipbniaehhoaaaaDoorDvw
namespace Go.Proofs.YtipbniaehhoaaaaDoor
open Go.RowKit Go.Sort Go.Lib

theorem parts_num {p : Int} (h0 : 0 ≤ p) (h1 : p < 340282366920938463463374607431768211456) :
    p / 18446744073709551616 / 10000000000000000000 = p / 10000000000000000000 / 18446744073709551616 ∧
    (p / 18446744073709551616 % 10000000000000000000 * 18446744073709551616 + p % 18446744073709551616) / 10000000000000000000 = p / 10000000000000000000 % 18446744073709551616 ∧
    (p / 18446744073709551616 % 10000000000000000000 * 18446744073709551616 + p % 18446744073709551616) % 10000000000000000000 = p % 10000000000000000000 := by
  omega

set_option maxHeartbeats 2000000 in
set_option maxRecDepth 100000 in
theorem parts_any (p y : Int) (w : World) (hy : y = 10000000000000000000) (h0 : 0 ≤ p) (h1 : p < 340282366920938463463374607431768211456) :
    Calls Tryd.prog 13 #[amtV p, .int .u64 y] w fun e w' => e = .returned (.tuple #[amtV (p / y), .int .u64 (p % y)]) ∧ Ext w w' := by
  obtain ⟨n1, n2, n3⟩ := parts_num h0 h1
  unfold amtV
  obtain ⟨hi, hhi⟩ : ∃ x, x = p / 18446744073709551616 := ⟨_, rfl⟩
  obtain ⟨lo, hlo⟩ : ∃ x, x = p % 18446744073709551616 := ⟨_, rfl⟩
  rw [← hy] at n1 n2 n3
  rw [← hhi, ← hlo] at n2 n3
  rw [← hhi] at n1
  rw [← hhi, ← hlo, ← n1, ← n2, ← n3]
  have hyp : 0 < y := by omega
  have hyl : y ≤ 18446744073709551615 := by omega
  have b0 : 0 ≤ hi := by omega
  have b1 : hi ≤ 18446744073709551615 := by omega
  have b2 : 0 ≤ lo := by omega
  have b3 : lo ≤ 18446744073709551615 := by omega
  have hyz : (y == 0) = false := by simp; omega
  have HD := Lib.hid (fun W => div64_any y (hi % y) lo W hy (Int.emod_nonneg _ (by omega)) (Int.emod_lt_of_pos _ hyp) b2 (by omega))
  obtain ⟨q, hq⟩ : ∃ q, q = hi / y := ⟨_, rfl⟩
  obtain ⟨r, hr⟩ : ∃ r, r = hi % y := ⟨_, rfl⟩
  rw [← hr] at HD ⊢
  rw [← hq]
  have hq2 : hi / y = q := hq.symm
  have hr2 : hi % y = r := hr.symm
  obtain ⟨q2, hq3⟩ : ∃ q2, q2 = (r * 18446744073709551616 + lo) / y := ⟨_, rfl⟩
  obtain ⟨r2, hr3⟩ : ∃ r2, r2 = (r * 18446744073709551616 + lo) % y := ⟨_, rfl⟩
  rw [← hq3, ← hr3]
  rw [← hq3, ← hr3] at HD
  clear hq hr hq3 hr3 n1 n2 n3 hhi hlo hy h0 h1
  go_enter Tryd.func13, Tryd.ntmps13
  go_wp2_with fail
  obtain ⟨W, hW⟩ : ∃ W, W = (w.alloc (.cells #[.int .u64 hi, .int .u64 lo] 40 (0, 0))).alloc (.cells #[.int .u64 0, .int .u64 0] 40 (0, 0)) := ⟨_, rfl⟩
  have HXW : Hid (Ext w W) := Lib.hid (by rw [hW]; exact ((Ext.refl w).alloc _).alloc _)
  have HB1 : Hid (W.heap[w.heap.size]? = some (.cells #[.int .u64 hi, .int .u64 lo] 40 (0, 0))) := Lib.hid (by
    rw [hW]
    have h0 := heap_alloc_new w (.cells #[.int .u64 hi, .int .u64 lo] 40 (0, 0))
    exact (((Ext.refl _).alloc _).block (block_lt h0)).trans h0)
  have HB2 : Hid (W.heap[w.heap.size + 1]? = some (.cells #[.int .u64 0, .int .u64 0] 40 (0, 0))) := Lib.hid (by rw [hW]; exact heap_alloc2 w _ _)
  rw [← hW]
  clear hW
  have c0 : W.cell? ⟨w.heap.size, 0, none⟩ = some (.int .u64 hi) := by have := cell_of_block HB1.out 0; simpa using this
  have c1 : W.cell? ⟨w.heap.size, 1, none⟩ = some (.int .u64 lo) := by have := cell_of_block HB1.out 1; simpa using this
  refine wp_region_split_lit [] [0, 1, 2, 3, 4, 5, 6, 7, 8, 9] [] (by kernel_rfl) (by kernel_rfl) (fun _ _ dd _ _ hh => by cases dd <;> exact hh) ?_
  simp only [pickOps, List.getElem?_cons_succ, List.getElem?_cons_zero]
  refine wpQuiet_nil ?_
  repeat (go_big_quiet_step (fail))
  refine wpQuiet_nil ?_
  intro w1 hw'
  have hx1 : Ext W w1 := by obtain ⟨k, rfl⟩ := hw'; exact Ext.drewN _ _
  have HX1 := Lib.hid (HXW.out.trans hx1)
  have HC2 := Lib.hid ((hx1.block (block_lt HB2.out)).trans HB2.out)
  have d1 := (hx1.cell (World.block_lt_of_cell? W _ c1)).trans c1
  clear hw' hx1 c0 c1 HB1 HB2
  go_wp2_with fail
  refine (HD.out _).mono ?_
  rintro e w2 ⟨rfl, hx2⟩
  have HX2 := Lib.hid (HX1.out.trans hx2)
  have HD2 := Lib.hid ((hx2.block (block_lt HC2.out)).trans HC2.out)
  clear hx2 HC2 d1
  go_wp2_with (first | (refine wpList_store_box rfl _ _ _ rfl _ _ #[.int .u64 q, .int .u64 q2] _ rfl rfl HD2.out rfl two_info (by simp [Value.oneCell']) ?_; rintro w6 hb6 hc6; have HB6 := Lib.hid hb6; have HC6 := Lib.hid hc6; clear hb6 hc6))
  exact bodyPost_ret (results_box_tmp Tryd.results13 _ _ rfl HB6.out Tryd.underlying40 rfl two_info) rfl ⟨rfl, ((Chg.of_ext (S := fun _ => False) HX2.out).trans HC6.out (fun i hi e => by have := HXW.out.size; omega)).ext (fun _ _ e => e)⟩
end Go.Proofs.YtipbniaehhoaaaaDoor
