/- wide: plus, minus, amount of any sums. -/
import Derived.Test.YtipbniaehhoaaaaDoorAmt
namespace Go.Proofs.YtipbniaehhoaaaaDoor
open Go.RowKit Go.Lib Go.Sort

set_option maxHeartbeats 1000000 in
set_option maxRecDepth 100000 in
theorem plus_gen (ah al bh bl : Int) (w : World) (a0 : 0 ≤ al) (a1 : al < 18446744073709551616) (b0 : 0 ≤ bl) (b1 : bl < 18446744073709551616) 
    (c0 : -9223372036854775808 ≤ ah) (c1 : ah ≤ 9223372036854775807) (d0 : -9223372036854775808 ≤ bh) (d1 : bh ≤ 9223372036854775807) :
    Calls Tryd.prog 25 #[.agg #[.int .i64 ah, .int .u64 al], .agg #[.int .i64 bh, .int .u64 bl]] w fun e w' => e = .returned (.agg #[.int .i64 (wrap64 (((ah + bh) * 18446744073709551616 + al + bl) / 18446744073709551616)), .int .u64 (((ah + bh) * 18446744073709551616 + al + bl) % 18446744073709551616)]) ∧ Ext w w' := by
  go_enter Tryd.func25, Tryd.ntmps25
  obtain ⟨c, hc⟩ : ∃ c, c = (al + bl) / 18446744073709551616 := ⟨_, rfl⟩
  have k0 : 0 ≤ c := by omega
  have k1 : c ≤ 1 := by omega
  obtain ⟨ua, hua⟩ : ∃ ua, ua = IntKind.u64.wrap ah := ⟨_, rfl⟩
  obtain ⟨ub, hub⟩ : ∃ ub, ub = IntKind.u64.wrap bh := ⟨_, rfl⟩
  have va : 0 ≤ ua := by rw [hua, IntKind.wrap_u64]; omega
  have vb : 0 ≤ ub := by rw [hub, IntKind.wrap_u64]; omega
  have q1 := add64_run ua ub c va vb k0 k1
  rw [hua, hub, hc] at q1
  have q0 := add64_run0 al bl a0 b0
  have HC := Lib.hid hc
  have HUA := Lib.hid hua
  have HUB := Lib.hid hub
  clear hc hua hub
  go_wp2_with (first | simp only [q0] | simp only [q1])
  refine bodyPost_ret (v := .agg #[.int .i64 (wrap64 ((IntKind.u64.wrap ah + IntKind.u64.wrap bh + (al + bl) / 18446744073709551616) % 18446744073709551616)), .int .u64 ((al + bl) % 18446744073709551616)]) (by simp [results, Tryd.results25, go_sem]) rfl ⟨?_, (((Ext.refl w).alloc _).alloc _).alloc _⟩
  have e2 : (al + bl) % 18446744073709551616 = ((ah + bh) * 18446744073709551616 + al + bl) % 18446744073709551616 := by omega
  have e1 : wrap64 ((IntKind.u64.wrap ah + IntKind.u64.wrap bh + (al + bl) / 18446744073709551616) % 18446744073709551616) = wrap64 (((ah + bh) * 18446744073709551616 + al + bl) / 18446744073709551616) := by
    rw [IntKind.wrap_u64, IntKind.wrap_u64]
    unfold wrap64
    omega
  rw [e1, ← e2]

set_option maxHeartbeats 1000000 in
set_option maxRecDepth 100000 in
theorem minus_gen (s : Int) (w : World) (h1 : -170141183460469231731687303715884105728 ≤ s) (h2 : s < 170141183460469231731687303715884105728) :
    Calls Tryd.prog 18 #[sumV s] w fun e w' => e = .returned (.agg #[.int .i64 (wrap64 (-s / 18446744073709551616)), .int .u64 (-s % 18446744073709551616)]) ∧ Ext w w' := by
  have hs : sumOk s := ⟨by omega, h2⟩
  obtain ⟨p1, p2, p3, p4⟩ := sum_parts hs
  have e0 : ((-(s / 18446744073709551616) - 1) + 0) * 18446744073709551616 + (18446744073709551615 - s % 18446744073709551616) + 1 = -s := by omega
  have HP := Lib.hid (fun W => plus_gen (-(s / 18446744073709551616) - 1) (18446744073709551615 - s % 18446744073709551616) 0 1 W (by omega) (by omega) (by decide) (by decide) (by omega) (by omega) (by decide) (by decide))
  rw [e0] at HP
  unfold sumV
  obtain ⟨hi, hhi⟩ : ∃ x, x = s / 18446744073709551616 := ⟨_, rfl⟩
  obtain ⟨lo, hlo⟩ : ∃ x, x = s % 18446744073709551616 := ⟨_, rfl⟩
  obtain ⟨mh, hmh⟩ : ∃ x, x = wrap64 (-s / 18446744073709551616) := ⟨_, rfl⟩
  obtain ⟨ml, hml⟩ : ∃ x, x = -s % 18446744073709551616 := ⟨_, rfl⟩
  rw [← hhi, ← hlo, ← hmh, ← hml] at HP
  rw [← hhi, ← hlo, ← hmh, ← hml]
  rw [← hhi] at p1 p2
  rw [← hlo] at p3 p4
  clear hhi hlo hmh hml e0 hs h1 h2
  go_enter Tryd.func18, Tryd.ntmps18
  go_wp2_with fail
  rw [not_i64 hi p1 p2, not_u64 lo p3 p4]
  obtain ⟨W, hW⟩ : ∃ W, W = (w.alloc (.cells #[.int .i64 hi, .int .u64 lo] 35 (0, 0))).alloc (.cells #[.int .i64 0, .int .u64 0] 35 (0, 0)) := ⟨_, rfl⟩
  have HXW : Hid (Ext w W) := Lib.hid (by rw [hW]; exact ((Ext.refl w).alloc _).alloc _)
  have HB : Hid (W.heap[w.heap.size + 1]? = some (.cells #[.int .i64 0, .int .u64 0] 35 (0, 0))) := Lib.hid (by rw [hW]; exact heap_alloc2 w _ _)
  rw [← hW]
  clear hW
  refine (HP.out _).mono ?_
  rintro e w1 ⟨rfl, hx1⟩
  have HX1 := Lib.hid (HXW.out.trans hx1)
  have HB1 := Lib.hid ((hx1.block (block_lt HB.out)).trans HB.out)
  clear hx1
  go_wp2_with (first | (refine wpList_store_box rfl _ _ _ rfl _ _ #[.int .i64 mh, .int .u64 ml] _ rfl rfl HB1.out rfl sum_info (by simp [Value.oneCell']) ?_; rintro w5 hb5 hc5; have HB5 := Lib.hid hb5; have HC5 := Lib.hid hc5; clear hb5 hc5))
  exact bodyPost_ret (results_box Tryd.results18 _ _ rfl HB5.out Tryd.underlying35 rfl sum_info) rfl ⟨rfl, ((Chg.of_ext (S := fun _ => False) HX1.out).trans HC5.out (fun i hi e => by omega)).ext (fun _ _ e => e)⟩

set_option maxHeartbeats 1000000 in
set_option maxRecDepth 100000 in
theorem amount_gen (s : Int) (w : World) (h1 : -170141183460469231731687303715884105728 ≤ s) (h2 : s < 170141183460469231731687303715884105728) :
    Calls Tryd.prog 12 #[sumV s] w fun e w' => e = .returned (amtV (absI s)) ∧ Ext w w' := by
  have HM := Lib.hid (fun W => minus_gen s W h1 h2)
  have HB := Lib.hid (fun W => below_any (s / 18446744073709551616) (s % 18446744073709551616) W)
  have HABS : Hid (absI s = if s < 0 then -s else s) := Lib.hid rfl
  unfold sumV at HM ⊢
  unfold amtV
  obtain ⟨hi, hhi⟩ : ∃ x, x = s / 18446744073709551616 := ⟨_, rfl⟩
  obtain ⟨lo, hlo⟩ : ∃ x, x = s % 18446744073709551616 := ⟨_, rfl⟩
  obtain ⟨mh, hmh⟩ : ∃ x, x = wrap64 (-s / 18446744073709551616) := ⟨_, rfl⟩
  obtain ⟨mq, hmq⟩ : ∃ x, x = -s / 18446744073709551616 := ⟨_, rfl⟩
  obtain ⟨ml, hml⟩ : ∃ x, x = -s % 18446744073709551616 := ⟨_, rfl⟩
  rw [← hhi, ← hlo, ← hmh, ← hml] at HM
  rw [← hhi, ← hlo] at HB
  rw [← hhi, ← hlo]
  by_cases hs : s < 0
  · have ea : absI s = -s := by rw [HABS.out, if_pos hs]
    rw [ea, ← hmq, ← hml]
    have hd : decide (hi < 0) = true := by simp; omega
    have hw : IntKind.u64.wrap mh = mq := by rw [IntKind.wrap_u64, hmh, hmq]; unfold wrap64; omega
    clear hhi hlo hmh hml hmq ea hs h1 h2 HABS
    go_enter Tryd.func12, Tryd.ntmps12
    go_wp2_with fail
    obtain ⟨W, hW⟩ : ∃ W, W = (w.alloc (.cells #[.int .i64 hi, .int .u64 lo] 35 (0, 0))).alloc (.cells #[.int .u64 0, .int .u64 0] 40 (0, 0)) := ⟨_, rfl⟩
    have HXW : Hid (Ext w W) := Lib.hid (by rw [hW]; exact ((Ext.refl w).alloc _).alloc _)
    have HB1 : Hid (W.heap[w.heap.size]? = some (.cells #[.int .i64 hi, .int .u64 lo] 35 (0, 0))) := Lib.hid (by
      rw [hW]
      have h0 := heap_alloc_new w (.cells #[.int .i64 hi, .int .u64 lo] 35 (0, 0))
      exact (((Ext.refl _).alloc _).block (block_lt h0)).trans h0)
    have HB2 : Hid (W.heap[w.heap.size + 1]? = some (.cells #[.int .u64 0, .int .u64 0] 40 (0, 0))) := Lib.hid (by rw [hW]; exact heap_alloc2 w _ _)
    rw [← hW]
    clear hW
    refine (HB.out _).mono ?_
    rintro e w1 ⟨rfl, hx1⟩
    rw [hd]
    have HX1 := Lib.hid (HXW.out.trans hx1)
    have HC1 := Lib.hid ((hx1.block (block_lt HB1.out)).trans HB1.out)
    have HC2 := Lib.hid ((hx1.block (block_lt HB2.out)).trans HB2.out)
    clear hx1 HB1 HB2
    have c0 : w1.cell? ⟨w.heap.size, 0, none⟩ = some (.int .i64 hi) := by have := cell_of_block HC1.out 0; simpa using this
    have c1 : w1.cell? ⟨w.heap.size, 1, none⟩ = some (.int .u64 lo) := by have := cell_of_block HC1.out 1; simpa using this
    go_wp2_with fail
    clear c0 c1
    refine (HM.out _).mono ?_
    rintro e w2 ⟨rfl, hx2⟩
    have HX2 := Lib.hid (HX1.out.trans hx2)
    have HD1 := Lib.hid ((hx2.block (block_lt HC1.out)).trans HC1.out)
    have HD2 := Lib.hid ((hx2.block (block_lt HC2.out)).trans HC2.out)
    clear hx2 HC1 HC2
    go_upto_region 3 with (first | (refine wpList_store_box rfl _ _ _ rfl _ _ #[.int .i64 mh, .int .u64 ml] _ rfl rfl HD1.out rfl sum_info (by simp [Value.oneCell']) ?_; rintro w5 hb5 hc5; have HB5 := Lib.hid hb5; have HC5 := Lib.hid hc5; clear hb5 hc5))
    have HE2 := Lib.hid ((HC5.out.block _ (block_lt HD2.out) (by omega)).trans HD2.out)
    have c0 : w5.cell? ⟨w.heap.size, 0, none⟩ = some (.int .i64 mh) := by have := cell_of_block HB5.out 0; simpa using this
    have c1 : w5.cell? ⟨w.heap.size, 1, none⟩ = some (.int .u64 ml) := by have := cell_of_block HB5.out 1; simpa using this
    have HX5 := Lib.hid (((Chg.of_ext (S := fun _ => False) HX2.out).trans HC5.out (fun i hi e => by omega)).ext (fun _ _ e => e))
    go_wp2_with (first | (refine wpList_store_box rfl _ _ _ rfl _ _ #[.int .u64 mq, .int .u64 ml] _ rfl rfl HE2.out rfl two_info (by simp [Value.oneCell']) ?_; rintro w6 hb6 hc6; have HB6 := Lib.hid hb6; have HC6 := Lib.hid hc6; clear hb6 hc6))
    exact bodyPost_ret (results_box Tryd.results12 _ _ rfl HB6.out Tryd.underlying40 rfl two_info) rfl ⟨rfl, ((Chg.of_ext (S := fun _ => False) HX5.out).trans HC6.out (fun i hi e => by omega)).ext (fun _ _ e => e)⟩
  · have ea : absI s = s := by rw [HABS.out, if_neg hs]
    rw [ea, ← hhi, ← hlo]
    have hd : decide (hi < 0) = false := by simp; omega
    have hw : IntKind.u64.wrap hi = hi := by rw [IntKind.wrap_u64]; omega
    clear hhi hlo hmh hml hmq ea hs h1 h2 HABS HM
    go_enter Tryd.func12, Tryd.ntmps12
    go_wp2_with fail
    obtain ⟨W, hW⟩ : ∃ W, W = (w.alloc (.cells #[.int .i64 hi, .int .u64 lo] 35 (0, 0))).alloc (.cells #[.int .u64 0, .int .u64 0] 40 (0, 0)) := ⟨_, rfl⟩
    have HXW : Hid (Ext w W) := Lib.hid (by rw [hW]; exact ((Ext.refl w).alloc _).alloc _)
    have HB1 : Hid (W.heap[w.heap.size]? = some (.cells #[.int .i64 hi, .int .u64 lo] 35 (0, 0))) := Lib.hid (by
      rw [hW]
      have h0 := heap_alloc_new w (.cells #[.int .i64 hi, .int .u64 lo] 35 (0, 0))
      exact (((Ext.refl _).alloc _).block (block_lt h0)).trans h0)
    have HB2 : Hid (W.heap[w.heap.size + 1]? = some (.cells #[.int .u64 0, .int .u64 0] 40 (0, 0))) := Lib.hid (by rw [hW]; exact heap_alloc2 w _ _)
    rw [← hW]
    clear hW
    refine (HB.out _).mono ?_
    rintro e w1 ⟨rfl, hx1⟩
    rw [hd]
    have HX1 := Lib.hid (HXW.out.trans hx1)
    have HC1 := Lib.hid ((hx1.block (block_lt HB1.out)).trans HB1.out)
    have HC2 := Lib.hid ((hx1.block (block_lt HB2.out)).trans HB2.out)
    clear hx1 HB1 HB2
    have c0 : w1.cell? ⟨w.heap.size, 0, none⟩ = some (.int .i64 hi) := by have := cell_of_block HC1.out 0; simpa using this
    have c1 : w1.cell? ⟨w.heap.size, 1, none⟩ = some (.int .u64 lo) := by have := cell_of_block HC1.out 1; simpa using this
    go_wp2_with (first | (refine wpList_store_box rfl _ _ _ rfl _ _ #[.int .u64 hi, .int .u64 lo] _ rfl rfl HC2.out rfl two_info (by simp [Value.oneCell']) ?_; rintro w6 hb6 hc6; have HB6 := Lib.hid hb6; have HC6 := Lib.hid hc6; clear hb6 hc6))
    exact bodyPost_ret (results_box Tryd.results12 _ _ rfl HB6.out Tryd.underlying40 rfl two_info) rfl ⟨rfl, ((Chg.of_ext (S := fun _ => False) HX1.out).trans HC6.out (fun i hi e => by omega)).ext (fun _ _ e => e)⟩

end Go.Proofs.YtipbniaehhoaaaaDoor
