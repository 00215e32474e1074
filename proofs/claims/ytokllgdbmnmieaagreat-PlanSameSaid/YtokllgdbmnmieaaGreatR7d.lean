/- wide: minus, amount. -/
import Derived.Test.YtokllgdbmnmieaaGreatPtc
import Derived.Deep.DeepCutAuto
import Derived.Test.YtokllgdbmnmieaaGreatEnc
import Derived.Test.YtokllgdbmnmieaaGreatR7m
namespace Go.Proofs.YtokllgdbmnmieaaGreat
open Go.RowKit Go.Lib Go.Sort

theorem sum_info : (Tryz.prog.info? 73).map (·.size) = some 2 := by kernel_rfl
theorem not_i64 (n : Int) (h1 : -9223372036854775808 ≤ n) (h2 : n ≤ 9223372036854775807) : bits .xor .i64 (-1) n = -n - 1 := by
  have h : BitVec.ofInt 64 (-1) = BitVec.allOnes 64 := by decide
  have key : (BitVec.ofInt 64 (-1) ^^^ BitVec.ofInt 64 n).toNat = 2 ^ 64 - 1 - (n % ((2 ^ 64 : Nat) : Int)).toNat := by
    rw [h, BitVec.allOnes_xor, BitVec.toNat_not, BitVec.toNat_ofInt]
  show IntKind.i64.wrap ((BitVec.ofInt 64 (-1) ^^^ BitVec.ofInt 64 n).toNat : Nat) = -n - 1
  rw [key, IntKind.wrap_i64]
  omega
theorem not_u64 (n : Int) (h1 : 0 ≤ n) (h2 : n < 18446744073709551616) : bits .xor .u64 IntKind.u64.max n = 18446744073709551615 - n := by
  have h : BitVec.ofInt 64 IntKind.u64.max = BitVec.allOnes 64 := by decide
  have key : (BitVec.ofInt 64 IntKind.u64.max ^^^ BitVec.ofInt 64 n).toNat = 2 ^ 64 - 1 - (n % ((2 ^ 64 : Nat) : Int)).toNat := by
    rw [h, BitVec.allOnes_xor, BitVec.toNat_not, BitVec.toNat_ofInt]
  show IntKind.u64.wrap ((BitVec.ofInt 64 IntKind.u64.max ^^^ BitVec.ofInt 64 n).toNat : Nat) = _
  rw [key, IntKind.wrap_u64]
  omega

set_option maxHeartbeats 1000000 in
set_option maxRecDepth 100000 in
theorem minus_any (s : Int) (w : World) (h1 : -170141183460469231731687303715884105728 < s) (h2 : s < 170141183460469231731687303715884105728) :
    Calls Tryz.prog 82 #[sumV s] w fun e w' => e = .returned (sumV (-s)) ∧ Ext w w' := by
  have hs : sumOk s := ⟨by omega, h2⟩
  obtain ⟨p1, p2, p3, p4⟩ := sum_parts hs
  have e0 : ((-(s / 18446744073709551616) - 1) + 0) * 18446744073709551616 + (18446744073709551615 - s % 18446744073709551616) + 1 = -s := by omega
  have HP := Lib.hid (fun W => plus_any (-(s / 18446744073709551616) - 1) (18446744073709551615 - s % 18446744073709551616) 0 1 W (by omega) (by omega) (by decide) (by decide) (by omega) (by omega) (by decide) (by decide) (by rw [e0]; unfold sumOk; omega))
  rw [e0] at HP
  unfold sumV at HP ⊢
  obtain ⟨hi, hhi⟩ : ∃ x, x = s / 18446744073709551616 := ⟨_, rfl⟩
  obtain ⟨lo, hlo⟩ : ∃ x, x = s % 18446744073709551616 := ⟨_, rfl⟩
  obtain ⟨mh, hmh⟩ : ∃ x, x = -s / 18446744073709551616 := ⟨_, rfl⟩
  obtain ⟨ml, hml⟩ : ∃ x, x = -s % 18446744073709551616 := ⟨_, rfl⟩
  rw [← hhi, ← hlo, ← hmh, ← hml] at HP
  rw [← hhi, ← hlo, ← hmh, ← hml]
  rw [← hhi] at p1 p2
  rw [← hlo] at p3 p4
  clear hhi hlo hmh hml e0 hs h1 h2
  go_enter Tryz.func82, Tryz.ntmps82
  go_wp2_with fail
  rw [not_i64 hi p1 p2, not_u64 lo p3 p4]
  obtain ⟨W, hW⟩ : ∃ W, W = (w.alloc (.cells #[.int .i64 hi, .int .u64 lo] 73 (0, 0))).alloc (.cells #[.int .i64 0, .int .u64 0] 73 (0, 0)) := ⟨_, rfl⟩
  have HXW : Hid (Ext w W) := Lib.hid (by rw [hW]; exact ((Ext.refl w).alloc _).alloc _)
  have HB : Hid (W.heap[w.heap.size + 1]? = some (.cells #[.int .i64 0, .int .u64 0] 73 (0, 0))) := Lib.hid (by rw [hW]; exact heap_alloc2 w _ _)
  rw [← hW]
  clear hW
  refine (HP.out _).mono ?_
  rintro e w1 ⟨rfl, hx1⟩
  have HX1 := Lib.hid (HXW.out.trans hx1)
  have HB1 := Lib.hid ((hx1.block (block_lt HB.out)).trans HB.out)
  clear hx1
  go_wp2_with (first | (refine wpList_store_box rfl _ _ _ rfl _ _ #[.int .i64 mh, .int .u64 ml] _ rfl rfl HB1.out rfl sum_info (by simp [Value.oneCell']) ?_; rintro w5 hb5 hc5; have HB5 := Lib.hid hb5; have HC5 := Lib.hid hc5; clear hb5 hc5))
  exact bodyPost_ret (results_box Tryz.results82 _ _ rfl HB5.out Tryz.underlying73 rfl sum_info) rfl ⟨rfl, ((Chg.of_ext (S := fun _ => False) HX1.out).trans HC5.out (fun i hi e => by omega)).ext (fun _ _ e => e)⟩

def amtV (m : Int) : Value := .agg #[.int .u64 (m / 18446744073709551616), .int .u64 (m % 18446744073709551616)]
theorem two_info : (Tryz.prog.info? 161).map (·.size) = some 2 := by kernel_rfl
def absI (s : Int) : Int := if s < 0 then -s else s

set_option maxHeartbeats 1000000 in
set_option maxRecDepth 100000 in
theorem amount_any (s : Int) (w : World) (h1 : -170141183460469231731687303715884105728 < s) (h2 : s < 170141183460469231731687303715884105728) :
    Calls Tryz.prog 80 #[sumV s] w fun e w' => e = .returned (amtV (absI s)) ∧ Ext w w' := by
  have HM := Lib.hid (fun W => minus_any s W h1 h2)
  have HB := Lib.hid (fun W => below_any (s / 18446744073709551616) (s % 18446744073709551616) W)
  have HABS : Hid (absI s = if s < 0 then -s else s) := Lib.hid rfl
  unfold sumV at HM ⊢
  unfold amtV
  obtain ⟨hi, hhi⟩ : ∃ x, x = s / 18446744073709551616 := ⟨_, rfl⟩
  obtain ⟨lo, hlo⟩ : ∃ x, x = s % 18446744073709551616 := ⟨_, rfl⟩
  obtain ⟨mh, hmh⟩ : ∃ x, x = -s / 18446744073709551616 := ⟨_, rfl⟩
  obtain ⟨ml, hml⟩ : ∃ x, x = -s % 18446744073709551616 := ⟨_, rfl⟩
  rw [← hhi, ← hlo, ← hmh, ← hml] at HM
  rw [← hhi, ← hlo] at HB
  rw [← hhi, ← hlo]
  by_cases hs : s < 0
  · have ea : absI s = -s := by rw [HABS.out, if_pos hs]
    rw [ea, ← hmh, ← hml]
    have hd : decide (hi < 0) = true := by simp; omega
    have hw : IntKind.u64.wrap mh = mh := by rw [IntKind.wrap_u64]; omega
    clear hhi hlo hmh hml ea hs h1 h2 HABS
    go_enter Tryz.func80, Tryz.ntmps80
    go_wp2_with fail
    obtain ⟨W, hW⟩ : ∃ W, W = (w.alloc (.cells #[.int .i64 hi, .int .u64 lo] 73 (0, 0))).alloc (.cells #[.int .u64 0, .int .u64 0] 161 (0, 0)) := ⟨_, rfl⟩
    have HXW : Hid (Ext w W) := Lib.hid (by rw [hW]; exact ((Ext.refl w).alloc _).alloc _)
    have HB1 : Hid (W.heap[w.heap.size]? = some (.cells #[.int .i64 hi, .int .u64 lo] 73 (0, 0))) := Lib.hid (by
      rw [hW]
      have h0 := heap_alloc_new w (.cells #[.int .i64 hi, .int .u64 lo] 73 (0, 0))
      exact (((Ext.refl _).alloc _).block (block_lt h0)).trans h0)
    have HB2 : Hid (W.heap[w.heap.size + 1]? = some (.cells #[.int .u64 0, .int .u64 0] 161 (0, 0))) := Lib.hid (by rw [hW]; exact heap_alloc2 w _ _)
    rw [← hW]
    clear hW
    refine (HB.out _).mono ?_
    rintro e w1 ⟨rfl, hx1⟩
    rw [hd]
    have HX1 := Lib.hid (HXW.out.trans hx1)
    have HC1 := Lib.hid ((hx1.block (block_lt HB1.out)).trans HB1.out)
    have HC2 := Lib.hid ((hx1.block (block_lt HB2.out)).trans HB2.out)
    clear hx1 HB1 HB2
    have c0 : w1.cell? ⟨w.heap.size, 0, none⟩ = some (.int .i64 hi) := by have := cell_of_block HC1.out 0; simpa using this
    have c1 : w1.cell? ⟨w.heap.size, 1, none⟩ = some (.int .u64 lo) := by have := cell_of_block HC1.out 1; simpa using this
    go_wp2_with fail
    clear c0 c1
    refine (HM.out _).mono ?_
    rintro e w2 ⟨rfl, hx2⟩
    have HX2 := Lib.hid (HX1.out.trans hx2)
    have HD1 := Lib.hid ((hx2.block (block_lt HC1.out)).trans HC1.out)
    have HD2 := Lib.hid ((hx2.block (block_lt HC2.out)).trans HC2.out)
    clear hx2 HC1 HC2
    go_upto_region 3 with (first | (refine wpList_store_box rfl _ _ _ rfl _ _ #[.int .i64 mh, .int .u64 ml] _ rfl rfl HD1.out rfl sum_info (by simp [Value.oneCell']) ?_; rintro w5 hb5 hc5; have HB5 := Lib.hid hb5; have HC5 := Lib.hid hc5; clear hb5 hc5))
    have HE2 := Lib.hid ((HC5.out.block _ (block_lt HD2.out) (by omega)).trans HD2.out)
    have c0 : w5.cell? ⟨w.heap.size, 0, none⟩ = some (.int .i64 mh) := by have := cell_of_block HB5.out 0; simpa using this
    have c1 : w5.cell? ⟨w.heap.size, 1, none⟩ = some (.int .u64 ml) := by have := cell_of_block HB5.out 1; simpa using this
    have HX5 := Lib.hid (((Chg.of_ext (S := fun _ => False) HX2.out).trans HC5.out (fun i hi e => by omega)).ext (fun _ _ e => e))
    go_wp2_with (first | (refine wpList_store_box rfl _ _ _ rfl _ _ #[.int .u64 mh, .int .u64 ml] _ rfl rfl HE2.out rfl two_info (by simp [Value.oneCell']) ?_; rintro w6 hb6 hc6; have HB6 := Lib.hid hb6; have HC6 := Lib.hid hc6; clear hb6 hc6))
    exact bodyPost_ret (results_box Tryz.results80 _ _ rfl HB6.out Tryz.underlying161 rfl two_info) rfl ⟨rfl, ((Chg.of_ext (S := fun _ => False) HX5.out).trans HC6.out (fun i hi e => by omega)).ext (fun _ _ e => e)⟩
  · have ea : absI s = s := by rw [HABS.out, if_neg hs]
    rw [ea, ← hhi, ← hlo]
    have hd : decide (hi < 0) = false := by simp; omega
    have hw : IntKind.u64.wrap hi = hi := by rw [IntKind.wrap_u64]; omega
    clear hhi hlo hmh hml ea hs h1 h2 HABS HM
    go_enter Tryz.func80, Tryz.ntmps80
    go_wp2_with fail
    obtain ⟨W, hW⟩ : ∃ W, W = (w.alloc (.cells #[.int .i64 hi, .int .u64 lo] 73 (0, 0))).alloc (.cells #[.int .u64 0, .int .u64 0] 161 (0, 0)) := ⟨_, rfl⟩
    have HXW : Hid (Ext w W) := Lib.hid (by rw [hW]; exact ((Ext.refl w).alloc _).alloc _)
    have HB1 : Hid (W.heap[w.heap.size]? = some (.cells #[.int .i64 hi, .int .u64 lo] 73 (0, 0))) := Lib.hid (by
      rw [hW]
      have h0 := heap_alloc_new w (.cells #[.int .i64 hi, .int .u64 lo] 73 (0, 0))
      exact (((Ext.refl _).alloc _).block (block_lt h0)).trans h0)
    have HB2 : Hid (W.heap[w.heap.size + 1]? = some (.cells #[.int .u64 0, .int .u64 0] 161 (0, 0))) := Lib.hid (by rw [hW]; exact heap_alloc2 w _ _)
    rw [← hW]
    clear hW
    refine (HB.out _).mono ?_
    rintro e w1 ⟨rfl, hx1⟩
    rw [hd]
    have HX1 := Lib.hid (HXW.out.trans hx1)
    have HC1 := Lib.hid ((hx1.block (block_lt HB1.out)).trans HB1.out)
    have HC2 := Lib.hid ((hx1.block (block_lt HB2.out)).trans HB2.out)
    clear hx1 HB1 HB2
    have c0 : w1.cell? ⟨w.heap.size, 0, none⟩ = some (.int .i64 hi) := by have := cell_of_block HC1.out 0; simpa using this
    have c1 : w1.cell? ⟨w.heap.size, 1, none⟩ = some (.int .u64 lo) := by have := cell_of_block HC1.out 1; simpa using this
    go_wp2_with (first | (refine wpList_store_box rfl _ _ _ rfl _ _ #[.int .u64 hi, .int .u64 lo] _ rfl rfl HC2.out rfl two_info (by simp [Value.oneCell']) ?_; rintro w6 hb6 hc6; have HB6 := Lib.hid hb6; have HC6 := Lib.hid hc6; clear hb6 hc6))
    exact bodyPost_ret (results_box Tryz.results80 _ _ rfl HB6.out Tryz.underlying161 rfl two_info) rfl ⟨rfl, ((Chg.of_ext (S := fun _ => False) HX1.out).trans HC6.out (fun i hi e => by omega)).ext (fun _ _ e => e)⟩

end Go.Proofs.YtokllgdbmnmieaaGreat

/-! wide: plus, minus, amount of any sums. -/

namespace Go.Proofs.YtokllgdbmnmieaaGreat
open Go.RowKit Go.Lib Go.Sort

set_option maxHeartbeats 1000000 in
set_option maxRecDepth 100000 in
theorem plus_gen (ah al bh bl : Int) (w : World) (a0 : 0 ≤ al) (a1 : al < 18446744073709551616) (b0 : 0 ≤ bl) (b1 : bl < 18446744073709551616) 
    (c0 : -9223372036854775808 ≤ ah) (c1 : ah ≤ 9223372036854775807) (d0 : -9223372036854775808 ≤ bh) (d1 : bh ≤ 9223372036854775807) :
    Calls Tryz.prog 83 #[.agg #[.int .i64 ah, .int .u64 al], .agg #[.int .i64 bh, .int .u64 bl]] w fun e w' => e = .returned (.agg #[.int .i64 (wrap64 (((ah + bh) * 18446744073709551616 + al + bl) / 18446744073709551616)), .int .u64 (((ah + bh) * 18446744073709551616 + al + bl) % 18446744073709551616)]) ∧ Ext w w' := by
  go_enter Tryz.func83, Tryz.ntmps83
  obtain ⟨c, hc⟩ : ∃ c, c = (al + bl) / 18446744073709551616 := ⟨_, rfl⟩
  have k0 : 0 ≤ c := by omega
  have k1 : c ≤ 1 := by omega
  obtain ⟨ua, hua⟩ : ∃ ua, ua = IntKind.u64.wrap ah := ⟨_, rfl⟩
  obtain ⟨ub, hub⟩ : ∃ ub, ub = IntKind.u64.wrap bh := ⟨_, rfl⟩
  have va : 0 ≤ ua := by rw [hua, IntKind.wrap_u64]; omega
  have vb : 0 ≤ ub := by rw [hub, IntKind.wrap_u64]; omega
  have q1 := add64_run ua ub c va vb k0 k1
  rw [hua, hub, hc] at q1
  have q0 := add64_run0 al bl a0 b0
  have HC := Lib.hid hc
  have HUA := Lib.hid hua
  have HUB := Lib.hid hub
  clear hc hua hub
  go_wp2_with (first | simp only [q0] | simp only [q1])
  refine bodyPost_ret (v := .agg #[.int .i64 (wrap64 ((IntKind.u64.wrap ah + IntKind.u64.wrap bh + (al + bl) / 18446744073709551616) % 18446744073709551616)), .int .u64 ((al + bl) % 18446744073709551616)]) (by simp [results, Tryz.results83, go_sem]) rfl ⟨?_, (((Ext.refl w).alloc _).alloc _).alloc _⟩
  have e2 : (al + bl) % 18446744073709551616 = ((ah + bh) * 18446744073709551616 + al + bl) % 18446744073709551616 := by omega
  have e1 : wrap64 ((IntKind.u64.wrap ah + IntKind.u64.wrap bh + (al + bl) / 18446744073709551616) % 18446744073709551616) = wrap64 (((ah + bh) * 18446744073709551616 + al + bl) / 18446744073709551616) := by
    rw [IntKind.wrap_u64, IntKind.wrap_u64]
    unfold wrap64
    omega
  rw [e1, ← e2]

set_option maxHeartbeats 1000000 in
set_option maxRecDepth 100000 in
theorem minus_gen (s : Int) (w : World) (h1 : -170141183460469231731687303715884105728 ≤ s) (h2 : s < 170141183460469231731687303715884105728) :
    Calls Tryz.prog 82 #[sumV s] w fun e w' => e = .returned (.agg #[.int .i64 (wrap64 (-s / 18446744073709551616)), .int .u64 (-s % 18446744073709551616)]) ∧ Ext w w' := by
  have hs : sumOk s := ⟨by omega, h2⟩
  obtain ⟨p1, p2, p3, p4⟩ := sum_parts hs
  have e0 : ((-(s / 18446744073709551616) - 1) + 0) * 18446744073709551616 + (18446744073709551615 - s % 18446744073709551616) + 1 = -s := by omega
  have HP := Lib.hid (fun W => plus_gen (-(s / 18446744073709551616) - 1) (18446744073709551615 - s % 18446744073709551616) 0 1 W (by omega) (by omega) (by decide) (by decide) (by omega) (by omega) (by decide) (by decide))
  rw [e0] at HP
  unfold sumV
  obtain ⟨hi, hhi⟩ : ∃ x, x = s / 18446744073709551616 := ⟨_, rfl⟩
  obtain ⟨lo, hlo⟩ : ∃ x, x = s % 18446744073709551616 := ⟨_, rfl⟩
  obtain ⟨mh, hmh⟩ : ∃ x, x = wrap64 (-s / 18446744073709551616) := ⟨_, rfl⟩
  obtain ⟨ml, hml⟩ : ∃ x, x = -s % 18446744073709551616 := ⟨_, rfl⟩
  rw [← hhi, ← hlo, ← hmh, ← hml] at HP
  rw [← hhi, ← hlo, ← hmh, ← hml]
  rw [← hhi] at p1 p2
  rw [← hlo] at p3 p4
  clear hhi hlo hmh hml e0 hs h1 h2
  go_enter Tryz.func82, Tryz.ntmps82
  go_wp2_with fail
  rw [not_i64 hi p1 p2, not_u64 lo p3 p4]
  obtain ⟨W, hW⟩ : ∃ W, W = (w.alloc (.cells #[.int .i64 hi, .int .u64 lo] 73 (0, 0))).alloc (.cells #[.int .i64 0, .int .u64 0] 73 (0, 0)) := ⟨_, rfl⟩
  have HXW : Hid (Ext w W) := Lib.hid (by rw [hW]; exact ((Ext.refl w).alloc _).alloc _)
  have HB : Hid (W.heap[w.heap.size + 1]? = some (.cells #[.int .i64 0, .int .u64 0] 73 (0, 0))) := Lib.hid (by rw [hW]; exact heap_alloc2 w _ _)
  rw [← hW]
  clear hW
  refine (HP.out _).mono ?_
  rintro e w1 ⟨rfl, hx1⟩
  have HX1 := Lib.hid (HXW.out.trans hx1)
  have HB1 := Lib.hid ((hx1.block (block_lt HB.out)).trans HB.out)
  clear hx1
  go_wp2_with (first | (refine wpList_store_box rfl _ _ _ rfl _ _ #[.int .i64 mh, .int .u64 ml] _ rfl rfl HB1.out rfl sum_info (by simp [Value.oneCell']) ?_; rintro w5 hb5 hc5; have HB5 := Lib.hid hb5; have HC5 := Lib.hid hc5; clear hb5 hc5))
  exact bodyPost_ret (results_box Tryz.results82 _ _ rfl HB5.out Tryz.underlying73 rfl sum_info) rfl ⟨rfl, ((Chg.of_ext (S := fun _ => False) HX1.out).trans HC5.out (fun i hi e => by omega)).ext (fun _ _ e => e)⟩

set_option maxHeartbeats 1000000 in
set_option maxRecDepth 100000 in
theorem amount_gen (s : Int) (w : World) (h1 : -170141183460469231731687303715884105728 ≤ s) (h2 : s < 170141183460469231731687303715884105728) :
    Calls Tryz.prog 80 #[sumV s] w fun e w' => e = .returned (amtV (absI s)) ∧ Ext w w' := by
  have HM := Lib.hid (fun W => minus_gen s W h1 h2)
  have HB := Lib.hid (fun W => below_any (s / 18446744073709551616) (s % 18446744073709551616) W)
  have HABS : Hid (absI s = if s < 0 then -s else s) := Lib.hid rfl
  unfold sumV at HM ⊢
  unfold amtV
  obtain ⟨hi, hhi⟩ : ∃ x, x = s / 18446744073709551616 := ⟨_, rfl⟩
  obtain ⟨lo, hlo⟩ : ∃ x, x = s % 18446744073709551616 := ⟨_, rfl⟩
  obtain ⟨mh, hmh⟩ : ∃ x, x = wrap64 (-s / 18446744073709551616) := ⟨_, rfl⟩
  obtain ⟨mq, hmq⟩ : ∃ x, x = -s / 18446744073709551616 := ⟨_, rfl⟩
  obtain ⟨ml, hml⟩ : ∃ x, x = -s % 18446744073709551616 := ⟨_, rfl⟩
  rw [← hhi, ← hlo, ← hmh, ← hml] at HM
  rw [← hhi, ← hlo] at HB
  rw [← hhi, ← hlo]
  by_cases hs : s < 0
  · have ea : absI s = -s := by rw [HABS.out, if_pos hs]
    rw [ea, ← hmq, ← hml]
    have hd : decide (hi < 0) = true := by simp; omega
    have hw : IntKind.u64.wrap mh = mq := by rw [IntKind.wrap_u64, hmh, hmq]; unfold wrap64; omega
    clear hhi hlo hmh hml hmq ea hs h1 h2 HABS
    go_enter Tryz.func80, Tryz.ntmps80
    go_wp2_with fail
    obtain ⟨W, hW⟩ : ∃ W, W = (w.alloc (.cells #[.int .i64 hi, .int .u64 lo] 73 (0, 0))).alloc (.cells #[.int .u64 0, .int .u64 0] 161 (0, 0)) := ⟨_, rfl⟩
    have HXW : Hid (Ext w W) := Lib.hid (by rw [hW]; exact ((Ext.refl w).alloc _).alloc _)
    have HB1 : Hid (W.heap[w.heap.size]? = some (.cells #[.int .i64 hi, .int .u64 lo] 73 (0, 0))) := Lib.hid (by
      rw [hW]
      have h0 := heap_alloc_new w (.cells #[.int .i64 hi, .int .u64 lo] 73 (0, 0))
      exact (((Ext.refl _).alloc _).block (block_lt h0)).trans h0)
    have HB2 : Hid (W.heap[w.heap.size + 1]? = some (.cells #[.int .u64 0, .int .u64 0] 161 (0, 0))) := Lib.hid (by rw [hW]; exact heap_alloc2 w _ _)
    rw [← hW]
    clear hW
    refine (HB.out _).mono ?_
    rintro e w1 ⟨rfl, hx1⟩
    rw [hd]
    have HX1 := Lib.hid (HXW.out.trans hx1)
    have HC1 := Lib.hid ((hx1.block (block_lt HB1.out)).trans HB1.out)
    have HC2 := Lib.hid ((hx1.block (block_lt HB2.out)).trans HB2.out)
    clear hx1 HB1 HB2
    have c0 : w1.cell? ⟨w.heap.size, 0, none⟩ = some (.int .i64 hi) := by have := cell_of_block HC1.out 0; simpa using this
    have c1 : w1.cell? ⟨w.heap.size, 1, none⟩ = some (.int .u64 lo) := by have := cell_of_block HC1.out 1; simpa using this
    go_wp2_with fail
    clear c0 c1
    refine (HM.out _).mono ?_
    rintro e w2 ⟨rfl, hx2⟩
    have HX2 := Lib.hid (HX1.out.trans hx2)
    have HD1 := Lib.hid ((hx2.block (block_lt HC1.out)).trans HC1.out)
    have HD2 := Lib.hid ((hx2.block (block_lt HC2.out)).trans HC2.out)
    clear hx2 HC1 HC2
    go_upto_region 3 with (first | (refine wpList_store_box rfl _ _ _ rfl _ _ #[.int .i64 mh, .int .u64 ml] _ rfl rfl HD1.out rfl sum_info (by simp [Value.oneCell']) ?_; rintro w5 hb5 hc5; have HB5 := Lib.hid hb5; have HC5 := Lib.hid hc5; clear hb5 hc5))
    have HE2 := Lib.hid ((HC5.out.block _ (block_lt HD2.out) (by omega)).trans HD2.out)
    have c0 : w5.cell? ⟨w.heap.size, 0, none⟩ = some (.int .i64 mh) := by have := cell_of_block HB5.out 0; simpa using this
    have c1 : w5.cell? ⟨w.heap.size, 1, none⟩ = some (.int .u64 ml) := by have := cell_of_block HB5.out 1; simpa using this
    have HX5 := Lib.hid (((Chg.of_ext (S := fun _ => False) HX2.out).trans HC5.out (fun i hi e => by omega)).ext (fun _ _ e => e))
    go_wp2_with (first | (refine wpList_store_box rfl _ _ _ rfl _ _ #[.int .u64 mq, .int .u64 ml] _ rfl rfl HE2.out rfl two_info (by simp [Value.oneCell']) ?_; rintro w6 hb6 hc6; have HB6 := Lib.hid hb6; have HC6 := Lib.hid hc6; clear hb6 hc6))
    exact bodyPost_ret (results_box Tryz.results80 _ _ rfl HB6.out Tryz.underlying161 rfl two_info) rfl ⟨rfl, ((Chg.of_ext (S := fun _ => False) HX5.out).trans HC6.out (fun i hi e => by omega)).ext (fun _ _ e => e)⟩
  · have ea : absI s = s := by rw [HABS.out, if_neg hs]
    rw [ea, ← hhi, ← hlo]
    have hd : decide (hi < 0) = false := by simp; omega
    have hw : IntKind.u64.wrap hi = hi := by rw [IntKind.wrap_u64]; omega
    clear hhi hlo hmh hml hmq ea hs h1 h2 HABS HM
    go_enter Tryz.func80, Tryz.ntmps80
    go_wp2_with fail
    obtain ⟨W, hW⟩ : ∃ W, W = (w.alloc (.cells #[.int .i64 hi, .int .u64 lo] 73 (0, 0))).alloc (.cells #[.int .u64 0, .int .u64 0] 161 (0, 0)) := ⟨_, rfl⟩
    have HXW : Hid (Ext w W) := Lib.hid (by rw [hW]; exact ((Ext.refl w).alloc _).alloc _)
    have HB1 : Hid (W.heap[w.heap.size]? = some (.cells #[.int .i64 hi, .int .u64 lo] 73 (0, 0))) := Lib.hid (by
      rw [hW]
      have h0 := heap_alloc_new w (.cells #[.int .i64 hi, .int .u64 lo] 73 (0, 0))
      exact (((Ext.refl _).alloc _).block (block_lt h0)).trans h0)
    have HB2 : Hid (W.heap[w.heap.size + 1]? = some (.cells #[.int .u64 0, .int .u64 0] 161 (0, 0))) := Lib.hid (by rw [hW]; exact heap_alloc2 w _ _)
    rw [← hW]
    clear hW
    refine (HB.out _).mono ?_
    rintro e w1 ⟨rfl, hx1⟩
    rw [hd]
    have HX1 := Lib.hid (HXW.out.trans hx1)
    have HC1 := Lib.hid ((hx1.block (block_lt HB1.out)).trans HB1.out)
    have HC2 := Lib.hid ((hx1.block (block_lt HB2.out)).trans HB2.out)
    clear hx1 HB1 HB2
    have c0 : w1.cell? ⟨w.heap.size, 0, none⟩ = some (.int .i64 hi) := by have := cell_of_block HC1.out 0; simpa using this
    have c1 : w1.cell? ⟨w.heap.size, 1, none⟩ = some (.int .u64 lo) := by have := cell_of_block HC1.out 1; simpa using this
    go_wp2_with (first | (refine wpList_store_box rfl _ _ _ rfl _ _ #[.int .u64 hi, .int .u64 lo] _ rfl rfl HC2.out rfl two_info (by simp [Value.oneCell']) ?_; rintro w6 hb6 hc6; have HB6 := Lib.hid hb6; have HC6 := Lib.hid hc6; clear hb6 hc6))
    exact bodyPost_ret (results_box Tryz.results80 _ _ rfl HB6.out Tryz.underlying161 rfl two_info) rfl ⟨rfl, ((Chg.of_ext (S := fun _ => False) HX1.out).trans HC6.out (fun i hi e => by omega)).ext (fun _ _ e => e)⟩

end Go.Proofs.YtokllgdbmnmieaaGreat

/-! The document's limbs: Times, by a number above 0. -/

namespace Go.Proofs.YtokllgdbmnmieaaGreat
open Go.RowKit Go.Lib Go.Sort

theorem mul_bnd {a B : Int} {P N : Nat} (h : P ≤ N) (h1 : -B ≤ a * (N : Int)) (h2 : a * (N : Int) ≤ B) (hB : 0 ≤ B) : -B ≤ a * (P : Int) ∧ a * (P : Int) ≤ B := by
  rcases Int.lt_or_le a 0 with ha | ha
  · have h3 : (-a) * (P : Int) ≤ (-a) * (N : Int) := Int.mul_le_mul_of_nonneg_left (by omega) (by omega)
    have h4 : 0 ≤ (-a) * (P : Int) := Int.mul_nonneg (by omega) (by omega)
    rw [Int.neg_mul] at h3 h4
    rw [Int.neg_mul] at h3
    omega
  · have h3 : a * (P : Int) ≤ a * (N : Int) := Int.mul_le_mul_of_nonneg_left (by omega) ha
    have h4 : 0 ≤ a * (P : Int) := Int.mul_nonneg ha (by omega)
    omega
theorem pow_cast7 (s : Nat) : ((2 ^ s : Nat) : Int) = (2 : Int) ^ s := by simp
theorem u64_and1 (n : Int) (h1 : 0 ≤ n) (h2 : n < 18446744073709551616) : bits .and .u64 n 1 = n % 2 := by
  have h : (BitVec.ofInt 64 1).toNat = 2 ^ 1 - 1 := by decide
  have key : (BitVec.ofInt 64 n &&& BitVec.ofInt 64 1).toNat = (n % ((2 ^ 64 : Nat) : Int)).toNat % 2 ^ 1 := by
    rw [BitVec.toNat_and, BitVec.toNat_ofInt, h, Nat.and_two_pow_sub_one_eq_mod]
  show IntKind.u64.wrap ((BitVec.ofInt 64 n &&& BitVec.ofInt 64 1).toNat : Nat) = n % 2
  rw [key, IntKind.wrap_u64]
  omega
theorem pre_step (N k : Nat) (hk : k < 64) : N / 2 ^ (64 - (k + 1)) = 2 * (N / 2 ^ (64 - k)) + N / 2 ^ (64 - (k + 1)) % 2 := by
  have e : 2 ^ (64 - k) = 2 ^ (64 - (k + 1)) * 2 := by rw [← Nat.pow_succ]; congr 1; omega
  rw [e, ← Nat.div_div_eq_div_mul]
  omega

set_option maxHeartbeats 4000000 in
set_option maxRecDepth 100000 in
theorem rtimes_any (a : Int) (N : Nat) (w : World) (hN1 : 1 ≤ N) (hN2 : N < 9223372036854775808) (a1 : -85070591730234615865843651857942052864 ≤ a * (N : Int)) (a2 : a * (N : Int) ≤ 85070591730234615865843651857942052864) :
    Calls Tryz.prog 100 #[.agg (lmA a), .int .i64 (N : Int)] w fun e w' => e = .returned (.tuple #[.agg (lmA (a * (N : Int))), .bool true]) ∧ Ext w w' := by
  have HBN := Lib.hid (fun P (h : P ≤ N) => mul_bnd h a1 a2 (by decide))
  have HAD := Lib.hid (fun (P Q R : Nat) (hp : P ≤ N) (hq : Q ≤ N) (hr : R ≤ N) (e : P + Q = R) (W : World) => by
    have b1 := mul_bnd hp a1 a2 (by decide)
    have b2 := mul_bnd hq a1 a2 (by decide)
    have b3 := mul_bnd hr a1 a2 (by decide)
    have e2 : a * (P : Int) + a * (Q : Int) = a * (R : Int) := by rw [← Int.mul_add, ← e]; simp
    have := radd_any (a * (P : Int)) (a * (Q : Int)) W (by omega) (by omega) (by omega) (by omega) (by rw [e2]; omega) (by rw [e2]; omega)
    rw [e2] at this
    exact this)
  clear a1 a2 HBN
  obtain ⟨A, hA⟩ : ∃ A, A = lmA a := ⟨_, rfl⟩
  have HA : Hid (A = lmA (a * ((1 : Nat) : Int))) := Lib.hid (by rw [hA]; simp)
  rw [← hA]
  have HI : Hid (∀ x, (Tryz.prog.info? 88).map (·.size) = some (lmA x).size) := Lib.hid (fun x => lm_info)
  have HIA : Hid ((Tryz.prog.info? 88).map (·.size) = some A.size) := Lib.hid (by rw [hA]; exact lm_info)
  have HAS : Hid (A.size = 8 ∧ A.all (·.oneCell') = true) := Lib.hid (by rw [hA]; exact ⟨rfl, by simp [lmA, Value.oneCell']⟩)
  clear hA
  have hn0 : ((N : Int) == 0) = false := beq_eq_false_iff_ne.2 (by omega)
  have hnl : ¬ (N : Int) < 0 := by omega
  have hnw : IntKind.u64.wrap (N : Int) = (N : Int) := by rw [IntKind.wrap_u64]; omega
  go_enter Tryz.func100, Tryz.ntmps100
  go_upto_region 8 with fail
  obtain ⟨W, hW⟩ : ∃ W, W = ((w.alloc (.cells A 88 (0, 0))).alloc (.cells #[.int .i64 0, .int .i64 0, .int .i64 0, .int .i64 0, .int .i64 0, .int .i64 0, .int .i64 0, .int .i64 0] 88 (0, 0))).alloc (.cells #[.int .i64 0, .int .i64 0, .int .i64 0, .int .i64 0, .int .i64 0, .int .i64 0, .int .i64 0, .int .i64 0] 88 (0, 0)) := ⟨_, rfl⟩
  have HXW : Hid (Ext w W) := Lib.hid (by rw [hW]; exact (((Ext.refl w).alloc _).alloc _).alloc _)
  have HB1 : Hid (W.heap[w.heap.size]? = some (.cells A 88 (0, 0))) := Lib.hid (by
    rw [hW]
    have h0 := heap_alloc_new w (.cells A 88 (0, 0))
    exact ((((Ext.refl _).alloc _).alloc _).block (block_lt h0)).trans h0)
  have HB2 : Hid (W.heap[w.heap.size + 1]? = some (.cells #[.int .i64 0, .int .i64 0, .int .i64 0, .int .i64 0, .int .i64 0, .int .i64 0, .int .i64 0, .int .i64 0] 88 (0, 0))) := Lib.hid (by
    rw [hW]
    have h0 := heap_alloc2 w (.cells A 88 (0, 0)) (.cells #[.int .i64 0, .int .i64 0, .int .i64 0, .int .i64 0, .int .i64 0, .int .i64 0, .int .i64 0, .int .i64 0] 88 (0, 0))
    exact (((Ext.refl _).alloc _).block (block_lt h0)).trans h0)
  have HB3 : Hid (W.heap[w.heap.size + 1 + 1]? = some (.cells #[.int .i64 0, .int .i64 0, .int .i64 0, .int .i64 0, .int .i64 0, .int .i64 0, .int .i64 0, .int .i64 0] 88 (0, 0))) := Lib.hid (by rw [hW]; exact heap_alloc3' w _ _ _)
  have HSZ : Hid (W.heap.size = w.heap.size + 3) := Lib.hid (by rw [hW]; simp)
  rw [← hW]
  clear hW
  go_upto_region 9 with (first | (refine wpList_load_box rfl _ _ rfl _ _ _ _ _ rfl HB1.out Tryz.underlying88 rfl HIA.out ?_) | (refine wpList_store_box rfl _ _ _ rfl _ _ _ _ rfl rfl (heap_alloc_new W _) (by rw [HAS.out.1]; rfl) HIA.out HAS.out.2 ?_; rintro V hb2 hc2; have HS := Lib.hid hb2; have HXV : Hid (Ext W V) := Lib.hid (((Chg.of_ext ((Ext.refl W).alloc _)).trans hc2 (fun _ _ e => e)).ext (fun i hi e => by omega)); clear hb2 hc2))
  dsimp only [Act.put]
  obtain ⟨p9, hp9⟩ : ∃ p9, p9 = W.heap.size := ⟨_, rfl⟩
  rw [← hp9] at HS ⊢
  have HP9 : Hid (p9 = w.heap.size + 3 ∧ p9 = W.heap.size) := Lib.hid (by have := HSZ.out; omega)
  have HR1 := Lib.hid ((HXV.out.block (block_lt HB2.out)).trans HB2.out)
  have HO1 := Lib.hid ((HXV.out.block (block_lt HB3.out)).trans HB3.out)
  have HXV2 := Lib.hid (HXW.out.trans HXV.out)
  clear HB1 HB2 HB3 HXV hp9 HXW HSZ
  go_wp2_with fail
  go_loopw [10, 11] (fun s10 s11 wr => ∃ (k : Nat) (z : Int), s10 = .bool true ∧ s11 = .int .i64 z ∧ z = 63 - (k : Int) ∧ k ≤ 64 ∧ Hid (wr.heap[w.heap.size + 1 + 1]? = some (.cells (lmA (a * ((N / 2 ^ (64 - k) : Nat) : Int))) 88 (0, 0)) ∧ Ext w wr ∧ wr.heap[w.heap.size + 1]? = some (.cells #[.int .i64 0, .int .i64 0, .int .i64 0, .int .i64 0, .int .i64 0, .int .i64 0, .int .i64 0, .int .i64 0] 88 (0, 0)) ∧ wr.heap[p9]? = some (.cells A 88 (0, 0)))) (fun _ t _ => (RowKit.intOf t + 1).toNat)
  case atStart => exact ⟨0, 63, rfl, rfl, by omega, by omega, Lib.hid ⟨by
    have e : N / 2 ^ (64 - 0) = 0 := Nat.div_eq_of_lt (by omega)
    rw [e]
    simpa [lmA] using HO1.out, HXV2.out, HR1.out, HS.out⟩⟩
  case round =>
    clear HS HR1 HO1 HXV2
    obtain ⟨k, z, rfl, rfl, hz, hk, HR⟩ := hrel
    have HZ := Lib.hid hz
    by_cases hz0 : 0 ≤ z
    · have hk64 : k < 64 := by omega
      have HST := Lib.hid (pre_step N k hk64)
      obtain ⟨P, hP⟩ : ∃ P, P = N / 2 ^ (64 - k) := ⟨_, rfl⟩
      obtain ⟨P3, hP3⟩ : ∃ P3, P3 = N / 2 ^ (64 - (k + 1)) := ⟨_, rfl⟩
      have HP3 := Lib.hid hP3
      rw [← hP] at HR HST
      rw [← hP3] at HST
      have hP3N : P3 ≤ N := by rw [hP3]; exact Nat.div_le_self _ _
      clear hP hP3 hz
      go_wp2_with (first | (refine wpList_load_box rfl _ _ rfl _ _ _ _ _ rfl HR.out.1 Tryz.underlying88 rfl (HI.out _) ?_))
      refine (HAD.out P P (P + P) (by have := HST.out; omega) (by have := HST.out; omega) (by have := HST.out; omega) rfl _).mono ?_
      rintro e w1 ⟨rfl, hx1⟩
      have HR1 := Lib.hid (And.intro ((hx1.block (block_lt HR.out.1)).trans HR.out.1) (And.intro (HR.out.2.1.trans hx1) (And.intro ((hx1.block (block_lt HR.out.2.2.1)).trans HR.out.2.2.1) ((hx1.block (block_lt HR.out.2.2.2)).trans HR.out.2.2.2))))
      clear hx1 HR
      go_upto_region 18 with (first | (refine wpList_store_box rfl _ _ _ rfl _ _ _ _ rfl rfl HR1.out.1 rfl (HI.out _) (by simp [lmA, Value.oneCell']) ?_; rintro w2 hb2 hc2; have HO2 := Lib.hid hb2; have HC2 := Lib.hid hc2; clear hb2 hc2))
      have hO1 : w1.heap.size ≤ w2.heap.size := HC2.out.size
      have HR2 := Lib.hid (And.intro HO2.out (And.intro (((Chg.of_ext (S := fun i => w.heap.size ≤ i) HR1.out.2.1).trans HC2.out (fun i hi e => by omega)).ext (fun i hi e => by omega)) (And.intro ((HC2.out.block _ (block_lt HR1.out.2.2.1) (by omega)).trans HR1.out.2.2.1) ((HC2.out.block _ (block_lt HR1.out.2.2.2) (by have := HP9.out; omega)).trans HR1.out.2.2.2))))
      clear HR1 HO2 HC2 hO1
      obtain ⟨zn, hzn⟩ := Int.eq_ofNat_of_zero_le hz0
      subst hzn
      have hsh : (N : Int) / 2 ^ min (IntKind.u64.wrap (zn : Int)).toNat 64 = (P3 : Int) := by
        have e : zn = 64 - (k + 1) := by have := HZ.out; omega
        have e2 : min (IntKind.u64.wrap (zn : Int)).toNat 64 = zn := by rw [IntKind.wrap_u64]; omega
        rw [e2, HP3.out, ← e, Int.natCast_ediv, pow_cast7]
      have hand : bits .and .u64 (P3 : Int) 1 = ((P3 % 2 : Nat) : Int) := by
        rw [u64_and1 _ (by omega) (by omega)]; omega
      have hwz : wrap64 ((zn : Int) - 1) = (zn : Int) - 1 := IntWalk.wrap64_in _ (by have := HZ.out; omega)
      clear hz0
      rcases Nat.mod_two_eq_zero_or_one P3 with hb | hb
      · have hand2 : bits .and .u64 (P3 : Int) 1 = 0 := by rw [hand, hb]; rfl
        clear hand
        go_wp2_with fail
        refine ⟨⟨k + 1, (zn : Int) - 1, rfl, by go_num, by have := HZ.out; omega, by omega, ?_⟩, by simp [RowKit.intOf]; omega⟩
        have e : ((N / 2 ^ (64 - (k + 1)) : Nat) : Int) = (P : Int) + (P : Int) := by rw [← HP3.out]; have := HST.out; omega
        rw [e]
        exact HR2
      · have hand2 : bits .and .u64 (P3 : Int) 1 = 1 := by rw [hand, hb]; rfl
        clear hand
        go_wp2_with (first | (refine wpList_load_box rfl _ _ rfl _ _ _ _ _ rfl HR2.out.1 Tryz.underlying88 rfl (HI.out _) ?_) | (refine wpList_load_box rfl _ _ rfl _ _ _ _ _ rfl HR2.out.2.2.2 Tryz.underlying88 rfl HIA.out ?_))
        have HAD1 := Lib.hid (fun W => HAD.out (P + P) 1 P3 (by have := HST.out; omega) hN1 hP3N (by have := HST.out; omega) W)
        rw [← HA.out] at HAD1
        refine (HAD1.out _).mono ?_
        rintro e w3 ⟨rfl, hx3⟩
        have HR3 := Lib.hid (And.intro ((hx3.block (block_lt HR2.out.1)).trans HR2.out.1) (And.intro (HR2.out.2.1.trans hx3) (And.intro ((hx3.block (block_lt HR2.out.2.2.1)).trans HR2.out.2.2.1) ((hx3.block (block_lt HR2.out.2.2.2)).trans HR2.out.2.2.2))))
        clear hx3 HR2
        go_wp2_with (first | (refine wpList_store_box rfl _ _ _ rfl _ _ _ _ rfl rfl HR3.out.1 rfl (HI.out _) (by simp [lmA, Value.oneCell']) ?_; rintro w4 hb2 hc2; have HO4 := Lib.hid hb2; have HC4 := Lib.hid hc2; clear hb2 hc2))
        refine ⟨⟨k + 1, (zn : Int) - 1, rfl, by go_num, by have := HZ.out; omega, by omega, ?_⟩, by simp [RowKit.intOf]; omega⟩
        rw [← HP3.out]
        have hO1 : w3.heap.size ≤ w4.heap.size := HC4.out.size
        exact Lib.hid (And.intro HO4.out (And.intro (((Chg.of_ext (S := fun i => w.heap.size ≤ i) HR3.out.2.1).trans HC4.out (fun i hi e => by omega)).ext (fun i hi e => by omega)) (And.intro ((HC4.out.block _ (block_lt HR3.out.2.2.1) (by omega)).trans HR3.out.2.2.1) ((HC4.out.block _ (block_lt HR3.out.2.2.2) (by have := HP9.out; omega)).trans HR3.out.2.2.2))))
    · have hk64 : k = 64 := by omega
      subst hk64
      have HF : Hid (N / 2 ^ (64 - 64) = N) := Lib.hid (by simp)
      rw [HF.out] at HR
      go_wp2_with (first | (refine wpList_load_box rfl _ _ rfl _ _ _ _ _ rfl HR.out.1 Tryz.underlying88 rfl (HI.out _) ?_) | (refine wpList_store_box rfl _ _ _ rfl _ _ _ _ rfl rfl HR.out.2.2.1 rfl (HI.out _) (by simp [lmA, Value.oneCell']) ?_; rintro w5 hb5 hc5; have HB5 := Lib.hid hb5; have HC5 := Lib.hid hc5; clear hb5 hc5))
      exact bodyPost_ret (results_box_tmp Tryz.results100 _ _ rfl HB5.out Tryz.underlying88 rfl (HI.out _)) rfl ⟨rfl, ((Chg.of_ext (S := fun _ => False) HR.out.2.1).trans HC5.out (fun i hi e => by omega)).ext (fun _ _ e => e)⟩
end Go.Proofs.YtokllgdbmnmieaaGreat

/-! The document's limbs: Div, bit by bit. -/

namespace Go.Proofs.YtokllgdbmnmieaaGreat
open Go.RowKit Go.Lib Go.Sort

/-- The j-th part. -/
def limbN (M j : Nat) : Nat := M / 65536 ^ j % 65536
theorem lmA_get (M j : Nat) (hj : j < 8) : (lmA (M : Int))[j]? = some (.int .i64 (limbN M j : Nat)) := by
  unfold limbN
  rcases (show j = 0 ∨ j = 1 ∨ j = 2 ∨ j = 3 ∨ j = 4 ∨ j = 5 ∨ j = 6 ∨ j = 7 by omega) with h | h | h | h | h | h | h | h <;> subst h <;> simp [lmA]
theorem bit_at (M j t : Nat) (ht : t < 16) : limbN M j / 2 ^ t % 2 = M / 2 ^ (16 * j + t) % 2 := by
  have e : (65536 : Nat) ^ j = 2 ^ (16 * j) := by rw [Nat.pow_mul]
  have e16 : (65536 : Nat) = 2 ^ t * 2 ^ (16 - t) := by rw [← Nat.pow_add, show t + (16 - t) = 16 by omega]
  unfold limbN
  rw [e, Nat.pow_add, ← Nat.div_div_eq_div_mul]
  obtain ⟨X, hX⟩ : ∃ X, X = M / 2 ^ (16 * j) := ⟨_, rfl⟩
  rw [← hX, e16, Nat.mod_mul_right_div_self]
  have e2 : 2 ^ (16 - t) = 2 * 2 ^ (15 - t) := by rw [← Nat.pow_succ']; congr 1; omega
  rw [e2]
  exact Nat.mod_mul_right_mod _ _ _

/-- A bit more, where all lower ones are 0. -/
theorem limb_more (c j t m : Nat) (ht : t < 16) : limbN (2 ^ (16 * j + t) * (2 * c + 1)) m = if m = j then limbN (2 ^ (16 * j + t) * (2 * c)) m + 2 ^ t else limbN (2 ^ (16 * j + t) * (2 * c)) m := by
  have e : ∀ m, (65536 : Nat) ^ m = 2 ^ (16 * m) := fun m => by rw [Nat.pow_mul]
  unfold limbN
  rw [e]
  rcases Nat.lt_trichotomy m j with h | h | h
  · rw [if_neg (by omega)]
    have e1 : ∀ y, 2 ^ (16 * j + t) * y / 2 ^ (16 * m) % 65536 = 0 := fun y => by
      have : 2 ^ (16 * j + t) * y = 2 ^ (16 * m) * (65536 * (2 ^ (16 * j + t - 16 * m - 16) * y)) := by
        rw [show (65536 : Nat) = 2 ^ 16 from rfl, ← Nat.mul_assoc, ← Nat.mul_assoc, ← Nat.pow_add, ← Nat.pow_add]
        congr 2
        omega
      rw [this, Nat.mul_div_cancel_left _ (Nat.pow_pos (by decide)), Nat.mul_mod_right]
    rw [e1, e1]
  · subst h
    rw [if_pos rfl]
    have e1 : ∀ y, 2 ^ (16 * m + t) * y / 2 ^ (16 * m) = 2 ^ t * y := fun y => by rw [Nat.pow_add, Nat.mul_assoc, Nat.mul_div_cancel_left _ (Nat.pow_pos (by decide))]
    rw [e1, e1]
    have e16 : (65536 : Nat) = 2 ^ t * (2 * 2 ^ (15 - t)) := by rw [← Nat.pow_succ', ← Nat.pow_add, show t + (15 - t + 1) = 16 by omega]
    rw [e16, Nat.mul_mod_mul_left, Nat.mul_mod_mul_left]
    have e3 : (2 * c + 1) % (2 * 2 ^ (15 - t)) = 2 * c % (2 * 2 ^ (15 - t)) + 1 := by
      rw [Nat.mul_mod_mul_left]
      have hp := Nat.pow_pos (n := 15 - t) (show 0 < 2 by decide)
      have := Nat.div_add_mod c (2 ^ (15 - t))
      have hl := Nat.mod_lt c hp
      rw [show 2 * c + 1 = 2 * (c % 2 ^ (15 - t)) + 1 + 2 * 2 ^ (15 - t) * (c / 2 ^ (15 - t)) by rw [Nat.mul_assoc]; omega, Nat.add_mul_mod_self_left]
      exact Nat.mod_eq_of_lt (by omega)
    rw [e3, Nat.mul_add, Nat.mul_one]
  · rw [if_neg (by omega)]
    congr 1
    have hs : 2 ^ (16 * m) = 2 ^ (16 * j + t) * (2 * 2 ^ (16 * m - (16 * j + t) - 1)) := by
      rw [← Nat.pow_succ', ← Nat.pow_add]; congr 1; omega
    rw [hs, Nat.mul_div_mul_left _ _ (Nat.pow_pos (by decide)), Nat.mul_div_mul_left _ _ (Nat.pow_pos (by decide)), ← Nat.div_div_eq_div_mul, ← Nat.div_div_eq_div_mul]
    congr 1
    omega
theorem lmA_more (c j t : Nat) (ht : t < 16) (hj : j < 8) : (lmA ((2 ^ (16 * j + t) * (2 * c) : Nat) : Int)).setIfInBounds j (.int .i64 ((limbN (2 ^ (16 * j + t) * (2 * c)) j + 2 ^ t : Nat) : Int)) = lmA ((2 ^ (16 * j + t) * (2 * c + 1) : Nat) : Int) := by
  apply Array.ext_getElem?
  intro m
  rw [Array.getElem?_setIfInBounds]
  rcases Nat.lt_or_ge m 8 with h | h
  · rw [lmA_get _ _ h, lmA_get _ _ h, limb_more c j t m ht]
    by_cases e : m = j
    · subst e; simp [lmA]; omega
    · rw [if_neg (fun h => e h.symm), if_neg e]
  · rw [if_neg (by omega), Array.getElem?_eq_none (by simp [lmA]; omega), Array.getElem?_eq_none (by simp [lmA]; omega)]
end Go.Proofs.YtokllgdbmnmieaaGreat
