/- wide: minus, amount. -/
import Derived.Test.YtipbniaehhoaaaaDoorPlu
import Derived.Deep.DeepCutAuto
import Derived.Test.YtipbniaehhoaaaaDoorBox
namespace Go.Proofs.YtipbniaehhoaaaaDoor
open Go.RowKit Go.Lib Go.Sort

theorem sum_info : (Tryd.prog.info? 35).map (·.size) = some 2 := by kernel_rfl
theorem not_i64 (n : Int) (h1 : -9223372036854775808 ≤ n) (h2 : n ≤ 9223372036854775807) : bits .xor .i64 (-1) n = -n - 1 := by
  have h : BitVec.ofInt 64 (-1) = BitVec.allOnes 64 := by decide
  have key : (BitVec.ofInt 64 (-1) ^^^ BitVec.ofInt 64 n).toNat = 2 ^ 64 - 1 - (n % ((2 ^ 64 : Nat) : Int)).toNat := by
    rw [h, BitVec.allOnes_xor, BitVec.toNat_not, BitVec.toNat_ofInt]
  show IntKind.i64.wrap ((BitVec.ofInt 64 (-1) ^^^ BitVec.ofInt 64 n).toNat : Nat) = -n - 1
  rw [key, IntKind.wrap_i64]
  omega
theorem not_u64 (n : Int) (h1 : 0 ≤ n) (h2 : n < 18446744073709551616) : bits .xor .u64 IntKind.u64.max n = 18446744073709551615 - n := by
  have h : BitVec.ofInt 64 IntKind.u64.max = BitVec.allOnes 64 := by decide
  have key : (BitVec.ofInt 64 IntKind.u64.max ^^^ BitVec.ofInt 64 n).toNat = 2 ^ 64 - 1 - (n % ((2 ^ 64 : Nat) : Int)).toNat := by
    rw [h, BitVec.allOnes_xor, BitVec.toNat_not, BitVec.toNat_ofInt]
  show IntKind.u64.wrap ((BitVec.ofInt 64 IntKind.u64.max ^^^ BitVec.ofInt 64 n).toNat : Nat) = _
  rw [key, IntKind.wrap_u64]
  omega

set_option maxHeartbeats 1000000 in
set_option maxRecDepth 100000 in
theorem minus_any (s : Int) (w : World) (h1 : -170141183460469231731687303715884105728 < s) (h2 : s < 170141183460469231731687303715884105728) :
    Calls Tryd.prog 18 #[sumV s] w fun e w' => e = .returned (sumV (-s)) ∧ Ext w w' := by
  have hs : sumOk s := ⟨by omega, h2⟩
  obtain ⟨p1, p2, p3, p4⟩ := sum_parts hs
  have e0 : ((-(s / 18446744073709551616) - 1) + 0) * 18446744073709551616 + (18446744073709551615 - s % 18446744073709551616) + 1 = -s := by omega
  have HP := Lib.hid (fun W => plus_any (-(s / 18446744073709551616) - 1) (18446744073709551615 - s % 18446744073709551616) 0 1 W (by omega) (by omega) (by decide) (by decide) (by omega) (by omega) (by decide) (by decide) (by rw [e0]; unfold sumOk; omega))
  rw [e0] at HP
  unfold sumV at HP ⊢
  obtain ⟨hi, hhi⟩ : ∃ x, x = s / 18446744073709551616 := ⟨_, rfl⟩
  obtain ⟨lo, hlo⟩ : ∃ x, x = s % 18446744073709551616 := ⟨_, rfl⟩
  obtain ⟨mh, hmh⟩ : ∃ x, x = -s / 18446744073709551616 := ⟨_, rfl⟩
  obtain ⟨ml, hml⟩ : ∃ x, x = -s % 18446744073709551616 := ⟨_, rfl⟩
  rw [← hhi, ← hlo, ← hmh, ← hml] at HP
  rw [← hhi, ← hlo, ← hmh, ← hml]
  rw [← hhi] at p1 p2
  rw [← hlo] at p3 p4
  clear hhi hlo hmh hml e0 hs h1 h2
  go_enter Tryd.func18, Tryd.ntmps18
  go_wp2_with fail
  rw [not_i64 hi p1 p2, not_u64 lo p3 p4]
  obtain ⟨W, hW⟩ : ∃ W, W = (w.alloc (.cells #[.int .i64 hi, .int .u64 lo] 35 (0, 0))).alloc (.cells #[.int .i64 0, .int .u64 0] 35 (0, 0)) := ⟨_, rfl⟩
  have HXW : Hid (Ext w W) := Lib.hid (by rw [hW]; exact ((Ext.refl w).alloc _).alloc _)
  have HB : Hid (W.heap[w.heap.size + 1]? = some (.cells #[.int .i64 0, .int .u64 0] 35 (0, 0))) := Lib.hid (by rw [hW]; exact heap_alloc2 w _ _)
  rw [← hW]
  clear hW
  refine (HP.out _).mono ?_
  rintro e w1 ⟨rfl, hx1⟩
  have HX1 := Lib.hid (HXW.out.trans hx1)
  have HB1 := Lib.hid ((hx1.block (block_lt HB.out)).trans HB.out)
  clear hx1
  go_wp2_with (first | (refine wpList_store_box rfl _ _ _ rfl _ _ #[.int .i64 mh, .int .u64 ml] _ rfl rfl HB1.out rfl sum_info (by simp [Value.oneCell']) ?_; rintro w5 hb5 hc5; have HB5 := Lib.hid hb5; have HC5 := Lib.hid hc5; clear hb5 hc5))
  exact bodyPost_ret (results_box Tryd.results18 _ _ rfl HB5.out Tryd.underlying35 rfl sum_info) rfl ⟨rfl, ((Chg.of_ext (S := fun _ => False) HX1.out).trans HC5.out (fun i hi e => by omega)).ext (fun _ _ e => e)⟩

def amtV (m : Int) : Value := .agg #[.int .u64 (m / 18446744073709551616), .int .u64 (m % 18446744073709551616)]
theorem two_info : (Tryd.prog.info? 40).map (·.size) = some 2 := by kernel_rfl
def absI (s : Int) : Int := if s < 0 then -s else s

set_option maxHeartbeats 1000000 in
set_option maxRecDepth 100000 in
theorem amount_any (s : Int) (w : World) (h1 : -170141183460469231731687303715884105728 < s) (h2 : s < 170141183460469231731687303715884105728) :
    Calls Tryd.prog 12 #[sumV s] w fun e w' => e = .returned (amtV (absI s)) ∧ Ext w w' := by
  have HM := Lib.hid (fun W => minus_any s W h1 h2)
  have HB := Lib.hid (fun W => below_any (s / 18446744073709551616) (s % 18446744073709551616) W)
  have HABS : Hid (absI s = if s < 0 then -s else s) := Lib.hid rfl
  unfold sumV at HM ⊢
  unfold amtV
  obtain ⟨hi, hhi⟩ : ∃ x, x = s / 18446744073709551616 := ⟨_, rfl⟩
  obtain ⟨lo, hlo⟩ : ∃ x, x = s % 18446744073709551616 := ⟨_, rfl⟩
  obtain ⟨mh, hmh⟩ : ∃ x, x = -s / 18446744073709551616 := ⟨_, rfl⟩
  obtain ⟨ml, hml⟩ : ∃ x, x = -s % 18446744073709551616 := ⟨_, rfl⟩
  rw [← hhi, ← hlo, ← hmh, ← hml] at HM
  rw [← hhi, ← hlo] at HB
  rw [← hhi, ← hlo]
  by_cases hs : s < 0
  · have ea : absI s = -s := by rw [HABS.out, if_pos hs]
    rw [ea, ← hmh, ← hml]
    have hd : decide (hi < 0) = true := by simp; omega
    have hw : IntKind.u64.wrap mh = mh := by rw [IntKind.wrap_u64]; omega
    clear hhi hlo hmh hml ea hs h1 h2 HABS
    go_enter Tryd.func12, Tryd.ntmps12
    go_wp2_with fail
    obtain ⟨W, hW⟩ : ∃ W, W = (w.alloc (.cells #[.int .i64 hi, .int .u64 lo] 35 (0, 0))).alloc (.cells #[.int .u64 0, .int .u64 0] 40 (0, 0)) := ⟨_, rfl⟩
    have HXW : Hid (Ext w W) := Lib.hid (by rw [hW]; exact ((Ext.refl w).alloc _).alloc _)
    have HB1 : Hid (W.heap[w.heap.size]? = some (.cells #[.int .i64 hi, .int .u64 lo] 35 (0, 0))) := Lib.hid (by
      rw [hW]
      have h0 := heap_alloc_new w (.cells #[.int .i64 hi, .int .u64 lo] 35 (0, 0))
      exact (((Ext.refl _).alloc _).block (block_lt h0)).trans h0)
    have HB2 : Hid (W.heap[w.heap.size + 1]? = some (.cells #[.int .u64 0, .int .u64 0] 40 (0, 0))) := Lib.hid (by rw [hW]; exact heap_alloc2 w _ _)
    rw [← hW]
    clear hW
    refine (HB.out _).mono ?_
    rintro e w1 ⟨rfl, hx1⟩
    rw [hd]
    have HX1 := Lib.hid (HXW.out.trans hx1)
    have HC1 := Lib.hid ((hx1.block (block_lt HB1.out)).trans HB1.out)
    have HC2 := Lib.hid ((hx1.block (block_lt HB2.out)).trans HB2.out)
    clear hx1 HB1 HB2
    have c0 : w1.cell? ⟨w.heap.size, 0, none⟩ = some (.int .i64 hi) := by have := cell_of_block HC1.out 0; simpa using this
    have c1 : w1.cell? ⟨w.heap.size, 1, none⟩ = some (.int .u64 lo) := by have := cell_of_block HC1.out 1; simpa using this
    go_wp2_with fail
    clear c0 c1
    refine (HM.out _).mono ?_
    rintro e w2 ⟨rfl, hx2⟩
    have HX2 := Lib.hid (HX1.out.trans hx2)
    have HD1 := Lib.hid ((hx2.block (block_lt HC1.out)).trans HC1.out)
    have HD2 := Lib.hid ((hx2.block (block_lt HC2.out)).trans HC2.out)
    clear hx2 HC1 HC2
    go_upto_region 3 with (first | (refine wpList_store_box rfl _ _ _ rfl _ _ #[.int .i64 mh, .int .u64 ml] _ rfl rfl HD1.out rfl sum_info (by simp [Value.oneCell']) ?_; rintro w5 hb5 hc5; have HB5 := Lib.hid hb5; have HC5 := Lib.hid hc5; clear hb5 hc5))
    have HE2 := Lib.hid ((HC5.out.block _ (block_lt HD2.out) (by omega)).trans HD2.out)
    have c0 : w5.cell? ⟨w.heap.size, 0, none⟩ = some (.int .i64 mh) := by have := cell_of_block HB5.out 0; simpa using this
    have c1 : w5.cell? ⟨w.heap.size, 1, none⟩ = some (.int .u64 ml) := by have := cell_of_block HB5.out 1; simpa using this
    have HX5 := Lib.hid (((Chg.of_ext (S := fun _ => False) HX2.out).trans HC5.out (fun i hi e => by omega)).ext (fun _ _ e => e))
    go_wp2_with (first | (refine wpList_store_box rfl _ _ _ rfl _ _ #[.int .u64 mh, .int .u64 ml] _ rfl rfl HE2.out rfl two_info (by simp [Value.oneCell']) ?_; rintro w6 hb6 hc6; have HB6 := Lib.hid hb6; have HC6 := Lib.hid hc6; clear hb6 hc6))
    exact bodyPost_ret (results_box Tryd.results12 _ _ rfl HB6.out Tryd.underlying40 rfl two_info) rfl ⟨rfl, ((Chg.of_ext (S := fun _ => False) HX5.out).trans HC6.out (fun i hi e => by omega)).ext (fun _ _ e => e)⟩
  · have ea : absI s = s := by rw [HABS.out, if_neg hs]
    rw [ea, ← hhi, ← hlo]
    have hd : decide (hi < 0) = false := by simp; omega
    have hw : IntKind.u64.wrap hi = hi := by rw [IntKind.wrap_u64]; omega
    clear hhi hlo hmh hml ea hs h1 h2 HABS HM
    go_enter Tryd.func12, Tryd.ntmps12
    go_wp2_with fail
    obtain ⟨W, hW⟩ : ∃ W, W = (w.alloc (.cells #[.int .i64 hi, .int .u64 lo] 35 (0, 0))).alloc (.cells #[.int .u64 0, .int .u64 0] 40 (0, 0)) := ⟨_, rfl⟩
    have HXW : Hid (Ext w W) := Lib.hid (by rw [hW]; exact ((Ext.refl w).alloc _).alloc _)
    have HB1 : Hid (W.heap[w.heap.size]? = some (.cells #[.int .i64 hi, .int .u64 lo] 35 (0, 0))) := Lib.hid (by
      rw [hW]
      have h0 := heap_alloc_new w (.cells #[.int .i64 hi, .int .u64 lo] 35 (0, 0))
      exact (((Ext.refl _).alloc _).block (block_lt h0)).trans h0)
    have HB2 : Hid (W.heap[w.heap.size + 1]? = some (.cells #[.int .u64 0, .int .u64 0] 40 (0, 0))) := Lib.hid (by rw [hW]; exact heap_alloc2 w _ _)
    rw [← hW]
    clear hW
    refine (HB.out _).mono ?_
    rintro e w1 ⟨rfl, hx1⟩
    rw [hd]
    have HX1 := Lib.hid (HXW.out.trans hx1)
    have HC1 := Lib.hid ((hx1.block (block_lt HB1.out)).trans HB1.out)
    have HC2 := Lib.hid ((hx1.block (block_lt HB2.out)).trans HB2.out)
    clear hx1 HB1 HB2
    have c0 : w1.cell? ⟨w.heap.size, 0, none⟩ = some (.int .i64 hi) := by have := cell_of_block HC1.out 0; simpa using this
    have c1 : w1.cell? ⟨w.heap.size, 1, none⟩ = some (.int .u64 lo) := by have := cell_of_block HC1.out 1; simpa using this
    go_wp2_with (first | (refine wpList_store_box rfl _ _ _ rfl _ _ #[.int .u64 hi, .int .u64 lo] _ rfl rfl HC2.out rfl two_info (by simp [Value.oneCell']) ?_; rintro w6 hb6 hc6; have HB6 := Lib.hid hb6; have HC6 := Lib.hid hc6; clear hb6 hc6))
    exact bodyPost_ret (results_box Tryd.results12 _ _ rfl HB6.out Tryd.underlying40 rfl two_info) rfl ⟨rfl, ((Chg.of_ext (S := fun _ => False) HX1.out).trans HC6.out (fun i hi e => by omega)).ext (fun _ _ e => e)⟩

end Go.Proofs.YtipbniaehhoaaaaDoor
