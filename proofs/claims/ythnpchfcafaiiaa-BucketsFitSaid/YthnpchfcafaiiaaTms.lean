/- wide: signed, Times. -/
import Derived.Test.YthnpchfcafaiiaaWdm
import Derived.ChangeKeysEq
namespace Go.Proofs.Ythnpchfcafaiiaa
open Go.RowKit Go.Lib Go.Sort

theorem heap_mid (w : World) (o1 o2 o3 : Obj) : (((w.alloc o1).alloc o2).alloc o3).heap[w.heap.size + 1]? = some o2 := by
  have h0 := heap_alloc2 w o1 o2
  exact (((Ext.refl _).alloc o3).block (block_lt h0)).trans h0

set_option maxHeartbeats 2000000 in
set_option maxRecDepth 100000 in
theorem signed_pos (u : Int) (w : World) (h1 : 0 ≤ u) (h2 : u < 170141183460469231731687303715884105728) :
    Calls Try.prog 63 #[amtV u, .bool false] w fun e w' => e = .returned (.tuple #[sumV u, .bool true]) ∧ Ext w w' := by
  have HB := Lib.hid (fun W => below_any (u / 18446744073709551616) (u % 18446744073709551616) W)
  unfold amtV sumV
  obtain ⟨hi, hhi⟩ : ∃ x, x = u / 18446744073709551616 := ⟨_, rfl⟩
  obtain ⟨lo, hlo⟩ : ∃ x, x = u % 18446744073709551616 := ⟨_, rfl⟩
  rw [← hhi, ← hlo] at HB
  rw [← hhi, ← hlo]
  have hd : decide (hi < 0) = false := by simp; omega
  have hw : IntKind.i64.wrap hi = hi := IntWalk.i64_in _ (by omega)
  clear hhi hlo h1 h2
  go_enter Try.func63, Try.ntmps63
  go_upto_region 4 with fail
  obtain ⟨W, hW⟩ : ∃ W, W = ((w.alloc (.cells #[.int .u64 hi, .int .u64 lo] 118)).alloc (.cells #[.int .i64 0, .int .u64 0] 46)).alloc (.cells #[.int .i64 hi, .int .u64 lo] 46) := ⟨_, rfl⟩
  have HXW : Hid (Ext w W) := Lib.hid (by rw [hW]; exact (((Ext.refl w).alloc _).alloc _).alloc _)
  have HS : Hid (W.heap[w.heap.size + 1 + 1]? = some (.cells #[.int .i64 hi, .int .u64 lo] 46 (0, 0))) := Lib.hid (by rw [hW]; exact heap_alloc3 w _ _ _)
  have HR : Hid (W.heap[w.heap.size + 1]? = some (.cells #[.int .i64 0, .int .u64 0] 46 (0, 0))) := Lib.hid (by rw [hW]; exact heap_mid w _ _ _)
  rw [← hW]
  clear hW
  have c0 : W.cell? ⟨w.heap.size + 1 + 1, 0, none⟩ = some (.int .i64 hi) := by have := cell_of_block HS.out 0; simpa using this
  have c1 : W.cell? ⟨w.heap.size + 1 + 1, 1, none⟩ = some (.int .u64 lo) := by have := cell_of_block HS.out 1; simpa using this
  by_cases hz : hi = 0 ∧ lo = 0
  · obtain ⟨rfl, rfl⟩ := hz
    clear HB
    go_wp2_with (first | (refine wpList_store_box rfl _ _ _ rfl _ _ #[.int .i64 0, .int .u64 0] _ rfl rfl HR.out rfl sum_info (by simp [Value.oneCell']) ?_; rintro w6 hb6 hc6; have HB6 := Lib.hid hb6; have HC6 := Lib.hid hc6; clear hb6 hc6))
    exact bodyPost_ret (results_box_tmp Try.results63 _ _ rfl HB6.out Try.underlying46 rfl sum_info) rfl ⟨rfl, ((Chg.of_ext (S := fun _ => False) HXW.out).trans HC6.out (fun i hi e => by omega)).ext (fun _ _ e => e)⟩
  · rcases Classical.em (hi = 0) with hh | hh
    case' inl =>
      have k1 : (hi == 0) = true := by simp; omega
      have k2 : (lo == 0) = false := by simp; omega
    case' inr =>
      have k1 : (hi == 0) = false := by simp; omega
    all_goals
      clear hh hz
      go_wp2_with fail
      refine (HB.out _).mono ?_
      rintro e w1 ⟨rfl, hx1⟩
      rw [hd]
      have HX1 := Lib.hid (HXW.out.trans hx1)
      have HS1 := Lib.hid ((hx1.block (block_lt HS.out)).trans HS.out)
      have HR1 := Lib.hid ((hx1.block (block_lt HR.out)).trans HR.out)
      clear hx1 c0 c1 HS HR
      have c0 : w1.cell? ⟨w.heap.size + 1 + 1, 0, none⟩ = some (.int .i64 hi) := by have := cell_of_block HS1.out 0; simpa using this
      have c1 : w1.cell? ⟨w.heap.size + 1 + 1, 1, none⟩ = some (.int .u64 lo) := by have := cell_of_block HS1.out 1; simpa using this
      go_wp2_with (first | (refine wpList_store_box rfl _ _ _ rfl _ _ #[.int .i64 hi, .int .u64 lo] _ rfl rfl HR1.out rfl sum_info (by simp [Value.oneCell']) ?_; rintro w6 hb6 hc6; have HB6 := Lib.hid hb6; have HC6 := Lib.hid hc6; clear hb6 hc6))
      exact bodyPost_ret (results_box_tmp Try.results63 _ _ rfl HB6.out Try.underlying46 rfl sum_info) rfl ⟨rfl, ((Chg.of_ext (S := fun _ => False) HX1.out).trans HC6.out (fun i hi e => by omega)).ext (fun _ _ e => e)⟩

set_option maxHeartbeats 2000000 in
set_option maxRecDepth 100000 in
theorem signed_neg (u : Int) (w : World) (h1 : 0 < u) (h2 : u < 170141183460469231731687303715884105728) :
    Calls Try.prog 63 #[amtV u, .bool true] w fun e w' => e = .returned (.tuple #[sumV (-u), .bool true]) ∧ Ext w w' := by
  have HM := Lib.hid (fun W => minus_any u W (by omega) h2)
  have HB := Lib.hid (fun W => below_any (-u / 18446744073709551616) (-u % 18446744073709551616) W)
  unfold sumV at HM
  unfold amtV sumV
  obtain ⟨hi, hhi⟩ : ∃ x, x = u / 18446744073709551616 := ⟨_, rfl⟩
  obtain ⟨lo, hlo⟩ : ∃ x, x = u % 18446744073709551616 := ⟨_, rfl⟩
  obtain ⟨mh, hmh⟩ : ∃ x, x = -u / 18446744073709551616 := ⟨_, rfl⟩
  obtain ⟨ml, hml⟩ : ∃ x, x = -u % 18446744073709551616 := ⟨_, rfl⟩
  rw [← hmh, ← hml] at HB
  rw [← hhi, ← hlo, ← hmh, ← hml] at HM
  rw [← hhi, ← hlo, ← hmh, ← hml]
  have hd : decide (mh < 0) = true := by simp; omega
  have hw : IntKind.i64.wrap hi = hi := IntWalk.i64_in _ (by omega)
  have k1 : (mh == 0) = false := by simp; omega
  clear hhi hlo hmh hml h1 h2
  go_enter Try.func63, Try.ntmps63
  go_wp2_with fail
  obtain ⟨W, hW⟩ : ∃ W, W = ((w.alloc (.cells #[.int .u64 hi, .int .u64 lo] 118)).alloc (.cells #[.int .i64 0, .int .u64 0] 46)).alloc (.cells #[.int .i64 hi, .int .u64 lo] 46) := ⟨_, rfl⟩
  have HXW : Hid (Ext w W) := Lib.hid (by rw [hW]; exact (((Ext.refl w).alloc _).alloc _).alloc _)
  have HS : Hid (W.heap[w.heap.size + 1 + 1]? = some (.cells #[.int .i64 hi, .int .u64 lo] 46 (0, 0))) := Lib.hid (by rw [hW]; exact heap_alloc3 w _ _ _)
  have HR : Hid (W.heap[w.heap.size + 1]? = some (.cells #[.int .i64 0, .int .u64 0] 46 (0, 0))) := Lib.hid (by rw [hW]; exact heap_mid w _ _ _)
  rw [← hW]
  clear hW
  refine (HM.out _).mono ?_
  rintro e w1 ⟨rfl, hx1⟩
  have HX1 := Lib.hid (HXW.out.trans hx1)
  have HS1 := Lib.hid ((hx1.block (block_lt HS.out)).trans HS.out)
  have HR1 := Lib.hid ((hx1.block (block_lt HR.out)).trans HR.out)
  clear hx1 HS HR
  go_upto_region 4 with (first | (refine wpList_store_box rfl _ _ _ rfl _ _ #[.int .i64 mh, .int .u64 ml] _ rfl rfl HS1.out rfl sum_info (by simp [Value.oneCell']) ?_; rintro w5 hb5 hc5; have HB5 := Lib.hid hb5; have HC5 := Lib.hid hc5; clear hb5 hc5))
  have HR5 := Lib.hid ((HC5.out.block _ (block_lt HR1.out) (by omega)).trans HR1.out)
  have HX5 := Lib.hid (((Chg.of_ext (S := fun _ => False) HX1.out).trans HC5.out (fun i hi e => by omega)).ext (fun _ _ e => e))
  have c0 : w5.cell? ⟨w.heap.size + 1 + 1, 0, none⟩ = some (.int .i64 mh) := by have := cell_of_block HB5.out 0; simpa using this
  have c1 : w5.cell? ⟨w.heap.size + 1 + 1, 1, none⟩ = some (.int .u64 ml) := by have := cell_of_block HB5.out 1; simpa using this
  clear HM
  go_wp2_with fail
  refine (HB.out _).mono ?_
  rintro e w2 ⟨rfl, hx2⟩
  rw [hd]
  have HX2 := Lib.hid (HX5.out.trans hx2)
  have HS2 := Lib.hid ((hx2.block (block_lt HB5.out)).trans HB5.out)
  have HR2 := Lib.hid ((hx2.block (block_lt HR5.out)).trans HR5.out)
  clear hx2 c0 c1
  have c0 : w2.cell? ⟨w.heap.size + 1 + 1, 0, none⟩ = some (.int .i64 mh) := by have := cell_of_block HS2.out 0; simpa using this
  have c1 : w2.cell? ⟨w.heap.size + 1 + 1, 1, none⟩ = some (.int .u64 ml) := by have := cell_of_block HS2.out 1; simpa using this
  go_wp2_with (first | (refine wpList_store_box rfl _ _ _ rfl _ _ #[.int .i64 mh, .int .u64 ml] _ rfl rfl HR2.out rfl sum_info (by simp [Value.oneCell']) ?_; rintro w6 hb6 hc6; have HB6 := Lib.hid hb6; have HC6 := Lib.hid hc6; clear hb6 hc6))
  exact bodyPost_ret (results_box_tmp Try.results63 _ _ rfl HB6.out Try.underlying46 rfl sum_info) rfl ⟨rfl, ((Chg.of_ext (S := fun _ => False) HX2.out).trans HC6.out (fun i hi e => by omega)).ext (fun _ _ e => e)⟩

theorem idx_two (x y : Int) (W : World) : (Instr.index 118 (.agg #[.int .u64 x, .int .u64 y]) (.int .i64 1)).run Try.prog W = .ok (.int .u64 y) W := by
  obtain ⟨i, hi⟩ := info_of_underlying Try.underlying44
  have hc : Try.prog.cellsOf 44 = 1 := by kernel_rfl
  have hp : (part 44 #[.int .u64 x, .int .u64 y] 1).run Try.prog W = .ok (.int .u64 y) W := run_part_plain W (by kernel_rfl) rfl
  have h2 : (sizeOf 44).run Try.prog W = .ok 1 W := by rw [run_sizeOf W hi, hc]
  simp [Instr.index, asIntOf, run_underlying Try.underlying118, h2, hp, go_sem]

set_option maxHeartbeats 4000000 in
set_option maxRecDepth 100000 in
theorem wtimes_any (a n : Int) (w : World) (a1 : -9223372036854775808 ≤ a) (a2 : a ≤ 9223372036854775808) (n1 : 1 ≤ n) (n2 : n ≤ 1000000) :
    Calls Try.prog 46 #[sumV a, .int .i64 n] w fun e w' => e = .returned (.tuple #[sumV (a * n), .bool true]) ∧ Ext w w' := by
  have hA : 0 ≤ absI a ∧ absI a ≤ 9223372036854775808 := by unfold absI; split <;> omega
  obtain ⟨m, hm⟩ : ∃ m, m = absI a := ⟨_, rfl⟩
  rw [← hm] at hA
  have hp0 : 0 ≤ m * n := Int.mul_nonneg hA.1 (by omega)
  have hp1 : m * n ≤ 9223372036854775808000000 := by
    have h1 : m * n ≤ 9223372036854775808 * n := Int.mul_le_mul_of_nonneg_right hA.2 (by omega)
    omega
  have hneg : a < 0 → 0 < m * n ∧ a * n = -(m * n) := fun h => by
    have e : m = -a := by rw [hm]; unfold absI; rw [if_pos h]
    refine ⟨Int.mul_pos (by omega) (by omega), by rw [e, Int.neg_mul, Int.neg_neg]⟩
  have hpos : ¬ a < 0 → a * n = m * n := fun h => by
    have e : m = a := by rw [hm]; unfold absI; rw [if_neg h]
    rw [e]
  have HAM := Lib.hid (fun W => amount_any a W (by omega) (by omega))
  rw [← hm] at HAM
  have HAN := Lib.hid (fun W => amount_any n W (by omega) (by omega))
  have en : absI n = n := by unfold absI; rw [if_neg (by omega)]
  rw [en] at HAN
  have HON := Lib.hid (fun W => wideOf_any n W (by omega) (by omega))
  have HM0 := Lib.hid (fun W => mul64_any 0 n W (by omega) (by omega) (by omega) (by omega))
  have HM1 := Lib.hid (fun W => mul64_any m n W (by omega) (by omega) (by omega) (by omega))
  have HBL := Lib.hid (fun W => below_any (a / 18446744073709551616) (a % 18446744073709551616) W)
  rw [Int.zero_mul] at HM0
  have z0 : (0 : Int) / 18446744073709551616 = 0 := by decide
  have z1 : (0 : Int) % 18446744073709551616 = 0 := by decide
  rw [z0, z1] at HM0
  obtain ⟨P, hP⟩ : ∃ P, P = m * n := ⟨_, rfl⟩
  rw [← hP] at hp0 hp1 hneg hpos HM1
  have HSP := Lib.hid (fun W => signed_pos P W hp0 (by omega))
  have HSN := Lib.hid (fun (h : 0 < P) W => signed_neg P W h (by omega))
  unfold sumV amtV at HAM HAN
  unfold sumV at HON
  unfold amtV sumV at HSP HSN
  have em0 : m / 18446744073709551616 = 0 := by omega
  have em1 : m % 18446744073709551616 = m := by omega
  have en0 : n / 18446744073709551616 = 0 := by omega
  have en1 : n % 18446744073709551616 = n := by omega
  rw [em0, em1] at HAM
  rw [en0, en1] at HAN HON
  obtain ⟨X, hX⟩ : ∃ X, X = a * n := ⟨_, rfl⟩
  rw [← hX] at hneg hpos ⊢
  unfold sumV
  obtain ⟨ah, hah⟩ : ∃ x, x = a / 18446744073709551616 := ⟨_, rfl⟩
  obtain ⟨al, hal⟩ : ∃ x, x = a % 18446744073709551616 := ⟨_, rfl⟩
  obtain ⟨ph, hph⟩ : ∃ x, x = P / 18446744073709551616 := ⟨_, rfl⟩
  obtain ⟨pl, hpl⟩ : ∃ x, x = P % 18446744073709551616 := ⟨_, rfl⟩
  rw [← hah, ← hal] at HAM HBL
  rw [← hph, ← hpl] at HM1 HSP HSN
  rw [← hah, ← hal]
  have q0 := add64_run0 0 ph (Int.le_refl 0) (by omega)
  have ea : (0 + ph) % 18446744073709551616 = ph := by omega
  have eb : (0 + ph) / 18446744073709551616 = 0 := by omega
  rw [ea, eb] at q0
  have hn0 : decide (n < 0) = false := by simp; omega
  have HPL : Hid (P = ph * 18446744073709551616 + pl) := Lib.hid (by omega)
  rcases Classical.em (a < 0) with hs | hs
  case' inl =>
    have hd : decide (ah < 0) = true := by simp; omega
    obtain ⟨hP0, hXP⟩ := hneg hs
    have HSG := Lib.hid (HSN.out hP0)
    rw [← hXP] at HSG
  case' inr =>
    have hd : decide (ah < 0) = false := by simp; omega
    have HSG := HSP
    rw [hpos hs, ← hph, ← hpl]
  case' inl =>
    obtain ⟨xh, hxh⟩ : ∃ x, x = X / 18446744073709551616 := ⟨_, rfl⟩
    obtain ⟨xl, hxl⟩ : ∃ x, x = X % 18446744073709551616 := ⟨_, rfl⟩
    rw [← hxh, ← hxl] at HSG
    rw [← hxh, ← hxl]
    clear hxh hxl
    rcases Classical.em (ph = 0) with hh | hh
    case' inl =>
      have k2 : (pl != 0) = true := by simp; omega
      subst hh
      clear hP0 hXP
    case' inr =>
      have k1 : (ph != 0) = true := by simp; omega
      clear hP0 hXP
  all_goals
    clear hs hneg hpos hah hal hph hpl HSP HSN em0 em1 en0 en1 ea eb hX hP hm hA hp0 hp1 en z0 z1
    go_enter Try.func46, Try.ntmps46
    go_wp2_with fail
    obtain ⟨W, hW⟩ : ∃ W, W = (w.alloc (.cells #[.int .i64 ah, .int .u64 al] 46)).alloc (.cells #[.int .i64 0, .int .u64 0] 46) := ⟨_, rfl⟩
    have HXW : Hid (Ext w W) := Lib.hid (by rw [hW]; exact ((Ext.refl w).alloc _).alloc _)
    have HA1 : Hid (W.heap[w.heap.size]? = some (.cells #[.int .i64 ah, .int .u64 al] 46 (0, 0))) := Lib.hid (by
      rw [hW]
      have h0 := heap_alloc_new w (.cells #[.int .i64 ah, .int .u64 al] 46 (0, 0))
      exact (((Ext.refl _).alloc _).block (block_lt h0)).trans h0)
    have HR1 : Hid (W.heap[w.heap.size + 1]? = some (.cells #[.int .i64 0, .int .u64 0] 46 (0, 0))) := Lib.hid (by rw [hW]; exact heap_alloc2 w _ _)
    rw [← hW]
    clear hW
    refine (HAM.out _).mono ?_
    rintro e w1 ⟨rfl, hx1⟩
    have HX1 := Lib.hid (HXW.out.trans hx1)
    have HA2 := Lib.hid ((hx1.block (block_lt HA1.out)).trans HA1.out)
    have HR2 := Lib.hid ((hx1.block (block_lt HR1.out)).trans HR1.out)
    clear hx1
    go_wp2_with fail
    refine (HON.out _).mono ?_
    rintro e w2 ⟨rfl, hx2⟩
    have HX2 := Lib.hid (HX1.out.trans hx2)
    have HA3 := Lib.hid ((hx2.block (block_lt HA2.out)).trans HA2.out)
    have HR3 := Lib.hid ((hx2.block (block_lt HR2.out)).trans HR2.out)
    clear hx2
    go_wp2_with fail
    refine (HAN.out _).mono ?_
    rintro e w3 ⟨rfl, hx3⟩
    have HX3 := Lib.hid (HX2.out.trans hx3)
    have HA4 := Lib.hid ((hx3.block (block_lt HA3.out)).trans HA3.out)
    have HR4 := Lib.hid ((hx3.block (block_lt HR3.out)).trans HR3.out)
    clear hx3
    have hix := idx_two 0 n w3
    go_wp2_with fail
    clear hix
    have HX4 := Lib.hid ((Ext.refl w3).alloc (.cells #[.int .u64 0, .int .u64 m] 118))
    have HT4 := Lib.hid (heap_alloc_new w3 (.cells #[.int .u64 0, .int .u64 m] 118 (0, 0)))
    refine (HM0.out _).mono ?_
    rintro e w4 ⟨rfl, hx4⟩
    have HX5 := Lib.hid (HX4.out.trans hx4)
    have HT5 := Lib.hid ((hx4.block (block_lt HT4.out)).trans HT4.out)
    clear hx4
    have d1 : w4.cell? ⟨w3.heap.size, 1, none⟩ = some (.int .u64 m) := by have := cell_of_block HT5.out 1; simpa using this
    go_wp2_with fail
    refine (HM1.out _).mono ?_
    rintro e w5 ⟨rfl, hx5⟩
    have HX6 := Lib.hid (HX5.out.trans hx5)
    have HA6 := Lib.hid ((HX6.out.block (block_lt HA4.out)).trans HA4.out)
    have HR6 := Lib.hid ((HX6.out.block (block_lt HR4.out)).trans HR4.out)
    clear hx5 d1
    have c0 : w5.cell? ⟨w.heap.size, 0, none⟩ = some (.int .i64 ah) := by have := cell_of_block HA6.out 0; simpa using this
    have c1 : w5.cell? ⟨w.heap.size, 1, none⟩ = some (.int .u64 al) := by have := cell_of_block HA6.out 1; simpa using this
    go_upto_region 4 with fail
    have q1 := q0 w5
    clear q0
    go_upto_region 5 with fail
    clear q1
    go_wp2_with fail
    refine (HBL.out _).mono ?_
    rintro e w6 ⟨rfl, hx6⟩
    rw [hd]
    have HX7 := Lib.hid (HX6.out.trans hx6)
    have HR7 := Lib.hid ((hx6.block (block_lt HR6.out)).trans HR6.out)
    clear hx6 c0 c1
    go_wp2_with fail
    refine (HSG.out _).mono ?_
    rintro e w7 ⟨rfl, hx7⟩
    have HX8 := Lib.hid (HX3.out.trans (HX7.out.trans hx7))
    have HR8 := Lib.hid ((hx7.block (block_lt HR7.out)).trans HR7.out)
    clear hx7
    clear HM0 HM1 HAM HAN HON HSG HBL HPL
    go_wp2_with (first | (refine wpList_store_box rfl _ _ _ rfl _ _ #[.int .i64 xh, .int .u64 xl] _ rfl rfl HR8.out rfl sum_info (by simp [Value.oneCell']) ?_; rintro w9 hb9 hc9; have HB9 := Lib.hid hb9; have HC9 := Lib.hid hc9; clear hb9 hc9) | (refine wpList_store_box rfl _ _ _ rfl _ _ #[.int .i64 ph, .int .u64 pl] _ rfl rfl HR8.out rfl sum_info (by simp [Value.oneCell']) ?_; rintro w9 hb9 hc9; have HB9 := Lib.hid hb9; have HC9 := Lib.hid hc9; clear hb9 hc9))
    exact bodyPost_ret (results_box_tmp Try.results46 _ _ rfl HB9.out Try.underlying46 rfl sum_info) rfl ⟨rfl, ((Chg.of_ext (S := fun _ => False) HX8.out).trans HC9.out (fun i hi e => by omega)).ext (fun _ _ e => e)⟩
end Go.Proofs.Ythnpchfcafaiiaa
