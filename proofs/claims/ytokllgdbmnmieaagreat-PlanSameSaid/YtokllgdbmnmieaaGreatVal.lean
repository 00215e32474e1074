/- wide: Cmp; bits.Mul64. -/
import Derived.Test.YtokllgdbmnmieaaGreatR7d
import Derived.Test.YtokllgdbmnmieaaGreatPtc
import Derived.Test.YtokllgdbmnmieaaGreatCmp
import Derived.Test.YtokllgdbmnmieaaGreatShelf
import Derived.ChangeKeysEq
import Derived.Test.YtokllgdbmnmieaaGreatEnc
import Derived.Deep.DeepCutAuto
namespace Go.Proofs.YtokllgdbmnmieaaGreat
open Go.RowKit Go.Lib Go.Sort

theorem mul64_any (x y : Int) (w : World) (x0 : 0 ≤ x) (x1 : x < 18446744073709551616) (y0 : 0 ≤ y) (y1 : y < 18446744073709551616) :
    Calls Tryz.prog 107 #[.int .u64 x, .int .u64 y] w fun e w' => e = .returned (.tuple #[.int .u64 (x * y / 18446744073709551616), .int .u64 (x * y % 18446744073709551616)]) ∧ Ext w w' := by
  obtain ⟨a, rfl⟩ := Int.eq_ofNat_of_zero_le x0
  obtain ⟨b, rfl⟩ := Int.eq_ofNat_of_zero_le y0
  refine (Tryz.bits_Mul64 a b (by omega) (by omega) w).mono ?_
  rintro e w' ⟨rfl, rfl⟩
  refine ⟨?_, Ext.refl _⟩
  simp

set_option maxHeartbeats 1000000 in
set_option maxRecDepth 100000 in
theorem wcmp_any (a b : Int) (w : World) :
    Calls Tryz.prog 72 #[sumV a, sumV b] w fun e w' => e = .returned (.int .i64 (cmpI a b)) ∧ Ext w w' := by
  unfold sumV cmpI
  obtain ⟨ah, hah⟩ : ∃ x, x = a / 18446744073709551616 := ⟨_, rfl⟩
  obtain ⟨al, hal⟩ : ∃ x, x = a % 18446744073709551616 := ⟨_, rfl⟩
  obtain ⟨bh, hbh⟩ : ∃ x, x = b / 18446744073709551616 := ⟨_, rfl⟩
  obtain ⟨bl, hbl⟩ : ∃ x, x = b % 18446744073709551616 := ⟨_, rfl⟩
  rw [← hah, ← hal, ← hbh, ← hbl]
  rcases Int.lt_trichotomy a b with h | h | h
  · have e : (if a < b then (-1 : Int) else if b < a then 1 else 0) = -1 := by rw [if_pos h]
    rw [e]
    by_cases h2 : ah = bh
    · have h3 : al < bl := by omega
      have k1 : (ah == bh) = true := by simp; omega
      have k2 : (al == bl) = false := by simp; omega
      have k3 : decide (ah < bh) = false := by simp; omega
      have k4 : decide (al < bl) = true := by simp; omega
      clear hah hal hbh hbl e h h2
      go_enter Tryz.func72, Tryz.ntmps72
      go_wp2_with fail
      go_ret
      exact ⟨rfl, ((Ext.refl w).alloc _).alloc _⟩
    · have k1 : (ah == bh) = false := by simp; omega
      have k3 : decide (ah < bh) = true := by simp; omega
      clear hah hal hbh hbl e h h2
      go_enter Tryz.func72, Tryz.ntmps72
      go_wp2_with fail
      go_ret
      exact ⟨rfl, ((Ext.refl w).alloc _).alloc _⟩
  · have e : (if a < b then (-1 : Int) else if b < a then 1 else 0) = 0 := by rw [if_neg (by omega), if_neg (by omega)]
    rw [e]
    obtain rfl : ah = bh := by rw [hah, hbh, h]
    obtain rfl : al = bl := by rw [hal, hbl, h]
    clear hah hal hbh hbl e h
    go_enter Tryz.func72, Tryz.ntmps72
    go_wp2_with fail
    go_ret
    exact ⟨rfl, ((Ext.refl w).alloc _).alloc _⟩
  · have e : (if a < b then (-1 : Int) else if b < a then 1 else 0) = 1 := by rw [if_neg (by omega), if_pos h]
    rw [e]
    by_cases h2 : ah = bh
    · have k1 : (ah == bh) = true := by simp; omega
      have k2 : (al == bl) = false := by simp; omega
      have k3 : decide (ah < bh) = false := by simp; omega
      have k4 : decide (al < bl) = false := by simp; omega
      clear hah hal hbh hbl e h h2
      go_enter Tryz.func72, Tryz.ntmps72
      go_wp2_with fail
      go_ret
      exact ⟨rfl, ((Ext.refl w).alloc _).alloc _⟩
    · have k1 : (ah == bh) = false := by simp; omega
      have k3 : decide (ah < bh) = false := by simp; omega
      clear hah hal hbh hbl e h h2
      go_enter Tryz.func72, Tryz.ntmps72
      go_wp2_with fail
      go_ret
      exact ⟨rfl, ((Ext.refl w).alloc _).alloc _⟩
end Go.Proofs.YtokllgdbmnmieaaGreat

/-! wide: signed, Times. -/

namespace Go.Proofs.YtokllgdbmnmieaaGreat
open Go.RowKit Go.Lib Go.Sort

theorem heap_mid (w : World) (o1 o2 o3 : Obj) : (((w.alloc o1).alloc o2).alloc o3).heap[w.heap.size + 1]? = some o2 := by
  have h0 := heap_alloc2 w o1 o2
  exact (((Ext.refl _).alloc o3).block (block_lt h0)).trans h0

set_option maxHeartbeats 2000000 in
set_option maxRecDepth 100000 in
theorem signed_pos (u : Int) (w : World) (h1 : 0 ≤ u) (h2 : u < 170141183460469231731687303715884105728) :
    Calls Tryz.prog 109 #[amtV u, .bool false] w fun e w' => e = .returned (.tuple #[sumV u, .bool true]) ∧ Ext w w' := by
  have HB := Lib.hid (fun W => below_any (u / 18446744073709551616) (u % 18446744073709551616) W)
  unfold amtV sumV
  obtain ⟨hi, hhi⟩ : ∃ x, x = u / 18446744073709551616 := ⟨_, rfl⟩
  obtain ⟨lo, hlo⟩ : ∃ x, x = u % 18446744073709551616 := ⟨_, rfl⟩
  rw [← hhi, ← hlo] at HB
  rw [← hhi, ← hlo]
  have hd : decide (hi < 0) = false := by simp; omega
  have hw : IntKind.i64.wrap hi = hi := IntWalk.i64_in _ (by omega)
  clear hhi hlo h1 h2
  go_enter Tryz.func109, Tryz.ntmps109
  go_upto_region 4 with fail
  obtain ⟨W, hW⟩ : ∃ W, W = ((w.alloc (.cells #[.int .u64 hi, .int .u64 lo] 161)).alloc (.cells #[.int .i64 0, .int .u64 0] 73)).alloc (.cells #[.int .i64 hi, .int .u64 lo] 73) := ⟨_, rfl⟩
  have HXW : Hid (Ext w W) := Lib.hid (by rw [hW]; exact (((Ext.refl w).alloc _).alloc _).alloc _)
  have HS : Hid (W.heap[w.heap.size + 1 + 1]? = some (.cells #[.int .i64 hi, .int .u64 lo] 73 (0, 0))) := Lib.hid (by rw [hW]; exact heap_alloc3 w _ _ _)
  have HR : Hid (W.heap[w.heap.size + 1]? = some (.cells #[.int .i64 0, .int .u64 0] 73 (0, 0))) := Lib.hid (by rw [hW]; exact heap_mid w _ _ _)
  rw [← hW]
  clear hW
  have c0 : W.cell? ⟨w.heap.size + 1 + 1, 0, none⟩ = some (.int .i64 hi) := by have := cell_of_block HS.out 0; simpa using this
  have c1 : W.cell? ⟨w.heap.size + 1 + 1, 1, none⟩ = some (.int .u64 lo) := by have := cell_of_block HS.out 1; simpa using this
  by_cases hz : hi = 0 ∧ lo = 0
  · obtain ⟨rfl, rfl⟩ := hz
    clear HB
    go_wp2_with (first | (refine wpList_store_box rfl _ _ _ rfl _ _ #[.int .i64 0, .int .u64 0] _ rfl rfl HR.out rfl sum_info (by simp [Value.oneCell']) ?_; rintro w6 hb6 hc6; have HB6 := Lib.hid hb6; have HC6 := Lib.hid hc6; clear hb6 hc6))
    exact bodyPost_ret (results_box_tmp Tryz.results109 _ _ rfl HB6.out Tryz.underlying73 rfl sum_info) rfl ⟨rfl, ((Chg.of_ext (S := fun _ => False) HXW.out).trans HC6.out (fun i hi e => by omega)).ext (fun _ _ e => e)⟩
  · rcases Classical.em (hi = 0) with hh | hh
    case' inl =>
      have k1 : (hi == 0) = true := by simp; omega
      have k2 : (lo == 0) = false := by simp; omega
    case' inr =>
      have k1 : (hi == 0) = false := by simp; omega
    all_goals
      clear hh hz
      go_wp2_with fail
      refine (HB.out _).mono ?_
      rintro e w1 ⟨rfl, hx1⟩
      rw [hd]
      have HX1 := Lib.hid (HXW.out.trans hx1)
      have HS1 := Lib.hid ((hx1.block (block_lt HS.out)).trans HS.out)
      have HR1 := Lib.hid ((hx1.block (block_lt HR.out)).trans HR.out)
      clear hx1 c0 c1 HS HR
      have c0 : w1.cell? ⟨w.heap.size + 1 + 1, 0, none⟩ = some (.int .i64 hi) := by have := cell_of_block HS1.out 0; simpa using this
      have c1 : w1.cell? ⟨w.heap.size + 1 + 1, 1, none⟩ = some (.int .u64 lo) := by have := cell_of_block HS1.out 1; simpa using this
      go_wp2_with (first | (refine wpList_store_box rfl _ _ _ rfl _ _ #[.int .i64 hi, .int .u64 lo] _ rfl rfl HR1.out rfl sum_info (by simp [Value.oneCell']) ?_; rintro w6 hb6 hc6; have HB6 := Lib.hid hb6; have HC6 := Lib.hid hc6; clear hb6 hc6))
      exact bodyPost_ret (results_box_tmp Tryz.results109 _ _ rfl HB6.out Tryz.underlying73 rfl sum_info) rfl ⟨rfl, ((Chg.of_ext (S := fun _ => False) HX1.out).trans HC6.out (fun i hi e => by omega)).ext (fun _ _ e => e)⟩

set_option maxHeartbeats 2000000 in
set_option maxRecDepth 100000 in
theorem signed_neg (u : Int) (w : World) (h1 : 0 < u) (h2 : u < 170141183460469231731687303715884105728) :
    Calls Tryz.prog 109 #[amtV u, .bool true] w fun e w' => e = .returned (.tuple #[sumV (-u), .bool true]) ∧ Ext w w' := by
  have HM := Lib.hid (fun W => minus_any u W (by omega) h2)
  have HB := Lib.hid (fun W => below_any (-u / 18446744073709551616) (-u % 18446744073709551616) W)
  unfold sumV at HM
  unfold amtV sumV
  obtain ⟨hi, hhi⟩ : ∃ x, x = u / 18446744073709551616 := ⟨_, rfl⟩
  obtain ⟨lo, hlo⟩ : ∃ x, x = u % 18446744073709551616 := ⟨_, rfl⟩
  obtain ⟨mh, hmh⟩ : ∃ x, x = -u / 18446744073709551616 := ⟨_, rfl⟩
  obtain ⟨ml, hml⟩ : ∃ x, x = -u % 18446744073709551616 := ⟨_, rfl⟩
  rw [← hmh, ← hml] at HB
  rw [← hhi, ← hlo, ← hmh, ← hml] at HM
  rw [← hhi, ← hlo, ← hmh, ← hml]
  have hd : decide (mh < 0) = true := by simp; omega
  have hw : IntKind.i64.wrap hi = hi := IntWalk.i64_in _ (by omega)
  have k1 : (mh == 0) = false := by simp; omega
  clear hhi hlo hmh hml h1 h2
  go_enter Tryz.func109, Tryz.ntmps109
  go_wp2_with fail
  obtain ⟨W, hW⟩ : ∃ W, W = ((w.alloc (.cells #[.int .u64 hi, .int .u64 lo] 161)).alloc (.cells #[.int .i64 0, .int .u64 0] 73)).alloc (.cells #[.int .i64 hi, .int .u64 lo] 73) := ⟨_, rfl⟩
  have HXW : Hid (Ext w W) := Lib.hid (by rw [hW]; exact (((Ext.refl w).alloc _).alloc _).alloc _)
  have HS : Hid (W.heap[w.heap.size + 1 + 1]? = some (.cells #[.int .i64 hi, .int .u64 lo] 73 (0, 0))) := Lib.hid (by rw [hW]; exact heap_alloc3 w _ _ _)
  have HR : Hid (W.heap[w.heap.size + 1]? = some (.cells #[.int .i64 0, .int .u64 0] 73 (0, 0))) := Lib.hid (by rw [hW]; exact heap_mid w _ _ _)
  rw [← hW]
  clear hW
  refine (HM.out _).mono ?_
  rintro e w1 ⟨rfl, hx1⟩
  have HX1 := Lib.hid (HXW.out.trans hx1)
  have HS1 := Lib.hid ((hx1.block (block_lt HS.out)).trans HS.out)
  have HR1 := Lib.hid ((hx1.block (block_lt HR.out)).trans HR.out)
  clear hx1 HS HR
  go_upto_region 4 with (first | (refine wpList_store_box rfl _ _ _ rfl _ _ #[.int .i64 mh, .int .u64 ml] _ rfl rfl HS1.out rfl sum_info (by simp [Value.oneCell']) ?_; rintro w5 hb5 hc5; have HB5 := Lib.hid hb5; have HC5 := Lib.hid hc5; clear hb5 hc5))
  have HR5 := Lib.hid ((HC5.out.block _ (block_lt HR1.out) (by omega)).trans HR1.out)
  have HX5 := Lib.hid (((Chg.of_ext (S := fun _ => False) HX1.out).trans HC5.out (fun i hi e => by omega)).ext (fun _ _ e => e))
  have c0 : w5.cell? ⟨w.heap.size + 1 + 1, 0, none⟩ = some (.int .i64 mh) := by have := cell_of_block HB5.out 0; simpa using this
  have c1 : w5.cell? ⟨w.heap.size + 1 + 1, 1, none⟩ = some (.int .u64 ml) := by have := cell_of_block HB5.out 1; simpa using this
  clear HM
  go_wp2_with fail
  refine (HB.out _).mono ?_
  rintro e w2 ⟨rfl, hx2⟩
  rw [hd]
  have HX2 := Lib.hid (HX5.out.trans hx2)
  have HS2 := Lib.hid ((hx2.block (block_lt HB5.out)).trans HB5.out)
  have HR2 := Lib.hid ((hx2.block (block_lt HR5.out)).trans HR5.out)
  clear hx2 c0 c1
  have c0 : w2.cell? ⟨w.heap.size + 1 + 1, 0, none⟩ = some (.int .i64 mh) := by have := cell_of_block HS2.out 0; simpa using this
  have c1 : w2.cell? ⟨w.heap.size + 1 + 1, 1, none⟩ = some (.int .u64 ml) := by have := cell_of_block HS2.out 1; simpa using this
  go_wp2_with (first | (refine wpList_store_box rfl _ _ _ rfl _ _ #[.int .i64 mh, .int .u64 ml] _ rfl rfl HR2.out rfl sum_info (by simp [Value.oneCell']) ?_; rintro w6 hb6 hc6; have HB6 := Lib.hid hb6; have HC6 := Lib.hid hc6; clear hb6 hc6))
  exact bodyPost_ret (results_box_tmp Tryz.results109 _ _ rfl HB6.out Tryz.underlying73 rfl sum_info) rfl ⟨rfl, ((Chg.of_ext (S := fun _ => False) HX2.out).trans HC6.out (fun i hi e => by omega)).ext (fun _ _ e => e)⟩

theorem idx_two (x y : Int) (W : World) : (Instr.index 161 (.agg #[.int .u64 x, .int .u64 y]) (.int .i64 1)).run Tryz.prog W = .ok (.int .u64 y) W := by
  obtain ⟨i, hi⟩ := info_of_underlying Tryz.underlying38
  have hc : Tryz.prog.cellsOf 38 = 1 := by kernel_rfl
  have hp : (part 38 #[.int .u64 x, .int .u64 y] 1).run Tryz.prog W = .ok (.int .u64 y) W := run_part_plain W (by kernel_rfl) rfl
  have h2 : (sizeOf 38).run Tryz.prog W = .ok 1 W := by rw [run_sizeOf W hi, hc]
  simp [Instr.index, asIntOf, run_underlying Tryz.underlying161, h2, hp, go_sem]

set_option maxHeartbeats 4000000 in
set_option maxRecDepth 100000 in
theorem wtimes_any (a n : Int) (w : World) (a1 : -9223372036854775808 ≤ a) (a2 : a ≤ 9223372036854775808) (n1 : 1 ≤ n) (n2 : n ≤ 1000000) :
    Calls Tryz.prog 71 #[sumV a, .int .i64 n] w fun e w' => e = .returned (.tuple #[sumV (a * n), .bool true]) ∧ Ext w w' := by
  have hA : 0 ≤ absI a ∧ absI a ≤ 9223372036854775808 := by unfold absI; split <;> omega
  obtain ⟨m, hm⟩ : ∃ m, m = absI a := ⟨_, rfl⟩
  rw [← hm] at hA
  have hp0 : 0 ≤ m * n := Int.mul_nonneg hA.1 (by omega)
  have hp1 : m * n ≤ 9223372036854775808000000 := by
    have h1 : m * n ≤ 9223372036854775808 * n := Int.mul_le_mul_of_nonneg_right hA.2 (by omega)
    omega
  have hneg : a < 0 → 0 < m * n ∧ a * n = -(m * n) := fun h => by
    have e : m = -a := by rw [hm]; unfold absI; rw [if_pos h]
    refine ⟨Int.mul_pos (by omega) (by omega), by rw [e, Int.neg_mul, Int.neg_neg]⟩
  have hpos : ¬ a < 0 → a * n = m * n := fun h => by
    have e : m = a := by rw [hm]; unfold absI; rw [if_neg h]
    rw [e]
  have HAM := Lib.hid (fun W => amount_any a W (by omega) (by omega))
  rw [← hm] at HAM
  have HAN := Lib.hid (fun W => amount_any n W (by omega) (by omega))
  have en : absI n = n := by unfold absI; rw [if_neg (by omega)]
  rw [en] at HAN
  have HON := Lib.hid (fun W => wideOf_any n W (by omega) (by omega))
  have HM0 := Lib.hid (fun W => mul64_any 0 n W (by omega) (by omega) (by omega) (by omega))
  have HM1 := Lib.hid (fun W => mul64_any m n W (by omega) (by omega) (by omega) (by omega))
  have HBL := Lib.hid (fun W => below_any (a / 18446744073709551616) (a % 18446744073709551616) W)
  rw [Int.zero_mul] at HM0
  have z0 : (0 : Int) / 18446744073709551616 = 0 := by decide
  have z1 : (0 : Int) % 18446744073709551616 = 0 := by decide
  rw [z0, z1] at HM0
  obtain ⟨P, hP⟩ : ∃ P, P = m * n := ⟨_, rfl⟩
  rw [← hP] at hp0 hp1 hneg hpos HM1
  have HSP := Lib.hid (fun W => signed_pos P W hp0 (by omega))
  have HSN := Lib.hid (fun (h : 0 < P) W => signed_neg P W h (by omega))
  unfold sumV amtV at HAM HAN
  unfold sumV at HON
  unfold amtV sumV at HSP HSN
  have em0 : m / 18446744073709551616 = 0 := by omega
  have em1 : m % 18446744073709551616 = m := by omega
  have en0 : n / 18446744073709551616 = 0 := by omega
  have en1 : n % 18446744073709551616 = n := by omega
  rw [em0, em1] at HAM
  rw [en0, en1] at HAN HON
  obtain ⟨X, hX⟩ : ∃ X, X = a * n := ⟨_, rfl⟩
  rw [← hX] at hneg hpos ⊢
  unfold sumV
  obtain ⟨ah, hah⟩ : ∃ x, x = a / 18446744073709551616 := ⟨_, rfl⟩
  obtain ⟨al, hal⟩ : ∃ x, x = a % 18446744073709551616 := ⟨_, rfl⟩
  obtain ⟨ph, hph⟩ : ∃ x, x = P / 18446744073709551616 := ⟨_, rfl⟩
  obtain ⟨pl, hpl⟩ : ∃ x, x = P % 18446744073709551616 := ⟨_, rfl⟩
  rw [← hah, ← hal] at HAM HBL
  rw [← hph, ← hpl] at HM1 HSP HSN
  rw [← hah, ← hal]
  have q0 := add64_run0 0 ph (Int.le_refl 0) (by omega)
  have ea : (0 + ph) % 18446744073709551616 = ph := by omega
  have eb : (0 + ph) / 18446744073709551616 = 0 := by omega
  rw [ea, eb] at q0
  have hn0 : decide (n < 0) = false := by simp; omega
  have HPL : Hid (P = ph * 18446744073709551616 + pl) := Lib.hid (by omega)
  rcases Classical.em (a < 0) with hs | hs
  case' inl =>
    have hd : decide (ah < 0) = true := by simp; omega
    obtain ⟨hP0, hXP⟩ := hneg hs
    have HSG := Lib.hid (HSN.out hP0)
    rw [← hXP] at HSG
  case' inr =>
    have hd : decide (ah < 0) = false := by simp; omega
    have HSG := HSP
    rw [hpos hs, ← hph, ← hpl]
  case' inl =>
    obtain ⟨xh, hxh⟩ : ∃ x, x = X / 18446744073709551616 := ⟨_, rfl⟩
    obtain ⟨xl, hxl⟩ : ∃ x, x = X % 18446744073709551616 := ⟨_, rfl⟩
    rw [← hxh, ← hxl] at HSG
    rw [← hxh, ← hxl]
    clear hxh hxl
    rcases Classical.em (ph = 0) with hh | hh
    case' inl =>
      have k2 : (pl != 0) = true := by simp; omega
      subst hh
      clear hP0 hXP
    case' inr =>
      have k1 : (ph != 0) = true := by simp; omega
      clear hP0 hXP
  all_goals
    clear hs hneg hpos hah hal hph hpl HSP HSN em0 em1 en0 en1 ea eb hX hP hm hA hp0 hp1 en z0 z1
    go_enter Tryz.func71, Tryz.ntmps71
    go_wp2_with fail
    obtain ⟨W, hW⟩ : ∃ W, W = (w.alloc (.cells #[.int .i64 ah, .int .u64 al] 73)).alloc (.cells #[.int .i64 0, .int .u64 0] 73) := ⟨_, rfl⟩
    have HXW : Hid (Ext w W) := Lib.hid (by rw [hW]; exact ((Ext.refl w).alloc _).alloc _)
    have HA1 : Hid (W.heap[w.heap.size]? = some (.cells #[.int .i64 ah, .int .u64 al] 73 (0, 0))) := Lib.hid (by
      rw [hW]
      have h0 := heap_alloc_new w (.cells #[.int .i64 ah, .int .u64 al] 73 (0, 0))
      exact (((Ext.refl _).alloc _).block (block_lt h0)).trans h0)
    have HR1 : Hid (W.heap[w.heap.size + 1]? = some (.cells #[.int .i64 0, .int .u64 0] 73 (0, 0))) := Lib.hid (by rw [hW]; exact heap_alloc2 w _ _)
    rw [← hW]
    clear hW
    refine (HAM.out _).mono ?_
    rintro e w1 ⟨rfl, hx1⟩
    have HX1 := Lib.hid (HXW.out.trans hx1)
    have HA2 := Lib.hid ((hx1.block (block_lt HA1.out)).trans HA1.out)
    have HR2 := Lib.hid ((hx1.block (block_lt HR1.out)).trans HR1.out)
    clear hx1
    go_wp2_with fail
    refine (HON.out _).mono ?_
    rintro e w2 ⟨rfl, hx2⟩
    have HX2 := Lib.hid (HX1.out.trans hx2)
    have HA3 := Lib.hid ((hx2.block (block_lt HA2.out)).trans HA2.out)
    have HR3 := Lib.hid ((hx2.block (block_lt HR2.out)).trans HR2.out)
    clear hx2
    go_wp2_with fail
    refine (HAN.out _).mono ?_
    rintro e w3 ⟨rfl, hx3⟩
    have HX3 := Lib.hid (HX2.out.trans hx3)
    have HA4 := Lib.hid ((hx3.block (block_lt HA3.out)).trans HA3.out)
    have HR4 := Lib.hid ((hx3.block (block_lt HR3.out)).trans HR3.out)
    clear hx3
    have hix := idx_two 0 n w3
    go_wp2_with fail
    clear hix
    have HX4 := Lib.hid ((Ext.refl w3).alloc (.cells #[.int .u64 0, .int .u64 m] 161))
    have HT4 := Lib.hid (heap_alloc_new w3 (.cells #[.int .u64 0, .int .u64 m] 161 (0, 0)))
    refine (HM0.out _).mono ?_
    rintro e w4 ⟨rfl, hx4⟩
    have HX5 := Lib.hid (HX4.out.trans hx4)
    have HT5 := Lib.hid ((hx4.block (block_lt HT4.out)).trans HT4.out)
    clear hx4
    have d1 : w4.cell? ⟨w3.heap.size, 1, none⟩ = some (.int .u64 m) := by have := cell_of_block HT5.out 1; simpa using this
    go_wp2_with fail
    refine (HM1.out _).mono ?_
    rintro e w5 ⟨rfl, hx5⟩
    have HX6 := Lib.hid (HX5.out.trans hx5)
    have HA6 := Lib.hid ((HX6.out.block (block_lt HA4.out)).trans HA4.out)
    have HR6 := Lib.hid ((HX6.out.block (block_lt HR4.out)).trans HR4.out)
    clear hx5 d1
    have c0 : w5.cell? ⟨w.heap.size, 0, none⟩ = some (.int .i64 ah) := by have := cell_of_block HA6.out 0; simpa using this
    have c1 : w5.cell? ⟨w.heap.size, 1, none⟩ = some (.int .u64 al) := by have := cell_of_block HA6.out 1; simpa using this
    go_upto_region 4 with fail
    have q1 := q0 w5
    clear q0
    go_upto_region 5 with fail
    clear q1
    go_wp2_with fail
    refine (HBL.out _).mono ?_
    rintro e w6 ⟨rfl, hx6⟩
    rw [hd]
    have HX7 := Lib.hid (HX6.out.trans hx6)
    have HR7 := Lib.hid ((hx6.block (block_lt HR6.out)).trans HR6.out)
    clear hx6 c0 c1
    go_wp2_with fail
    refine (HSG.out _).mono ?_
    rintro e w7 ⟨rfl, hx7⟩
    have HX8 := Lib.hid (HX3.out.trans (HX7.out.trans hx7))
    have HR8 := Lib.hid ((hx7.block (block_lt HR7.out)).trans HR7.out)
    clear hx7
    clear HM0 HM1 HAM HAN HON HSG HBL HPL
    go_wp2_with (first | (refine wpList_store_box rfl _ _ _ rfl _ _ #[.int .i64 xh, .int .u64 xl] _ rfl rfl HR8.out rfl sum_info (by simp [Value.oneCell']) ?_; rintro w9 hb9 hc9; have HB9 := Lib.hid hb9; have HC9 := Lib.hid hc9; clear hb9 hc9) | (refine wpList_store_box rfl _ _ _ rfl _ _ #[.int .i64 ph, .int .u64 pl] _ rfl rfl HR8.out rfl sum_info (by simp [Value.oneCell']) ?_; rintro w9 hb9 hc9; have HB9 := Lib.hid hb9; have HC9 := Lib.hid hc9; clear hb9 hc9))
    exact bodyPost_ret (results_box_tmp Tryz.results71 _ _ rfl HB9.out Tryz.underlying73 rfl sum_info) rfl ⟨rfl, ((Chg.of_ext (S := fun _ => False) HX8.out).trans HC9.out (fun i hi e => by omega)).ext (fun _ _ e => e)⟩
end Go.Proofs.YtokllgdbmnmieaaGreat

/-! wide.Times: any sum by a number above 0, where the product fits. -/

namespace Go.Proofs.YtokllgdbmnmieaaGreat
open Go.RowKit Go.Lib Go.Sort

set_option maxHeartbeats 4000000 in
set_option maxRecDepth 100000 in
theorem wtimes_gen (a n : Int) (w : World) (a1 : -85070591730234615865843651857942052864 ≤ a) (a2 : a ≤ 85070591730234615865843651857942052864) (n1 : 1 ≤ n) (n2 : n ≤ 4611686018427387904) (hmn : absI a * n ≤ 85070591730234615865843651857942052864) :
    Calls Tryz.prog 71 #[sumV a, .int .i64 n] w fun e w' => e = .returned (.tuple #[sumV (a * n), .bool true]) ∧ Ext w w' := by
  have hA : 0 ≤ absI a ∧ absI a ≤ 85070591730234615865843651857942052864 := by unfold absI; split <;> omega
  obtain ⟨m, hm⟩ : ∃ m, m = absI a := ⟨_, rfl⟩
  rw [← hm] at hA hmn
  have hp0 : 0 ≤ m * n := Int.mul_nonneg hA.1 (by omega)
  have hp1 : m * n ≤ 85070591730234615865843651857942052864 := hmn
  obtain ⟨x0, hx0⟩ : ∃ x, x = m / 18446744073709551616 := ⟨_, rfl⟩
  obtain ⟨x1, hx1'⟩ : ∃ x, x = m % 18446744073709551616 := ⟨_, rfl⟩
  obtain ⟨t, ht⟩ : ∃ x, x = x0 * n := ⟨_, rfl⟩
  obtain ⟨u, hu⟩ : ∃ x, x = x1 * n := ⟨_, rfl⟩
  have hmd : m * n = t * 18446744073709551616 + u := by
    have e : m = x0 * 18446744073709551616 + x1 := by omega
    rw [e, Int.add_mul, Int.mul_assoc, Int.mul_comm 18446744073709551616 n, ← Int.mul_assoc, ← ht, ← hu]
  have t0 : 0 ≤ t := by rw [ht]; exact Int.mul_nonneg (by omega) (by omega)
  have u0 : 0 ≤ u := by rw [hu]; exact Int.mul_nonneg (by omega) (by omega)
  have hneg : a < 0 → 0 < m * n ∧ a * n = -(m * n) := fun h => by
    have e : m = -a := by rw [hm]; unfold absI; rw [if_pos h]
    refine ⟨Int.mul_pos (by omega) (by omega), by rw [e, Int.neg_mul, Int.neg_neg]⟩
  have hpos : ¬ a < 0 → a * n = m * n := fun h => by
    have e : m = a := by rw [hm]; unfold absI; rw [if_neg h]
    rw [e]
  have HAM := Lib.hid (fun W => amount_gen a W (by omega) (by omega))
  rw [← hm] at HAM
  have HAN := Lib.hid (fun W => amount_gen n W (by omega) (by omega))
  have en : absI n = n := by unfold absI; rw [if_neg (by omega)]
  rw [en] at HAN
  have HON := Lib.hid (fun W => wideOf_any n W (by omega) (by omega))
  have HM0 := Lib.hid (fun W => mul64_any x0 n W (by omega) (by omega) (by omega) (by omega))
  have HM1 := Lib.hid (fun W => mul64_any x1 n W (by omega) (by omega) (by omega) (by omega))
  have HBL := Lib.hid (fun W => below_any (a / 18446744073709551616) (a % 18446744073709551616) W)
  rw [← ht] at HM0
  rw [← hu] at HM1
  have z0 : t / 18446744073709551616 = 0 := by omega
  have z1 : t % 18446744073709551616 = t := by omega
  rw [z0, z1] at HM0
  obtain ⟨ca, hca⟩ : ∃ x, x = u / 18446744073709551616 := ⟨_, rfl⟩
  rw [← hca] at HM1
  obtain ⟨P, hP⟩ : ∃ P, P = m * n := ⟨_, rfl⟩
  rw [← hP] at hp0 hp1 hneg hpos hmd hmn
  have HSP := Lib.hid (fun W => signed_pos P W hp0 (by omega))
  have HSN := Lib.hid (fun (h : 0 < P) W => signed_neg P W h (by omega))
  unfold sumV amtV at HAM HAN
  unfold sumV at HON
  unfold amtV sumV at HSP HSN
  have en0 : n / 18446744073709551616 = 0 := by omega
  have en1 : n % 18446744073709551616 = n := by omega
  rw [← hx0, ← hx1'] at HAM
  rw [en0, en1] at HAN HON
  obtain ⟨X, hX⟩ : ∃ X, X = a * n := ⟨_, rfl⟩
  rw [← hX] at hneg hpos ⊢
  unfold sumV
  obtain ⟨ah, hah⟩ : ∃ x, x = a / 18446744073709551616 := ⟨_, rfl⟩
  obtain ⟨al, hal⟩ : ∃ x, x = a % 18446744073709551616 := ⟨_, rfl⟩
  obtain ⟨ph, hph⟩ : ∃ x, x = P / 18446744073709551616 := ⟨_, rfl⟩
  obtain ⟨pl, hpl⟩ : ∃ x, x = P % 18446744073709551616 := ⟨_, rfl⟩
  rw [← hah, ← hal] at HAM HBL
  have hpl2 : u % 18446744073709551616 = pl := by omega
  rw [hpl2] at HM1
  rw [← hph, ← hpl] at HSP HSN
  rw [← hah, ← hal]
  have q0 := add64_run0 t ca t0 (by omega)
  have ea : (t + ca) % 18446744073709551616 = ph := by omega
  have eb : (t + ca) / 18446744073709551616 = 0 := by omega
  rw [ea, eb] at q0
  have hn0 : decide (n < 0) = false := by simp; omega
  have HPL : Hid (P = ph * 18446744073709551616 + pl) := Lib.hid (by omega)
  rcases Classical.em (a < 0) with hs | hs
  case' inl =>
    have hd : decide (ah < 0) = true := by simp; omega
    obtain ⟨hP0, hXP⟩ := hneg hs
    have HSG := Lib.hid (HSN.out hP0)
    rw [← hXP] at HSG
  case' inr =>
    have hd : decide (ah < 0) = false := by simp; omega
    have HSG := HSP
    rw [hpos hs, ← hph, ← hpl]
  case' inl =>
    obtain ⟨xh, hxh⟩ : ∃ x, x = X / 18446744073709551616 := ⟨_, rfl⟩
    obtain ⟨xl, hxl⟩ : ∃ x, x = X % 18446744073709551616 := ⟨_, rfl⟩
    rw [← hxh, ← hxl] at HSG
    rw [← hxh, ← hxl]
    clear hxh hxl
    rcases Classical.em (ph = 0) with hh | hh
    case' inl =>
      have k2 : (pl != 0) = true := by simp; omega
      subst hh
      clear hP0 hXP
    case' inr =>
      have k1 : (ph != 0) = true := by simp; omega
      clear hP0 hXP
  all_goals
    clear hs hneg hpos hah hal hph hpl HSP HSN en0 en1 hmd hx0 hx1' ht hu t0 u0 hca hpl2 hmn ea eb hX hP hm hA hp0 hp1 en z0 z1
    go_enter Tryz.func71, Tryz.ntmps71
    go_wp2_with fail
    obtain ⟨W, hW⟩ : ∃ W, W = (w.alloc (.cells #[.int .i64 ah, .int .u64 al] 73)).alloc (.cells #[.int .i64 0, .int .u64 0] 73) := ⟨_, rfl⟩
    have HXW : Hid (Ext w W) := Lib.hid (by rw [hW]; exact ((Ext.refl w).alloc _).alloc _)
    have HA1 : Hid (W.heap[w.heap.size]? = some (.cells #[.int .i64 ah, .int .u64 al] 73 (0, 0))) := Lib.hid (by
      rw [hW]
      have h0 := heap_alloc_new w (.cells #[.int .i64 ah, .int .u64 al] 73 (0, 0))
      exact (((Ext.refl _).alloc _).block (block_lt h0)).trans h0)
    have HR1 : Hid (W.heap[w.heap.size + 1]? = some (.cells #[.int .i64 0, .int .u64 0] 73 (0, 0))) := Lib.hid (by rw [hW]; exact heap_alloc2 w _ _)
    rw [← hW]
    clear hW
    refine (HAM.out _).mono ?_
    rintro e w1 ⟨rfl, hx1⟩
    have HX1 := Lib.hid (HXW.out.trans hx1)
    have HA2 := Lib.hid ((hx1.block (block_lt HA1.out)).trans HA1.out)
    have HR2 := Lib.hid ((hx1.block (block_lt HR1.out)).trans HR1.out)
    clear hx1
    go_wp2_with fail
    refine (HON.out _).mono ?_
    rintro e w2 ⟨rfl, hx2⟩
    have HX2 := Lib.hid (HX1.out.trans hx2)
    have HA3 := Lib.hid ((hx2.block (block_lt HA2.out)).trans HA2.out)
    have HR3 := Lib.hid ((hx2.block (block_lt HR2.out)).trans HR2.out)
    clear hx2
    go_wp2_with fail
    refine (HAN.out _).mono ?_
    rintro e w3 ⟨rfl, hx3⟩
    have HX3 := Lib.hid (HX2.out.trans hx3)
    have HA4 := Lib.hid ((hx3.block (block_lt HA3.out)).trans HA3.out)
    have HR4 := Lib.hid ((hx3.block (block_lt HR3.out)).trans HR3.out)
    clear hx3
    have hix := idx_two 0 n w3
    go_wp2_with fail
    clear hix
    have HX4 := Lib.hid ((Ext.refl w3).alloc (.cells #[.int .u64 x0, .int .u64 x1] 161))
    have HT4 := Lib.hid (heap_alloc_new w3 (.cells #[.int .u64 x0, .int .u64 x1] 161 (0, 0)))
    refine (HM0.out _).mono ?_
    rintro e w4 ⟨rfl, hx4⟩
    have HX5 := Lib.hid (HX4.out.trans hx4)
    have HT5 := Lib.hid ((hx4.block (block_lt HT4.out)).trans HT4.out)
    clear hx4
    have d1 : w4.cell? ⟨w3.heap.size, 1, none⟩ = some (.int .u64 x1) := by have := cell_of_block HT5.out 1; simpa using this
    go_wp2_with fail
    refine (HM1.out _).mono ?_
    rintro e w5 ⟨rfl, hx5⟩
    have HX6 := Lib.hid (HX5.out.trans hx5)
    have HA6 := Lib.hid ((HX6.out.block (block_lt HA4.out)).trans HA4.out)
    have HR6 := Lib.hid ((HX6.out.block (block_lt HR4.out)).trans HR4.out)
    clear hx5 d1
    have c0 : w5.cell? ⟨w.heap.size, 0, none⟩ = some (.int .i64 ah) := by have := cell_of_block HA6.out 0; simpa using this
    have c1 : w5.cell? ⟨w.heap.size, 1, none⟩ = some (.int .u64 al) := by have := cell_of_block HA6.out 1; simpa using this
    go_upto_region 4 with fail
    have q1 := q0 w5
    clear q0
    go_upto_region 5 with fail
    clear q1
    go_wp2_with fail
    refine (HBL.out _).mono ?_
    rintro e w6 ⟨rfl, hx6⟩
    rw [hd]
    have HX7 := Lib.hid (HX6.out.trans hx6)
    have HR7 := Lib.hid ((hx6.block (block_lt HR6.out)).trans HR6.out)
    clear hx6 c0 c1
    go_wp2_with fail
    refine (HSG.out _).mono ?_
    rintro e w7 ⟨rfl, hx7⟩
    have HX8 := Lib.hid (HX3.out.trans (HX7.out.trans hx7))
    have HR8 := Lib.hid ((hx7.block (block_lt HR7.out)).trans HR7.out)
    clear hx7
    clear HM0 HM1 HAM HAN HON HSG HBL HPL
    go_wp2_with (first | (refine wpList_store_box rfl _ _ _ rfl _ _ #[.int .i64 xh, .int .u64 xl] _ rfl rfl HR8.out rfl sum_info (by simp [Value.oneCell']) ?_; rintro w9 hb9 hc9; have HB9 := Lib.hid hb9; have HC9 := Lib.hid hc9; clear hb9 hc9) | (refine wpList_store_box rfl _ _ _ rfl _ _ #[.int .i64 ph, .int .u64 pl] _ rfl rfl HR8.out rfl sum_info (by simp [Value.oneCell']) ?_; rintro w9 hb9 hc9; have HB9 := Lib.hid hb9; have HC9 := Lib.hid hc9; clear hb9 hc9))
    exact bodyPost_ret (results_box_tmp Tryz.results71 _ _ rfl HB9.out Tryz.underlying73 rfl sum_info) rfl ⟨rfl, ((Chg.of_ext (S := fun _ => False) HX8.out).trans HC9.out (fun i hi e => by omega)).ext (fun _ _ e => e)⟩
end Go.Proofs.YtokllgdbmnmieaaGreat

/-! aggr.Valid, where points have it. -/

namespace Go.Proofs.YtokllgdbmnmieaaGreat
open Go.RowKit Go.Lib Go.Sort



set_option maxHeartbeats 1000000 in
set_option maxRecDepth 100000 in
theorem between_any (c : List Value) (gn gh gl gmn gmx gft gfv gfs glt glv gls : Int) (b : Bool) (x : Int) (w : World) (h1 : gmn ≤ x) (h2 : x ≤ gmx) :
    Calls Tryz.prog 69 #[.agg #[.int .i64 gn, .int .i64 gh, .int .u64 gl, .int .i64 gmn, .int .i64 gmx, .int .i64 gft, .int .i64 gfv, .int .i64 gfs, .int .i64 glt, .int .i64 glv, .int .i64 gls, .bool b], .int .i64 x] w fun e w' => e = .returned (.bool true) ∧ Ext w w' := by
  have hd1 : decide (gmn ≤ x) = true := by simp; omega
  have hd2 : decide (x ≤ gmx) = true := by simp; omega
  go_enter Tryz.func69, Tryz.ntmps69
  go_wp2_with fail
  go_ret
  exact ⟨rfl, (Ext.refl w).alloc _⟩

/-- Points have it. -/
structure Had (g : Ag) : Prop where
  n1 : 1 ≤ g.n
  n2 : g.n ≤ 1000000
  mn1 : -9223372036854775808 ≤ g.mn
  mm : g.mn ≤ g.mx
  mx2 : g.mx ≤ 9223372036854775807
  f1 : g.mn ≤ g.f.v
  f2 : g.f.v ≤ g.mx
  l1 : g.mn ≤ g.l.v
  l2 : g.l.v ≤ g.mx
  ord : ¬ ordI g.l g.f < 0
  s1 : g.mn * g.n ≤ g.s
  s2 : g.s ≤ g.mx * g.n
  one : 1 < g.n ∨ (g.f = g.l ∧ g.mn = g.mx)

set_option maxHeartbeats 8000000 in
set_option maxRecDepth 100000 in
theorem valid_ok (g : Ag) (w : World) (H : Had g) :
    Calls Tryz.prog 40 #[g.val] w fun e w' => e = .returned (.bool true) ∧ Ext w w' := by
  obtain ⟨gn, gs, gmn, gmx, ⟨gft, gfv, gfs⟩, ⟨glt, glv, gls⟩⟩ := g
  obtain ⟨n1, n2, mn1, mm, mx2, fv1, fv2, lv1, lv2, ord, s1, s2, one⟩ := H
  simp only at n1 n2 mn1 mm mx2 fv1 fv2 lv1 lv2 ord s1 s2 one
  unfold Ag.val
  simp only
  have b1 : -9223372036854775808000000 ≤ gmn * gn := by
    have h1 : -9223372036854775808 * gn ≤ gmn * gn := Int.mul_le_mul_of_nonneg_right mn1 (by omega)
    omega
  have b2 : gmx * gn ≤ 9223372036854775807000000 := by
    have h1 : gmx * gn ≤ 9223372036854775807 * gn := Int.mul_le_mul_of_nonneg_right mx2 (by omega)
    omega
  have hsl : sumOk (gmn * gn) := by unfold sumOk; omega
  have hsh : sumOk (gmx * gn) := by unfold sumOk; omega
  have hss : sumOk gs := by unfold sumOk; omega
  have HOF6 := Lib.hid (fun W => wideOf_any gmn W (by omega) (by omega))
  have HOF7 := Lib.hid (fun W => wideOf_any gmx W (by omega) (by omega))
  have HTI6 := Lib.hid (fun W => wtimes_any gmn gn W (by omega) (by omega) n1 n2)
  have HTI7 := Lib.hid (fun W => wtimes_any gmx gn W (by omega) (by omega) n1 n2)
  have HC1 := Lib.hid (fun W => (wcmp_any gs (gmn * gn) W))
  have HC2 := Lib.hid (fun W => (wcmp_any gs (gmx * gn) W))
  obtain ⟨r1, hr1, hr1'⟩ : ∃ r, r = cmpI gs (gmn * gn) ∧ ¬ r < 0 := ⟨_, rfl, by unfold cmpI; split <;> (try split) <;> omega⟩
  obtain ⟨r2, hr2, hr2'⟩ : ∃ r, r = cmpI gs (gmx * gn) ∧ ¬ 0 < r := ⟨_, rfl, by unfold cmpI; split <;> (try split) <;> omega⟩
  rw [← hr1] at HC1
  rw [← hr2] at HC2
  unfold sumV at HOF6 HOF7 HTI6 HTI7 HC1 HC2
  obtain ⟨gh, hgh⟩ : ∃ x, x = gs / 18446744073709551616 := ⟨_, rfl⟩
  obtain ⟨gl, hgl⟩ : ∃ x, x = gs % 18446744073709551616 := ⟨_, rfl⟩
  obtain ⟨ph, hph⟩ : ∃ x, x = gmn * gn / 18446744073709551616 := ⟨_, rfl⟩
  obtain ⟨pl, hpl⟩ : ∃ x, x = gmn * gn % 18446744073709551616 := ⟨_, rfl⟩
  obtain ⟨qh, hqh⟩ : ∃ x, x = gmx * gn / 18446744073709551616 := ⟨_, rfl⟩
  obtain ⟨ql, hql⟩ : ∃ x, x = gmx * gn % 18446744073709551616 := ⟨_, rfl⟩
  obtain ⟨oh, hoh⟩ : ∃ x, x = gmn / 18446744073709551616 := ⟨_, rfl⟩
  obtain ⟨ol, hol⟩ : ∃ x, x = gmn % 18446744073709551616 := ⟨_, rfl⟩
  obtain ⟨uh, huh⟩ : ∃ x, x = gmx / 18446744073709551616 := ⟨_, rfl⟩
  obtain ⟨ul, hul⟩ : ∃ x, x = gmx % 18446744073709551616 := ⟨_, rfl⟩
  rw [← hgh, ← hgl, ← hph, ← hpl] at HC1
  rw [← hgh, ← hgl, ← hqh, ← hql] at HC2
  rw [← hoh, ← hol] at HOF6
  rw [← huh, ← hul] at HOF7
  rw [← hoh, ← hol, ← hph, ← hpl] at HTI6
  rw [← huh, ← hul, ← hqh, ← hql] at HTI7
  rw [← hgh, ← hgl]
  have HORD := Lib.hid (fun W => order_any ⟨glt, glv, gls⟩ ⟨gft, gfv, gfs⟩ W)
  unfold Pt.val at HORD
  simp only at HORD
  obtain ⟨oo, hoo⟩ : ∃ x, x = ordI ⟨glt, glv, gls⟩ ⟨gft, gfv, gfs⟩ := ⟨_, rfl⟩
  rw [← hoo] at HORD ord
  have HBT := Lib.hid (fun (x : Int) (h1 : gmn ≤ x) (h2 : x ≤ gmx) W => between_any [] gn gh gl gmn gmx gft gfv gfs glt glv gls true x W h1 h2)
  have HONE := Lib.hid one
  have hd0 : (gn == 0) = false := by simp; omega
  have hd1 : decide (0 < gn) = true := by simp; omega
  have hd2 : decide (gn ≤ 4611686018427387904) = true := by simp; omega
  have hd3 : decide (gmn ≤ gmx) = true := by simp; omega
  have hd4 : decide (oo < 0) = false := by simp; omega
  have hd5 : decide (r1 < 0) = false := by simp; omega
  have hd6 : decide (0 < r2) = false := by simp; omega
  clear hr1 hr2 hgh hgl hph hpl hqh hql hoh hol huh hul hoo one b1 b2 hsl hsh hss s1 s2
  go_enter Tryz.func40, Tryz.ntmps40
  go_upto_region 4 with fail
  obtain ⟨bl, hbl⟩ : ∃ bl, bl = w.heap.size + 1 := ⟨_, rfl⟩
  obtain ⟨W, hW⟩ : ∃ W, W = (w.alloc (.cells #[.int .i64 gn, .int .i64 gh, .int .u64 gl, .int .i64 gmn, .int .i64 gmx, .int .i64 gft, .int .i64 gfv, .int .i64 gfs, .int .i64 glt, .int .i64 glv, .int .i64 gls] 75 (0, 0))).alloc (.cells #[.int .i64 gn, .int .i64 gh, .int .u64 gl, .int .i64 gmn, .int .i64 gmx, .int .i64 gft, .int .i64 gfv, .int .i64 gfs, .int .i64 glt, .int .i64 glv, .int .i64 gls, .bool true] 151 (0, 0)) := ⟨_, rfl⟩
  have HXW : Hid (Ext w W) := Lib.hid (by rw [hW]; exact ((Ext.refl w).alloc _).alloc _)
  have HW : Hid (W.heap[bl]? = some (.cells #[.int .i64 gn, .int .i64 gh, .int .u64 gl, .int .i64 gmn, .int .i64 gmx, .int .i64 gft, .int .i64 gfv, .int .i64 gfs, .int .i64 glt, .int .i64 glv, .int .i64 gls, .bool true] 151 (0, 0))) := Lib.hid (by rw [hW, hbl]; exact heap_alloc2 w _ _)
  rw [← hW, ← hbl]
  clear hW hbl
  have c0 : W.cell? ⟨bl, 0, none⟩ = some (.int .i64 gn) := by have := cell_of_block HW.out 0; simpa using this
  have c1 : W.cell? ⟨bl, 1, none⟩ = some (.int .i64 gh) := by have := cell_of_block HW.out 1; simpa using this
  have c2 : W.cell? ⟨bl, 2, none⟩ = some (.int .u64 gl) := by have := cell_of_block HW.out 2; simpa using this
  have c3 : W.cell? ⟨bl, 3, none⟩ = some (.int .i64 gmn) := by have := cell_of_block HW.out 3; simpa using this
  have c4 : W.cell? ⟨bl, 4, none⟩ = some (.int .i64 gmx) := by have := cell_of_block HW.out 4; simpa using this
  have c5 : W.cell? ⟨bl, 5, none⟩ = some (.int .i64 gft) := by have := cell_of_block HW.out 5; simpa using this
  have c6 : W.cell? ⟨bl, 6, none⟩ = some (.int .i64 gfv) := by have := cell_of_block HW.out 6; simpa using this
  have c7 : W.cell? ⟨bl, 7, none⟩ = some (.int .i64 gfs) := by have := cell_of_block HW.out 7; simpa using this
  have c8 : W.cell? ⟨bl, 8, none⟩ = some (.int .i64 glt) := by have := cell_of_block HW.out 8; simpa using this
  have c9 : W.cell? ⟨bl, 9, none⟩ = some (.int .i64 glv) := by have := cell_of_block HW.out 9; simpa using this
  have c10 : W.cell? ⟨bl, 10, none⟩ = some (.int .i64 gls) := by have := cell_of_block HW.out 10; simpa using this
  have c11 : W.cell? ⟨bl, 11, none⟩ = some (.bool true) := by have := cell_of_block HW.out 11; simpa using this
  go_wp2_with fail
  refine (HBT.out _ fv1 fv2 _).mono ?_
  rintro e w1 ⟨rfl, hx1⟩
  have HX1 := Lib.hid (HXW.out.trans hx1)
  have H1 := Lib.hid ((hx1.block (block_lt HW.out)).trans HW.out)
  clear hx1
  clear c0 c1 c2 c3 c4 c5 c6 c7 c8 c9 c10 c11
  have c0 : w1.cell? ⟨bl, 0, none⟩ = some (.int .i64 gn) := by have := cell_of_block H1.out 0; simpa using this
  have c1 : w1.cell? ⟨bl, 1, none⟩ = some (.int .i64 gh) := by have := cell_of_block H1.out 1; simpa using this
  have c2 : w1.cell? ⟨bl, 2, none⟩ = some (.int .u64 gl) := by have := cell_of_block H1.out 2; simpa using this
  have c3 : w1.cell? ⟨bl, 3, none⟩ = some (.int .i64 gmn) := by have := cell_of_block H1.out 3; simpa using this
  have c4 : w1.cell? ⟨bl, 4, none⟩ = some (.int .i64 gmx) := by have := cell_of_block H1.out 4; simpa using this
  have c5 : w1.cell? ⟨bl, 5, none⟩ = some (.int .i64 gft) := by have := cell_of_block H1.out 5; simpa using this
  have c6 : w1.cell? ⟨bl, 6, none⟩ = some (.int .i64 gfv) := by have := cell_of_block H1.out 6; simpa using this
  have c7 : w1.cell? ⟨bl, 7, none⟩ = some (.int .i64 gfs) := by have := cell_of_block H1.out 7; simpa using this
  have c8 : w1.cell? ⟨bl, 8, none⟩ = some (.int .i64 glt) := by have := cell_of_block H1.out 8; simpa using this
  have c9 : w1.cell? ⟨bl, 9, none⟩ = some (.int .i64 glv) := by have := cell_of_block H1.out 9; simpa using this
  have c10 : w1.cell? ⟨bl, 10, none⟩ = some (.int .i64 gls) := by have := cell_of_block H1.out 10; simpa using this
  have c11 : w1.cell? ⟨bl, 11, none⟩ = some (.bool true) := by have := cell_of_block H1.out 11; simpa using this
  go_wp2_with fail
  refine (HBT.out _ lv1 lv2 _).mono ?_
  rintro e w2 ⟨rfl, hx2⟩
  have HX2 := Lib.hid (HX1.out.trans hx2)
  have H2 := Lib.hid ((hx2.block (block_lt H1.out)).trans H1.out)
  clear hx2
  clear c0 c1 c2 c3 c4 c5 c6 c7 c8 c9 c10 c11
  have c0 : w2.cell? ⟨bl, 0, none⟩ = some (.int .i64 gn) := by have := cell_of_block H2.out 0; simpa using this
  have c1 : w2.cell? ⟨bl, 1, none⟩ = some (.int .i64 gh) := by have := cell_of_block H2.out 1; simpa using this
  have c2 : w2.cell? ⟨bl, 2, none⟩ = some (.int .u64 gl) := by have := cell_of_block H2.out 2; simpa using this
  have c3 : w2.cell? ⟨bl, 3, none⟩ = some (.int .i64 gmn) := by have := cell_of_block H2.out 3; simpa using this
  have c4 : w2.cell? ⟨bl, 4, none⟩ = some (.int .i64 gmx) := by have := cell_of_block H2.out 4; simpa using this
  have c5 : w2.cell? ⟨bl, 5, none⟩ = some (.int .i64 gft) := by have := cell_of_block H2.out 5; simpa using this
  have c6 : w2.cell? ⟨bl, 6, none⟩ = some (.int .i64 gfv) := by have := cell_of_block H2.out 6; simpa using this
  have c7 : w2.cell? ⟨bl, 7, none⟩ = some (.int .i64 gfs) := by have := cell_of_block H2.out 7; simpa using this
  have c8 : w2.cell? ⟨bl, 8, none⟩ = some (.int .i64 glt) := by have := cell_of_block H2.out 8; simpa using this
  have c9 : w2.cell? ⟨bl, 9, none⟩ = some (.int .i64 glv) := by have := cell_of_block H2.out 9; simpa using this
  have c10 : w2.cell? ⟨bl, 10, none⟩ = some (.int .i64 gls) := by have := cell_of_block H2.out 10; simpa using this
  have c11 : w2.cell? ⟨bl, 11, none⟩ = some (.bool true) := by have := cell_of_block H2.out 11; simpa using this
  go_wp2_with fail
  refine (HORD.out _).mono ?_
  rintro e w3 ⟨rfl, hx3⟩
  have HX3 := Lib.hid (HX2.out.trans hx3)
  have H3 := Lib.hid ((hx3.block (block_lt H2.out)).trans H2.out)
  clear hx3
  clear c0 c1 c2 c3 c4 c5 c6 c7 c8 c9 c10 c11
  go_upto_region 6 with fail
  obtain ⟨w1, hbw⟩ : ∃ w1, w1 = w3 := ⟨_, rfl⟩
  rw [← hbw] at H3 HX3 ⊢
  clear hbw
  go_cut [4, 5] (fun s4 s5 wx => ∃ bz : Nat, s4 = .pointer (some ⟨bz, 0, none⟩) ∧ s5 = .bool true ∧ Hid (wx.heap[bz]? = some (.cells #[.int .i64 ph, .int .u64 pl] 73 (0, 0))) ∧ Hid (Ext w1 wx))
  case first =>
      have HBL := H3
      have f0 := cell_turned (T := fun _ => false) (show w1.cell? ⟨bl, 0, none⟩ = some (.int .i64 gn) by have := cell_of_block HBL.out 0; simpa using this) rfl
      have f1 := cell_turned (T := fun _ => false) (show w1.cell? ⟨bl, 3, none⟩ = some (.int .i64 gmn) by have := cell_of_block HBL.out 3; simpa using this) rfl
      refine wp_region_plan 13 (fun w' => ∃ p : Turned, w' = turned w1 (fun _ => false) p.d p.f p.os) (.reads [0, 1, 2, 4, 5, 6] (.two 3 (.two 7 (.reads [8, 9, 10] (.one 11 (.one 12 (.one 13 .done)))) 11 (.one 7 (.reads [8, 9, 10] (.one 12 (.one 13 .done))))) 11 (.one 3 (.one 7 (.reads [8, 9, 10] (.one 12 (.one 13 .done))))))) (by kernel_rfl) (by kernel_rfl) (fun _ _ dd _ _ hh => by cases dd <;> exact hh) ?_ ?_
      · exact turned_of_ext (Ext.drewN w1 1)
      refine wpPlan_reads ?_
      simp only [pickOps, List.getElem?_cons_succ, List.getElem?_cons_zero]
      repeat (go_big_quiet_step (fail))
      refine wpQuiet_nil ?_
      clear f0 f1
      refine wpPlan_two ?goA6 ?goB6
      case' goA6 =>
        simp only [pickOps, List.getElem?_cons_succ, List.getElem?_cons_zero]
        go_wp2_with fail
        refine (HOF6.out _).mono ?_
        rintro e w9 ⟨rfl, hx9⟩
        have HX9 := Lib.hid ((Ext.drewN w1 1).trans hx9)
        clear hx9
        go_wp2_with fail
        refine thenX_mk (turned_of_ext HX9.out) (wpPlan_two ?goC6 ?goD6)
      case' goC6 =>
        simp only [pickOps, List.getElem?_cons_succ, List.getElem?_cons_zero]
        go_wp2_with fail
        refine (HTI6.out _).mono ?_
        rintro e w10 ⟨rfl, hx10⟩
        have HX10 := Lib.hid (HX9.out.trans hx10)
        clear hx10
        go_wp2_with fail
        refine thenX_mk (turned_of_ext HX10.out) (wpPlan_reads ?_)
        simp only [pickOps, List.getElem?_cons_succ, List.getElem?_cons_zero]
        repeat (go_big_quiet_step (fail))
        refine wpQuiet_nil ?_
        refine wpPlan_one ?_
        simp only [pickOps, List.getElem?_cons_succ, List.getElem?_cons_zero]
        go_wp2_with fail
        refine thenX_mk (turned_of_ext (HX10.out.alloc _)) (wpPlan_one ?_)
        simp only [pickOps, List.getElem?_cons_succ, List.getElem?_cons_zero]
        obtain ⟨bz, hbz⟩ : ∃ bz, bz = w10.heap.size := ⟨_, rfl⟩
        have HB4 := Lib.hid (heap_alloc_new w10 (.cells #[.int .i64 0, .int .u64 0] 73 (0, 0)))
        have HX5 : Hid (Ext w1 (w10.alloc (.cells #[.int .i64 0, .int .u64 0] 73 (0, 0)))) := Lib.hid (HX10.out.alloc _)
        have HBZ : Hid (w1.heap.size ≤ bz) := Lib.hid (by rw [hbz]; exact HX10.out.size)
        rw [← hbz] at HB4
        rw [← hbz]
        generalize w10.alloc (.cells #[.int .i64 0, .int .u64 0] 73 (0, 0)) = w5 at *
        clear HX9 HX10 hbz
      case' goD6 =>
        simp only [pickOps, List.getElem?_cons_succ, List.getElem?_cons_zero]
        go_wp2_with fail
        obtain ⟨bz, hbz⟩ : ∃ bz, bz = w9.heap.size := ⟨_, rfl⟩
        refine thenX_mk (turned_of_ext (HX9.out.alloc _)) (wpPlan_one ?_)
        simp only [pickOps, List.getElem?_cons_succ, List.getElem?_cons_zero]
        go_wp2_with fail
        refine (HTI6.out _).mono ?_
        rintro e w5 ⟨rfl, hx4⟩
        have HX5 : Hid (Ext w1 w5) := Lib.hid ((HX9.out.alloc _).trans hx4)
        have HBZ : Hid (w1.heap.size ≤ bz) := Lib.hid (by rw [hbz]; exact HX9.out.size)
        have HB4 : Hid (w5.heap[bz]? = some (.cells #[.int .i64 0, .int .u64 0] 73 (0, 0))) := Lib.hid (by
          rw [hbz]
          have h0 := heap_alloc_new w9 (.cells #[.int .i64 0, .int .u64 0] 73 (0, 0))
          exact (hx4.block (block_lt h0)).trans h0)
        clear hx4
        go_wp2_with fail
        refine thenX_mk (turned_of_ext HX5.out) (wpPlan_reads ?_)
        simp only [pickOps, List.getElem?_cons_succ, List.getElem?_cons_zero]
        repeat (go_big_quiet_step (fail))
        refine wpQuiet_nil ?_
        refine wpPlan_one ?_
        simp only [pickOps, List.getElem?_cons_succ, List.getElem?_cons_zero]
        rw [← hbz]
        clear HX9 hbz
      case' goB6 =>
        simp only [pickOps, List.getElem?_cons_succ, List.getElem?_cons_zero]
        go_wp2_with fail
        obtain ⟨bz, hbz⟩ : ∃ bz, bz = w1.heap.size := ⟨_, rfl⟩
        refine thenX_mk (turned_of_ext ((Ext.drewN w1 1).alloc _)) (wpPlan_one ?_)
        simp only [pickOps, List.getElem?_cons_succ, List.getElem?_cons_zero]
        go_wp2_with fail
        refine (HOF6.out _).mono ?_
        rintro e w9 ⟨rfl, hx9⟩
        have HX9 := Lib.hid (((Ext.drewN w1 1).alloc _).trans hx9)
        have HB9 : Hid (w9.heap[bz]? = some (.cells #[.int .i64 0, .int .u64 0] 73 (0, 0))) := Lib.hid (by
          rw [hbz]
          have h0 := heap_alloc_new (w1.drewN 1) (.cells #[.int .i64 0, .int .u64 0] 73 (0, 0))
          exact (hx9.block (block_lt h0)).trans h0)
        clear hx9
        go_wp2_with fail
        refine thenX_mk (turned_of_ext HX9.out) (wpPlan_one ?_)
        simp only [pickOps, List.getElem?_cons_succ, List.getElem?_cons_zero]
        go_wp2_with fail
        refine (HTI6.out _).mono ?_
        rintro e w5 ⟨rfl, hx4⟩
        have HX5 : Hid (Ext w1 w5) := Lib.hid (HX9.out.trans hx4)
        have HBZ : Hid (w1.heap.size ≤ bz) := Lib.hid (by rw [hbz]; exact Nat.le_refl _)
        have HB4 : Hid (w5.heap[bz]? = some (.cells #[.int .i64 0, .int .u64 0] 73 (0, 0))) := Lib.hid ((hx4.block (block_lt HB9.out)).trans HB9.out)
        clear hx4
        go_wp2_with fail
        refine thenX_mk (turned_of_ext HX5.out) (wpPlan_reads ?_)
        simp only [pickOps, List.getElem?_cons_succ, List.getElem?_cons_zero]
        repeat (go_big_quiet_step (fail))
        refine wpQuiet_nil ?_
        refine wpPlan_one ?_
        simp only [pickOps, List.getElem?_cons_succ, List.getElem?_cons_zero]
        rw [← hbz]
        clear HX9 HB9 hbz
      all_goals
        refine wpList_store_box rfl _ _ _ rfl _ _ _ _ rfl rfl HB4.out rfl sum_info (by simp [Value.oneCell']) ?_
        rintro w6 hb6 hc6
        have HB6 := Lib.hid hb6
        have HX6 : Hid (Ext w1 w6) := Lib.hid (((Chg.of_ext (S := fun _ => False) HX5.out).trans hc6 (fun i hi e => by have := HBZ.out; omega)).ext (fun _ _ e => e))
        clear hb6 hc6 HX5 HB4
        go_wp2_with fail
        refine thenX_mk (turned_of_ext HX6.out) (wpPlan_one ?_)
        simp only [pickOps, List.getElem?_cons_succ, List.getElem?_cons_zero]
        go_wp2_with fail
        refine thenX_last (wpPlan_done ?_)
        go_wp2_with fail
        go_meet
        exact ⟨bz, rfl, rfl, HB6, HX6⟩
  case rest =>
    obtain ⟨bz, rfl, rfl, HZ, HX4⟩ := hcut
    have H4 := Lib.hid ((HX4.out.block (block_lt H3.out)).trans H3.out)
    have HXA := Lib.hid (HX3.out.trans HX4.out)
    clear H3 HX3 HX4
    obtain ⟨w1, hbw⟩ : ∃ w1, w1 = wc := ⟨_, rfl⟩
    rw [← hbw] at H4 HXA HZ ⊢
    clear hbw
    go_upto_region 7 with fail
    go_cut [6, 7] (fun s6 s7 wx => ∃ by2 : Nat, s6 = .pointer (some ⟨by2, 0, none⟩) ∧ s7 = .bool true ∧ Hid (wx.heap[by2]? = some (.cells #[.int .i64 qh, .int .u64 ql] 73 (0, 0))) ∧ Hid (Ext w1 wx))
    case first =>
      have HBL := H4
      have f0 := cell_turned (T := fun _ => false) (show w1.cell? ⟨bl, 0, none⟩ = some (.int .i64 gn) by have := cell_of_block HBL.out 0; simpa using this) rfl
      have f1 := cell_turned (T := fun _ => false) (show w1.cell? ⟨bl, 4, none⟩ = some (.int .i64 gmx) by have := cell_of_block HBL.out 4; simpa using this) rfl
      refine wp_region_plan 13 (fun w' => ∃ p : Turned, w' = turned w1 (fun _ => false) p.d p.f p.os) (.reads [0, 1, 2, 4, 5, 6] (.two 3 (.two 7 (.reads [8, 9, 10] (.one 11 (.one 12 (.one 13 .done)))) 11 (.one 7 (.reads [8, 9, 10] (.one 12 (.one 13 .done))))) 11 (.one 3 (.one 7 (.reads [8, 9, 10] (.one 12 (.one 13 .done))))))) (by kernel_rfl) (by kernel_rfl) (fun _ _ dd _ _ hh => by cases dd <;> exact hh) ?_ ?_
      · exact turned_of_ext (Ext.drewN w1 1)
      refine wpPlan_reads ?_
      simp only [pickOps, List.getElem?_cons_succ, List.getElem?_cons_zero]
      repeat (go_big_quiet_step (fail))
      refine wpQuiet_nil ?_
      clear f0 f1
      refine wpPlan_two ?goA7 ?goB7
      case' goA7 =>
        simp only [pickOps, List.getElem?_cons_succ, List.getElem?_cons_zero]
        go_wp2_with fail
        refine (HOF7.out _).mono ?_
        rintro e w9 ⟨rfl, hx9⟩
        have HX9 := Lib.hid ((Ext.drewN w1 1).trans hx9)
        clear hx9
        go_wp2_with fail
        refine thenX_mk (turned_of_ext HX9.out) (wpPlan_two ?goC7 ?goD7)
      case' goC7 =>
        simp only [pickOps, List.getElem?_cons_succ, List.getElem?_cons_zero]
        go_wp2_with fail
        refine (HTI7.out _).mono ?_
        rintro e w10 ⟨rfl, hx10⟩
        have HX10 := Lib.hid (HX9.out.trans hx10)
        clear hx10
        go_wp2_with fail
        refine thenX_mk (turned_of_ext HX10.out) (wpPlan_reads ?_)
        simp only [pickOps, List.getElem?_cons_succ, List.getElem?_cons_zero]
        repeat (go_big_quiet_step (fail))
        refine wpQuiet_nil ?_
        refine wpPlan_one ?_
        simp only [pickOps, List.getElem?_cons_succ, List.getElem?_cons_zero]
        go_wp2_with fail
        refine thenX_mk (turned_of_ext (HX10.out.alloc _)) (wpPlan_one ?_)
        simp only [pickOps, List.getElem?_cons_succ, List.getElem?_cons_zero]
        obtain ⟨bz, hbz⟩ : ∃ bz, bz = w10.heap.size := ⟨_, rfl⟩
        have HB4 := Lib.hid (heap_alloc_new w10 (.cells #[.int .i64 0, .int .u64 0] 73 (0, 0)))
        have HX5 : Hid (Ext w1 (w10.alloc (.cells #[.int .i64 0, .int .u64 0] 73 (0, 0)))) := Lib.hid (HX10.out.alloc _)
        have HBZ : Hid (w1.heap.size ≤ bz) := Lib.hid (by rw [hbz]; exact HX10.out.size)
        rw [← hbz] at HB4
        rw [← hbz]
        generalize w10.alloc (.cells #[.int .i64 0, .int .u64 0] 73 (0, 0)) = w5 at *
        clear HX9 HX10 hbz
      case' goD7 =>
        simp only [pickOps, List.getElem?_cons_succ, List.getElem?_cons_zero]
        go_wp2_with fail
        obtain ⟨bz, hbz⟩ : ∃ bz, bz = w9.heap.size := ⟨_, rfl⟩
        refine thenX_mk (turned_of_ext (HX9.out.alloc _)) (wpPlan_one ?_)
        simp only [pickOps, List.getElem?_cons_succ, List.getElem?_cons_zero]
        go_wp2_with fail
        refine (HTI7.out _).mono ?_
        rintro e w5 ⟨rfl, hx4⟩
        have HX5 : Hid (Ext w1 w5) := Lib.hid ((HX9.out.alloc _).trans hx4)
        have HBZ : Hid (w1.heap.size ≤ bz) := Lib.hid (by rw [hbz]; exact HX9.out.size)
        have HB4 : Hid (w5.heap[bz]? = some (.cells #[.int .i64 0, .int .u64 0] 73 (0, 0))) := Lib.hid (by
          rw [hbz]
          have h0 := heap_alloc_new w9 (.cells #[.int .i64 0, .int .u64 0] 73 (0, 0))
          exact (hx4.block (block_lt h0)).trans h0)
        clear hx4
        go_wp2_with fail
        refine thenX_mk (turned_of_ext HX5.out) (wpPlan_reads ?_)
        simp only [pickOps, List.getElem?_cons_succ, List.getElem?_cons_zero]
        repeat (go_big_quiet_step (fail))
        refine wpQuiet_nil ?_
        refine wpPlan_one ?_
        simp only [pickOps, List.getElem?_cons_succ, List.getElem?_cons_zero]
        rw [← hbz]
        clear HX9 hbz
      case' goB7 =>
        simp only [pickOps, List.getElem?_cons_succ, List.getElem?_cons_zero]
        go_wp2_with fail
        obtain ⟨bz, hbz⟩ : ∃ bz, bz = w1.heap.size := ⟨_, rfl⟩
        refine thenX_mk (turned_of_ext ((Ext.drewN w1 1).alloc _)) (wpPlan_one ?_)
        simp only [pickOps, List.getElem?_cons_succ, List.getElem?_cons_zero]
        go_wp2_with fail
        refine (HOF7.out _).mono ?_
        rintro e w9 ⟨rfl, hx9⟩
        have HX9 := Lib.hid (((Ext.drewN w1 1).alloc _).trans hx9)
        have HB9 : Hid (w9.heap[bz]? = some (.cells #[.int .i64 0, .int .u64 0] 73 (0, 0))) := Lib.hid (by
          rw [hbz]
          have h0 := heap_alloc_new (w1.drewN 1) (.cells #[.int .i64 0, .int .u64 0] 73 (0, 0))
          exact (hx9.block (block_lt h0)).trans h0)
        clear hx9
        go_wp2_with fail
        refine thenX_mk (turned_of_ext HX9.out) (wpPlan_one ?_)
        simp only [pickOps, List.getElem?_cons_succ, List.getElem?_cons_zero]
        go_wp2_with fail
        refine (HTI7.out _).mono ?_
        rintro e w5 ⟨rfl, hx4⟩
        have HX5 : Hid (Ext w1 w5) := Lib.hid (HX9.out.trans hx4)
        have HBZ : Hid (w1.heap.size ≤ bz) := Lib.hid (by rw [hbz]; exact Nat.le_refl _)
        have HB4 : Hid (w5.heap[bz]? = some (.cells #[.int .i64 0, .int .u64 0] 73 (0, 0))) := Lib.hid ((hx4.block (block_lt HB9.out)).trans HB9.out)
        clear hx4
        go_wp2_with fail
        refine thenX_mk (turned_of_ext HX5.out) (wpPlan_reads ?_)
        simp only [pickOps, List.getElem?_cons_succ, List.getElem?_cons_zero]
        repeat (go_big_quiet_step (fail))
        refine wpQuiet_nil ?_
        refine wpPlan_one ?_
        simp only [pickOps, List.getElem?_cons_succ, List.getElem?_cons_zero]
        rw [← hbz]
        clear HX9 HB9 hbz
      all_goals
        refine wpList_store_box rfl _ _ _ rfl _ _ _ _ rfl rfl HB4.out rfl sum_info (by simp [Value.oneCell']) ?_
        rintro w6 hb6 hc6
        have HB6 := Lib.hid hb6
        have HX6 : Hid (Ext w1 w6) := Lib.hid (((Chg.of_ext (S := fun _ => False) HX5.out).trans hc6 (fun i hi e => by have := HBZ.out; omega)).ext (fun _ _ e => e))
        clear hb6 hc6 HX5 HB4
        go_wp2_with fail
        refine thenX_mk (turned_of_ext HX6.out) (wpPlan_one ?_)
        simp only [pickOps, List.getElem?_cons_succ, List.getElem?_cons_zero]
        go_wp2_with fail
        refine thenX_last (wpPlan_done ?_)
        go_wp2_with fail
        go_meet
        exact ⟨bz, rfl, rfl, HB6, HX6⟩
    case rest =>
      obtain ⟨by2, rfl, rfl, HY, HX5⟩ := hcut
      have H5 := Lib.hid ((HX5.out.block (block_lt H4.out)).trans H4.out)
      have HZ5 := Lib.hid ((HX5.out.block (block_lt HZ.out)).trans HZ.out)
      have HXB := Lib.hid (HXA.out.trans HX5.out)
      clear H4 HXA HX5 HZ
      have c1 : wc.cell? ⟨bl, 1, none⟩ = some (.int .i64 gh) := by have := cell_of_block H5.out 1; simpa using this
      have c2 : wc.cell? ⟨bl, 2, none⟩ = some (.int .u64 gl) := by have := cell_of_block H5.out 2; simpa using this
      have z0 : wc.cell? ⟨bz, 0, none⟩ = some (.int .i64 ph) := by have := cell_of_block HZ5.out 0; simpa using this
      have z1 : wc.cell? ⟨bz, 1, none⟩ = some (.int .u64 pl) := by have := cell_of_block HZ5.out 1; simpa using this
      go_wp2_with fail
      refine (HC1.out _).mono ?_
      rintro e w5 ⟨rfl, hx5⟩
      have H6 := Lib.hid ((hx5.block (block_lt H5.out)).trans H5.out)
      have HY6 := Lib.hid ((hx5.block (block_lt HY.out)).trans HY.out)
      have HXC := Lib.hid (HXB.out.trans hx5)
      clear hx5 c1 c2 z0 z1
      have c1 : w5.cell? ⟨bl, 1, none⟩ = some (.int .i64 gh) := by have := cell_of_block H6.out 1; simpa using this
      have c2 : w5.cell? ⟨bl, 2, none⟩ = some (.int .u64 gl) := by have := cell_of_block H6.out 2; simpa using this
      have z0 : w5.cell? ⟨by2, 0, none⟩ = some (.int .i64 qh) := by have := cell_of_block HY6.out 0; simpa using this
      have z1 : w5.cell? ⟨by2, 1, none⟩ = some (.int .u64 ql) := by have := cell_of_block HY6.out 1; simpa using this
      go_wp2_with fail
      refine (HC2.out _).mono ?_
      rintro e w6 ⟨rfl, hx6⟩
      have H7 := Lib.hid ((hx6.block (block_lt H6.out)).trans H6.out)
      have HXD := Lib.hid (HXC.out.trans hx6)
      clear hx6 c1 c2 z0 z1 H5 H6
      rcases HONE.out with h1 | ⟨h1, h2⟩
      · have hdn : decide (1 < gn) = true := by simp; omega
        have c0 : w6.cell? ⟨bl, 0, none⟩ = some (.int .i64 gn) := by have := cell_of_block H7.out 0; simpa using this
        go_wp2_with fail
        go_ret
        exact ⟨rfl, HXD.out⟩
      · by_cases h3 : 1 < gn
        · have hdn : decide (1 < gn) = true := by simp; omega
          have c0 : w6.cell? ⟨bl, 0, none⟩ = some (.int .i64 gn) := by have := cell_of_block H7.out 0; simpa using this
          clear h1 h2
          go_wp2_with fail
          go_ret
          exact ⟨rfl, HXD.out⟩
        · have hdn : decide (1 < gn) = false := by simp; omega
          simp only [Pt.mk.injEq] at h1
          obtain ⟨rfl, rfl, rfl⟩ := h1
          subst h2
          have c0 : w6.cell? ⟨bl, 0, none⟩ = some (.int .i64 gn) := by have := cell_of_block H7.out 0; simpa using this
          have c3 : w6.cell? ⟨bl, 3, none⟩ = some (.int .i64 gmn) := by have := cell_of_block H7.out 3; simpa using this
          have c4 : w6.cell? ⟨bl, 4, none⟩ = some (.int .i64 gmn) := by have := cell_of_block H7.out 4; simpa using this
          have c5 : w6.cell? ⟨bl, 5, none⟩ = some (.int .i64 gft) := by have := cell_of_block H7.out 5; simpa using this
          have c6 : w6.cell? ⟨bl, 6, none⟩ = some (.int .i64 gfv) := by have := cell_of_block H7.out 6; simpa using this
          have c7 : w6.cell? ⟨bl, 7, none⟩ = some (.int .i64 gfs) := by have := cell_of_block H7.out 7; simpa using this
          have c8 : w6.cell? ⟨bl, 8, none⟩ = some (.int .i64 gft) := by have := cell_of_block H7.out 8; simpa using this
          have c9 : w6.cell? ⟨bl, 9, none⟩ = some (.int .i64 gfv) := by have := cell_of_block H7.out 9; simpa using this
          have c10 : w6.cell? ⟨bl, 10, none⟩ = some (.int .i64 gfs) := by have := cell_of_block H7.out 10; simpa using this
          go_wp2_with fail
          go_ret
          exact ⟨rfl, HXD.out⟩
end Go.Proofs.YtokllgdbmnmieaaGreat
