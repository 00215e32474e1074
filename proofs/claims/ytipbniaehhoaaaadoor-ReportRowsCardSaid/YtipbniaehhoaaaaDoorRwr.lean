/- report.Row; the law's walk. -/
import Derived.Test.YtipbniaehhoaaaaDoorR7t
import Derived.Test.YtipbniaehhoaaaaDoorWtx
import Derived.Lib.LaidTab
import Derived.Deep.DeepCutAuto
namespace Go.Proofs.YtipbniaehhoaaaaDoor
open Go.RowKit Go.Lib Go.Sort

theorem p10_glob : Tryd.prog.globalNamed "internal/strconv.uint64pow10" = some 2 := by kernel_rfl
/-- The table of the powers of ten is as it is laid. -/
def HasTab (w : World) : Prop := Lib.TabIs Tryd.prog w "internal/strconv.uint64pow10" .u64 Lib.pow10Tab
theorem HasTab.ext {w w' : World} (h : HasTab w) (hx : Ext w w') : HasTab w' := by
  unfold HasTab Lib.TabIs World.var? at h ⊢
  rw [p10_glob] at h ⊢
  simp only [Option.bind_some] at h ⊢
  have hlt : 2 < w.heap.size := by
    rcases Nat.lt_or_ge 2 w.heap.size with h' | h'
    · exact h'
    · rw [Array.getElem?_eq_none h'] at h; cases h
  rw [hx.below.block _ hlt]
  exact h

theorem itoa_len (s : Int) (h1 : -170141183460469231731687303715884105728 ≤ s) (h2 : s < 170141183460469231731687303715884105728) : (itoa s).length ≤ 40 := by
  unfold itoa
  split
  · have := decDigits_len39 s.natAbs (by omega)
    simp; omega
  · have := decDigits_len39 s.toNat (by omega)
    omega
/-- A numeral as a text. -/
def itS (s : Int) : ByteArray := ⟨(itoa s).toArray⟩
theorem itS_size (s : Int) (h1 : -170141183460469231731687303715884105728 ≤ s) (h2 : s < 170141183460469231731687303715884105728) : (itS s).size ≤ 40 := itoa_len s h1 h2

theorem sItoa_any (n : Int) (w : World) (h0 : -9223372036854775808 ≤ n) (h1 : n ≤ 9223372036854775807) (ht : HasTab w) :
    Calls Tryd.prog 10 #[.int .i64 n] w fun e w' => e = .returned (.string (itS n)) ∧ Ext w w' :=
  (Tryd.strconv_Itoa n h0 h1 w ht).mono (fun _ _ ⟨q1, k, os, q2⟩ => ⟨q1, by rw [q2]; exact Ext.regrown w (w.drawn + k) os⟩)

/-- The value of a row, as it is told. -/
def valS (nul : Bool) (v : Int) : ByteArray := if nul then ⟨#[110, 117, 108, 108]⟩ else itS v
def rowS (fr tt : Int) (nul : Bool) (v : Int) : ByteArray := itS fr ++ ⟨#[32]⟩ ++ itS tt ++ ⟨#[32]⟩ ++ valS nul v

set_option maxHeartbeats 2000000 in
set_option maxRecDepth 100000 in
theorem row_any (fr tt hi lo : Int) (nul : Bool) (w : World) (ht : HasTab w) (f0 : -9223372036854775808 ≤ fr) (f1 : fr ≤ 9223372036854775807) (t0 : -9223372036854775808 ≤ tt) (t1 : tt ≤ 9223372036854775807)
    (h0 : -9223372036854775808 ≤ hi) (h1 : hi ≤ 9223372036854775807) (l0 : 0 ≤ lo) (l1 : lo < 18446744073709551616) :
    Calls Tryd.prog 6 #[.agg #[.int .i64 fr, .int .i64 tt, .bool nul, .int .i64 hi, .int .u64 lo]] w fun e w' => e = .returned (.string (rowS fr tt nul (hi * 18446744073709551616 + lo))) ∧ Ext w w' := by
  obtain ⟨v, hv⟩ : ∃ v, v = hi * 18446744073709551616 + lo := ⟨_, rfl⟩
  have hvb : -170141183460469231731687303715884105728 ≤ v ∧ v < 170141183460469231731687303715884105728 := by omega
  have HTX : Hid (∀ W, Calls Tryd.prog 9 #[.agg #[.int .i64 hi, .int .u64 lo]] W fun e w' => e = .returned (.string (itS v)) ∧ Ext W w') := Lib.hid (fun W => by
    have h := text_any v W hvb.1 hvb.2
    unfold sumV at h
    rw [show v / 18446744073709551616 = hi by omega, show v % 18446744073709551616 = lo by omega] at h
    exact h)
  have HIF := Lib.hid (fun W h => sItoa_any fr W f0 f1 h)
  have HIT := Lib.hid (fun W h => sItoa_any tt W t0 t1 h)
  have zf := itS_size fr (by omega) (by omega)
  have zt := itS_size tt (by omega) (by omega)
  have zv : (valS nul v).size ≤ 40 := by
    unfold valS
    split
    · decide
    · exact itS_size v hvb.1 hvb.2
  rw [← hv]
  have HRS : Hid (rowS fr tt nul v = itS fr ++ ⟨#[32]⟩ ++ itS tt ++ ⟨#[32]⟩ ++ valS nul v) := Lib.hid rfl
  have HVN : Hid (valS true v = ⟨#[110, 117, 108, 108]⟩ ∧ valS false v = itS v) := Lib.hid ⟨rfl, rfl⟩
  obtain ⟨sf, hsf⟩ : ∃ x, x = itS fr := ⟨_, rfl⟩
  obtain ⟨st, hst⟩ : ∃ x, x = itS tt := ⟨_, rfl⟩
  rw [← hsf] at HIF HRS zf
  rw [← hst] at HIT HRS zt
  rw [HRS.out]
  have HT := Lib.hid ht
  clear hv hvb hsf hst HRS ht
  go_enter Tryd.func6, Tryd.ntmps6
  have HB := Lib.hid (heap_alloc_new w (.cells #[.int .i64 fr, .int .i64 tt, .bool nul, .int .i64 hi, .int .u64 lo] 26 (0, 0)))
  have HX : Hid (Ext w (w.alloc (.cells #[.int .i64 fr, .int .i64 tt, .bool nul, .int .i64 hi, .int .u64 lo] 26 (0, 0)))) := Lib.hid ((Ext.refl w).alloc _)
  cases nul
  · rw [HVN.out.2] at zv ⊢
    obtain ⟨sv, hsv⟩ : ∃ x : ByteArray, x = itS v := ⟨_, rfl⟩
    rw [← hsv] at HTX zv ⊢
    clear hsv
    go_wp2_with fail
    refine (HTX.out _).mono ?_
    rintro e w1 ⟨rfl, hx1⟩
    have HX1 := Lib.hid (HX.out.trans hx1)
    have HBX := (hx1.block (block_lt HB.out)).trans HB.out
    clear hx1
    go_upto_region 4 with fail
    have HTW : Hid (HasTab w1) := Lib.hid (HT.out.ext HX1.out)
    have HBW : Hid (w1.heap[w.heap.size]? = some (.cells #[.int .i64 fr, .int .i64 tt, .bool false, .int .i64 hi, .int .u64 lo] 26 (0, 0))) := Lib.hid HBX
    have c0 := cell_regrown (show w1.cell? ⟨w.heap.size, 0, none⟩ = some (.int .i64 fr) by have := cell_of_block HBW.out 0; simpa using this)
    have c1 := cell_regrown (show w1.cell? ⟨w.heap.size, 1, none⟩ = some (.int .i64 tt) by have := cell_of_block HBW.out 1; simpa using this)
    have q1 : ¬ 9223372036854775807 < sf.size + 1 := by omega
    have q2 : ¬ 9223372036854775807 < sf.size + 1 + st.size := by omega
    have q3 : ¬ 9223372036854775807 < sf.size + 1 + st.size + 1 := by omega
    have q4 : ¬ 9223372036854775807 < sf.size + 1 + st.size + 1 + sv.size := by omega
    refine wp_region_quiet_below (by kernel_rfl) (by kernel_rfl) ?_
    iterate 2 (go_big_quiet_step (fail))
    go_big_quiet_step ((go_at_call 10; exact Calls.grown_of (HIF.out _ (HTW.out.ext (Ext.regrown _ _ _)))))
    iterate 3 (go_big_quiet_step (fail))
    go_big_quiet_step ((go_at_call 10; exact Calls.grown_of (HIT.out _ (HTW.out.ext (Ext.regrown _ _ _)))))
    repeat (go_big_quiet_step (fail))
    refine wpQuiet_nil ?_
    intro _ hw'
    obtain ⟨pr, rfl⟩ := hw'
    go_wp2_with fail
    go_ret
    exact ⟨rfl, HX1.out.trans (Ext.regrown _ _ _)⟩
  · rw [HVN.out.1] at zv ⊢
    go_wp2_with fail
    have HBX := HB.out
    obtain ⟨w1, hw1⟩ : ∃ w1, w1 = w.alloc (.cells #[.int .i64 fr, .int .i64 tt, .bool true, .int .i64 hi, .int .u64 lo] 26 (0, 0)) := ⟨_, rfl⟩
    rw [← hw1] at HX HBX ⊢
    clear hw1 HB
    have HTW : Hid (HasTab w1) := Lib.hid (HT.out.ext HX.out)
    have HBW : Hid (w1.heap[w.heap.size]? = some (.cells #[.int .i64 fr, .int .i64 tt, .bool true, .int .i64 hi, .int .u64 lo] 26 (0, 0))) := Lib.hid HBX
    have c0 := cell_regrown (show w1.cell? ⟨w.heap.size, 0, none⟩ = some (.int .i64 fr) by have := cell_of_block HBW.out 0; simpa using this)
    have c1 := cell_regrown (show w1.cell? ⟨w.heap.size, 1, none⟩ = some (.int .i64 tt) by have := cell_of_block HBW.out 1; simpa using this)
    have q1 : ¬ 9223372036854775807 < sf.size + 1 := by omega
    have q2 : ¬ 9223372036854775807 < sf.size + 1 + st.size := by omega
    have q3 : ¬ 9223372036854775807 < sf.size + 1 + st.size + 1 := by omega
    have q4 : ¬ 9223372036854775807 < sf.size + 1 + st.size + 1 + 4 := by omega
    refine wp_region_quiet_below (by kernel_rfl) (by kernel_rfl) ?_
    iterate 2 (go_big_quiet_step (fail))
    go_big_quiet_step ((go_at_call 10; exact Calls.grown_of (HIF.out _ (HTW.out.ext (Ext.regrown _ _ _)))))
    iterate 3 (go_big_quiet_step (fail))
    go_big_quiet_step ((go_at_call 10; exact Calls.grown_of (HIT.out _ (HTW.out.ext (Ext.regrown _ _ _)))))
    repeat (go_big_quiet_step (fail))
    refine wpQuiet_nil ?_
    intro _ hw'
    obtain ⟨pr, rfl⟩ := hw'
    go_wp2_with fail
    go_ret
    exact ⟨rfl, HX.out.trans (Ext.regrown _ _ _)⟩
end Go.Proofs.YtipbniaehhoaaaaDoor
