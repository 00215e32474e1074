/- ReportRows: the law's walk. -/
import Derived.Test.YtipbniaehhoaaaaDoorRwr
namespace Go.Proofs.YtipbniaehhoaaaaDoor
open Go.RowKit Go.Lib Go.Sort

set_option maxHeartbeats 4000000 in
set_option maxRecDepth 100000 in
theorem rows_walk (fr tt hi lo : Int) (nul : Bool) (w : World) (ht : HasTab w) (f0 : -9223372036854775808 ≤ fr) (f1 : fr ≤ 9223372036854775807) (t0 : -9223372036854775808 ≤ tt) (t1 : tt ≤ 9223372036854775807)
    (h0 : -9223372036854775808 ≤ hi) (h1 : hi ≤ 9223372036854775807) (l0 : 0 ≤ lo) (l1 : lo < 18446744073709551616) :
    Calls Tryd.prog 3 #[.agg #[.int .i64 fr, .int .i64 tt, .bool nul, .int .i64 hi, .int .u64 lo]] w fun e w' => e = .returned (.bool true) ∧ Ext w w' := by
  obtain ⟨v, hv⟩ : ∃ v, v = hi * 18446744073709551616 + lo := ⟨_, rfl⟩
  have hvb : -170141183460469231731687303715884105728 ≤ v ∧ v < 170141183460469231731687303715884105728 := by omega
  have HRW := Lib.hid (fun W h => row_any fr tt hi lo nul W h f0 f1 t0 t1 h0 h1 l0 l1)
  obtain ⟨V, hV⟩ : ∃ A, A = lmA v := ⟨_, rfl⟩
  obtain ⟨F, hF⟩ : ∃ A, A = lmA fr := ⟨_, rfl⟩
  obtain ⟨T, hT⟩ : ∃ A, A = lmA tt := ⟨_, rfl⟩
  have HLV : Hid (∀ W, Calls Tryd.prog 5 #[.int .i64 hi, .int .u64 lo] W fun e w' => e = .returned (.agg V) ∧ Ext W w') := Lib.hid (fun W => by
    have h := limbs_any v W hvb.1 hvb.2
    rw [show v / 18446744073709551616 = hi by omega, show v % 18446744073709551616 = lo by omega, ← hV] at h
    exact h)
  obtain ⟨fa, hfa⟩ : ∃ x, x = fr / 9223372036854775808 := ⟨_, rfl⟩
  obtain ⟨fb, hfb⟩ : ∃ x, x = IntKind.u64.wrap fr := ⟨_, rfl⟩
  obtain ⟨ta, hta⟩ : ∃ x, x = tt / 9223372036854775808 := ⟨_, rfl⟩
  obtain ⟨tb, htb⟩ : ∃ x, x = IntKind.u64.wrap tt := ⟨_, rfl⟩
  have HLF : Hid (∀ W, Calls Tryd.prog 5 #[.int .i64 fa, .int .u64 fb] W fun e w' => e = .returned (.agg F) ∧ Ext W w') := Lib.hid (fun W => by
    have h := limbs_any fr W (by omega) (by omega)
    rw [show fr / 18446744073709551616 = fa by omega, show fr % 18446744073709551616 = fb by rw [hfb, IntKind.wrap_u64], ← hF] at h
    exact h)
  have HLT : Hid (∀ W, Calls Tryd.prog 5 #[.int .i64 ta, .int .u64 tb] W fun e w' => e = .returned (.agg T) ∧ Ext W w') := Lib.hid (fun W => by
    have h := limbs_any tt W (by omega) (by omega)
    rw [show tt / 18446744073709551616 = ta by omega, show tt % 18446744073709551616 = tb by rw [htb, IntKind.wrap_u64], ← hT] at h
    exact h)
  have HXV : Hid (∀ W, Calls Tryd.prog 4 #[.agg V] W fun e w' => e = .returned (.string (itS v)) ∧ Ext W w') := Lib.hid (fun W => by rw [hV]; exact rtext_any v W hvb.1 hvb.2)
  have HXF : Hid (∀ W, Calls Tryd.prog 4 #[.agg F] W fun e w' => e = .returned (.string (itS fr)) ∧ Ext W w') := Lib.hid (fun W => by rw [hF]; exact rtext_any fr W (by omega) (by omega))
  have HXT : Hid (∀ W, Calls Tryd.prog 4 #[.agg T] W fun e w' => e = .returned (.string (itS tt)) ∧ Ext W w') := Lib.hid (fun W => by rw [hT]; exact rtext_any tt W (by omega) (by omega))
  have zf := itS_size fr (by omega) (by omega)
  have zt := itS_size tt (by omega) (by omega)
  have zv : (valS nul v).size ≤ 40 := by
    unfold valS
    split
    · decide
    · exact itS_size v hvb.1 hvb.2
  have HRS : Hid (rowS fr tt nul v = itS fr ++ ⟨#[32]⟩ ++ itS tt ++ ⟨#[32]⟩ ++ valS nul v) := Lib.hid rfl
  have HVN : Hid (valS true v = ⟨#[110, 117, 108, 108]⟩ ∧ valS false v = itS v) := Lib.hid ⟨rfl, rfl⟩
  obtain ⟨sf, hsf⟩ : ∃ x, x = itS fr := ⟨_, rfl⟩
  obtain ⟨st, hst⟩ : ∃ x, x = itS tt := ⟨_, rfl⟩
  rw [← hsf] at HXF HRS zf
  rw [← hst] at HXT HRS zt
  rw [← hv] at HRW
  rw [HRS.out] at HRW
  have HT := Lib.hid ht
  have e1 := hfa.symm
  have e2 := hfb.symm
  have e3 := hta.symm
  have e4 := htb.symm
  clear hv hvb hsf hst HRS ht hV hF hT hfa hfb hta htb
  go_enter Tryd.func3, Tryd.ntmps3
  have HB := Lib.hid (heap_alloc_new w (.cells #[.int .i64 fr, .int .i64 tt, .bool nul, .int .i64 hi, .int .u64 lo] 26 (0, 0)))
  have HX : Hid (Ext w (w.alloc (.cells #[.int .i64 fr, .int .i64 tt, .bool nul, .int .i64 hi, .int .u64 lo] 26 (0, 0)))) := Lib.hid ((Ext.refl w).alloc _)
  cases nul
  · rw [HVN.out.2] at zv HRW
    obtain ⟨sv, hsv⟩ : ∃ x : ByteArray, x = itS v := ⟨_, rfl⟩
    rw [← hsv] at HXV zv HRW
    clear hsv
    go_wp2_with fail
    refine (HLV.out _).mono ?_
    rintro e w0 ⟨rfl, hx0⟩
    have HX0 := Lib.hid (HX.out.trans hx0)
    have HB0 := Lib.hid ((hx0.block (block_lt HB.out)).trans HB.out)
    clear hx0
    go_wp2_with fail
    refine (HXV.out _).mono ?_
    rintro e w1 ⟨rfl, hx1⟩
    have HX1 := Lib.hid (HX0.out.trans hx1)
    have HBX := (hx1.block (block_lt HB0.out)).trans HB0.out
    clear hx1
    go_upto_region 4 with fail
    have HTW : Hid (HasTab w1) := Lib.hid (HT.out.ext HX1.out)
    have HBW : Hid (w1.heap[w.heap.size]? = some (.cells #[.int .i64 fr, .int .i64 tt, .bool false, .int .i64 hi, .int .u64 lo] 26 (0, 0))) := Lib.hid HBX
    have c0 := cell_regrown (show w1.cell? ⟨w.heap.size, 0, none⟩ = some (.int .i64 fr) by have := cell_of_block HBW.out 0; simpa using this)
    have c1 := cell_regrown (show w1.cell? ⟨w.heap.size, 1, none⟩ = some (.int .i64 tt) by have := cell_of_block HBW.out 1; simpa using this)
    refine wp_region_quiet_below (by kernel_rfl) (by kernel_rfl) ?_
    iterate 6 (go_big_quiet_step (fail))
    go_big_quiet_step ((go_at_call 5; exact Calls.grown_of (HLF.out _)))
    go_big_quiet_step ((go_at_call 4; exact Calls.grown_of (HXF.out _)))
    iterate 6 (go_big_quiet_step (fail))
    go_big_quiet_step ((go_at_call 5; exact Calls.grown_of (HLT.out _)))
    go_big_quiet_step ((go_at_call 4; exact Calls.grown_of (HXT.out _)))
    repeat (go_big_quiet_step (fail))
    refine wpQuiet_nil ?_
    intro _ hw'
    obtain ⟨pr, rfl⟩ := hw'
    generalize hW5 : grow _ _ = w5
    have HX5 : Hid (Ext w1 w5) := Lib.hid (by subst hW5; exact Ext.regrown _ _ _)
    have HB5 := Lib.hid ((HX5.out.block (block_lt HBW.out)).trans HBW.out)
    clear hW5 c0 c1
    have c0 : w5.cell? ⟨w.heap.size, 0, none⟩ = some (.int .i64 fr) := by have := cell_of_block HB5.out 0; simpa using this
    have c1 : w5.cell? ⟨w.heap.size, 1, none⟩ = some (.int .i64 tt) := by have := cell_of_block HB5.out 1; simpa using this
    have c2 : w5.cell? ⟨w.heap.size, 2, none⟩ = some (.bool false) := by have := cell_of_block HB5.out 2; simpa using this
    have c3 : w5.cell? ⟨w.heap.size, 3, none⟩ = some (.int .i64 hi) := by have := cell_of_block HB5.out 3; simpa using this
    have c4 : w5.cell? ⟨w.heap.size, 4, none⟩ = some (.int .u64 lo) := by have := cell_of_block HB5.out 4; simpa using this
    go_wp2_with (go_at_call 6; refine (HRW.out _ (HTW.out.ext HX5.out)).mono ?_; rintro e w6 ⟨rfl, hx6⟩; have HX6 := Lib.hid (HX1.out.trans (HX5.out.trans hx6)); clear hx6)
    go_ret
    exact ⟨rfl, HX6.out⟩
  · rw [HVN.out.1] at zv HRW
    go_wp2_with fail
    have HBX := HB.out
    obtain ⟨w1, hw1⟩ : ∃ w1, w1 = w.alloc (.cells #[.int .i64 fr, .int .i64 tt, .bool true, .int .i64 hi, .int .u64 lo] 26 (0, 0)) := ⟨_, rfl⟩
    rw [← hw1] at HX HBX ⊢
    clear hw1 HB
    have HTW : Hid (HasTab w1) := Lib.hid (HT.out.ext HX.out)
    have HBW : Hid (w1.heap[w.heap.size]? = some (.cells #[.int .i64 fr, .int .i64 tt, .bool true, .int .i64 hi, .int .u64 lo] 26 (0, 0))) := Lib.hid HBX
    have c0 := cell_regrown (show w1.cell? ⟨w.heap.size, 0, none⟩ = some (.int .i64 fr) by have := cell_of_block HBW.out 0; simpa using this)
    have c1 := cell_regrown (show w1.cell? ⟨w.heap.size, 1, none⟩ = some (.int .i64 tt) by have := cell_of_block HBW.out 1; simpa using this)
    refine wp_region_quiet_below (by kernel_rfl) (by kernel_rfl) ?_
    iterate 6 (go_big_quiet_step (fail))
    go_big_quiet_step ((go_at_call 5; exact Calls.grown_of (HLF.out _)))
    go_big_quiet_step ((go_at_call 4; exact Calls.grown_of (HXF.out _)))
    iterate 6 (go_big_quiet_step (fail))
    go_big_quiet_step ((go_at_call 5; exact Calls.grown_of (HLT.out _)))
    go_big_quiet_step ((go_at_call 4; exact Calls.grown_of (HXT.out _)))
    repeat (go_big_quiet_step (fail))
    refine wpQuiet_nil ?_
    intro _ hw'
    obtain ⟨pr, rfl⟩ := hw'
    generalize hW5 : grow _ _ = w5
    have HX5 : Hid (Ext w1 w5) := Lib.hid (by subst hW5; exact Ext.regrown _ _ _)
    have HB5 := Lib.hid ((HX5.out.block (block_lt HBW.out)).trans HBW.out)
    clear hW5 c0 c1
    have c0 : w5.cell? ⟨w.heap.size, 0, none⟩ = some (.int .i64 fr) := by have := cell_of_block HB5.out 0; simpa using this
    have c1 : w5.cell? ⟨w.heap.size, 1, none⟩ = some (.int .i64 tt) := by have := cell_of_block HB5.out 1; simpa using this
    have c2 : w5.cell? ⟨w.heap.size, 2, none⟩ = some (.bool true) := by have := cell_of_block HB5.out 2; simpa using this
    have c3 : w5.cell? ⟨w.heap.size, 3, none⟩ = some (.int .i64 hi) := by have := cell_of_block HB5.out 3; simpa using this
    have c4 : w5.cell? ⟨w.heap.size, 4, none⟩ = some (.int .u64 lo) := by have := cell_of_block HB5.out 4; simpa using this
    go_wp2_with (go_at_call 6; refine (HRW.out _ (HTW.out.ext HX5.out)).mono ?_; rintro e w6 ⟨rfl, hx6⟩; have HX6 := Lib.hid (HX.out.trans (HX5.out.trans hx6)); clear hx6)
    go_ret
    exact ⟨rfl, HX6.out⟩
end Go.Proofs.YtipbniaehhoaaaaDoor
