/- wide: Of, plus, below, Add: sums as whole numbers. -/
import Derived.Test.YthnpchfcafaiiaaWin
import Derived.Test.YthnpchfcafaiiaaApp
import Derived.Laws.Externs
import Derived.Lib.QuietBelow
import Derived.Deep.QuietTactic
import Derived.BigQuiet
namespace Go.Proofs.Ythnpchfcafaiiaa
open Go.RowKit Go.Lib Go.Sort

abbrev M64 : Int := 18446744073709551616
/-- A sum as a value, its two cells. -/
def sumV (s : Int) : Value := .agg #[.int .i64 (s / 18446744073709551616), .int .u64 (s % 18446744073709551616)]
def sumOk (s : Int) : Prop := -170141183460469231731687303715884105728 ≤ s ∧ s < 170141183460469231731687303715884105728

theorem heap_alloc3 (w : World) (o1 o2 o3 : Obj) : (((w.alloc o1).alloc o2).alloc o3).heap[w.heap.size + 1 + 1]? = some o3 := by
  have := heap_alloc_new ((w.alloc o1).alloc o2) o3
  simpa using this
theorem add64_run (x y c : Int) (hx : 0 ≤ x) (hy : 0 ≤ y) (c0 : 0 ≤ c) (c1 : c ≤ 1) (w : World) :
    (callFunc 62 #[.int .u64 x, .int .u64 y, .int .u64 c]).run Try.prog w = .ok (.value (.tuple #[.int .u64 ((x + y + c) % 18446744073709551616), .int .u64 ((x + y + c) / 18446744073709551616)])) w := by
  rw [run_callFunc_extern Try.func62 (by kernel_rfl) (by kernel_rfl) (by kernel_rfl) (e := add64Entry) (by kernel_rfl), run_add64 x y c hx hy c0 c1]
  rfl
theorem add64_run0 (x y : Int) (hx : 0 ≤ x) (hy : 0 ≤ y) (w : World) :
    (callFunc 62 #[.int .u64 x, .int .u64 y, .int .u64 0]).run Try.prog w = .ok (.value (.tuple #[.int .u64 ((x + y) % 18446744073709551616), .int .u64 ((x + y) / 18446744073709551616)])) w := by
  have := add64_run x y 0 hx hy (Int.le_refl 0) (by decide) w
  simpa using this

set_option maxHeartbeats 1000000 in
theorem wideOf_any (n : Int) (w : World) (h1 : -9223372036854775808 ≤ n) (h2 : n ≤ 9223372036854775807) :
    Calls Try.prog 32 #[.int .i64 n] w fun e w' => e = .returned (sumV n) ∧ Ext w w' := by
  go_enter Try.func32, Try.ntmps32
  go_wp2_with fail
  refine bodyPost_ret (v := .agg #[.int .i64 (n / 9223372036854775808), .int .u64 (IntKind.u64.wrap n)]) (by simp [results, Try.results32, go_sem]) rfl ⟨?_, (Ext.refl w).alloc _⟩
  unfold sumV
  have e1 : n / 9223372036854775808 = n / 18446744073709551616 := by omega
  have e2 : IntKind.u64.wrap n = n % 18446744073709551616 := by rw [IntKind.wrap_u64]
  rw [e1, e2]

set_option maxHeartbeats 1000000 in
theorem below_any (hi lo : Int) (w : World) :
    Calls Try.prog 64 #[.agg #[.int .i64 hi, .int .u64 lo]] w fun e w' => e = .returned (.bool (decide (hi < 0))) ∧ Ext w w' := by
  go_enter Try.func64, Try.ntmps64
  go_wp2_with fail
  go_ret
  exact ⟨rfl, (Ext.refl w).alloc _⟩

set_option maxHeartbeats 1000000 in
set_option maxRecDepth 100000 in
theorem plus_any (ah al bh bl : Int) (w : World) (a0 : 0 ≤ al) (a1 : al < 18446744073709551616) (b0 : 0 ≤ bl) (b1 : bl < 18446744073709551616) 
    (c0 : -9223372036854775808 ≤ ah) (c1 : ah ≤ 9223372036854775807) (d0 : -9223372036854775808 ≤ bh) (d1 : bh ≤ 9223372036854775807) (hfit : sumOk ((ah + bh) * 18446744073709551616 + al + bl)) :
    Calls Try.prog 68 #[.agg #[.int .i64 ah, .int .u64 al], .agg #[.int .i64 bh, .int .u64 bl]] w fun e w' => e = .returned (sumV ((ah + bh) * 18446744073709551616 + al + bl)) ∧ Ext w w' := by
  go_enter Try.func68, Try.ntmps68
  have HFIT := Lib.hid hfit
  clear hfit
  obtain ⟨c, hc⟩ : ∃ c, c = (al + bl) / 18446744073709551616 := ⟨_, rfl⟩
  have k0 : 0 ≤ c := by omega
  have k1 : c ≤ 1 := by omega
  obtain ⟨ua, hua⟩ : ∃ ua, ua = IntKind.u64.wrap ah := ⟨_, rfl⟩
  obtain ⟨ub, hub⟩ : ∃ ub, ub = IntKind.u64.wrap bh := ⟨_, rfl⟩
  have va : 0 ≤ ua := by rw [hua, IntKind.wrap_u64]; omega
  have vb : 0 ≤ ub := by rw [hub, IntKind.wrap_u64]; omega
  have q1 := add64_run ua ub c va vb k0 k1
  rw [hua, hub, hc] at q1
  have q0 := add64_run0 al bl a0 b0
  have HC := Lib.hid hc
  have HUA := Lib.hid hua
  have HUB := Lib.hid hub
  clear hc hua hub
  go_wp2_with (first | simp only [q0] | simp only [q1])
  refine bodyPost_ret (v := .agg #[.int .i64 (wrap64 ((IntKind.u64.wrap ah + IntKind.u64.wrap bh + (al + bl) / 18446744073709551616) % 18446744073709551616)), .int .u64 ((al + bl) % 18446744073709551616)]) (by simp [results, Try.results68, go_sem]) rfl ⟨?_, (((Ext.refl w).alloc _).alloc _).alloc _⟩
  unfold sumV
  have e2 : (al + bl) % 18446744073709551616 = ((ah + bh) * 18446744073709551616 + al + bl) % 18446744073709551616 := by omega
  have e1 : wrap64 ((IntKind.u64.wrap ah + IntKind.u64.wrap bh + (al + bl) / 18446744073709551616) % 18446744073709551616) = ((ah + bh) * 18446744073709551616 + al + bl) / 18446744073709551616 := by
    have hf := HFIT.out
    unfold sumOk at hf
    rw [IntKind.wrap_u64, IntKind.wrap_u64]
    unfold wrap64
    omega
  rw [e1, ← e2]

theorem sum_parts {s : Int} (h : sumOk s) : -9223372036854775808 ≤ s / 18446744073709551616 ∧ s / 18446744073709551616 ≤ 9223372036854775807 ∧ 0 ≤ s % 18446744073709551616 ∧ s % 18446744073709551616 < 18446744073709551616 := by
  unfold sumOk at h
  omega

/-- What plus tells of whole numbers. -/
theorem plus_sum (a b : Int) (w : World) (ha : sumOk a) (hb : sumOk b) (hs : sumOk (a + b)) :
    Calls Try.prog 68 #[sumV a, sumV b] w fun e w' => e = .returned (sumV (a + b)) ∧ Ext w w' := by
  have h1 := sum_parts ha
  have h2 := sum_parts hb
  have e : (a / 18446744073709551616 + b / 18446744073709551616) * 18446744073709551616 + a % 18446744073709551616 + b % 18446744073709551616 = a + b := by omega
  have := plus_any (a / 18446744073709551616) (a % 18446744073709551616) (b / 18446744073709551616) (b % 18446744073709551616) w h1.2.2.1 h1.2.2.2 h2.2.2.1 h2.2.2.2 h1.1 h1.2.1 h2.1 h2.2.1 (by rw [e]; exact hs)
  rw [e] at this
  exact this

set_option maxHeartbeats 2000000 in
set_option maxRecDepth 100000 in
theorem wideAdd_ok (a b : Int) (w : World) (ha : sumOk a) (hb : sumOk b) (hs : sumOk (a + b)) :
    Calls Try.prog 52 #[sumV a, sumV b] w fun e w' => e = .returned (.tuple #[sumV (a + b), .bool true]) ∧ Ext w w' := by
  have HP := Lib.hid (fun W => plus_sum a b W ha hb hs)
  have HA := Lib.hid ha
  have HB := Lib.hid hb
  have HS := Lib.hid hs
  clear ha hb hs
  unfold sumV at HP ⊢
  obtain ⟨ah, hah⟩ : ∃ x, x = a / 18446744073709551616 := ⟨_, rfl⟩
  obtain ⟨al, hal⟩ : ∃ x, x = a % 18446744073709551616 := ⟨_, rfl⟩
  obtain ⟨bh, hbh⟩ : ∃ x, x = b / 18446744073709551616 := ⟨_, rfl⟩
  obtain ⟨bl, hbl⟩ : ∃ x, x = b % 18446744073709551616 := ⟨_, rfl⟩
  obtain ⟨sh, hsh⟩ : ∃ x, x = (a + b) / 18446744073709551616 := ⟨_, rfl⟩
  obtain ⟨sl, hsl⟩ : ∃ x, x = (a + b) % 18446744073709551616 := ⟨_, rfl⟩
  rw [← hah, ← hal, ← hbh, ← hbl, ← hsh, ← hsl] at HP
  rw [← hah, ← hal, ← hbh, ← hbl, ← hsh, ← hsl]
  have HE := Lib.hid (And.intro hah (And.intro hbh hsh))
  clear hah hal hbh hbl hsh hsl
  go_enter Try.func52, Try.ntmps52
  go_wp2_with fail
  refine (HP.out _).mono ?_
  rintro e w1 ⟨rfl, hx1⟩
  have HX1 := Lib.hid hx1
  clear hx1
  go_wp2_with fail
  generalize hW : World.alloc _ _ = W
  have b0 : W.heap[w.heap.size]? = some (.cells #[.int .i64 ah, .int .u64 al] 46 (0, 0)) := by
    subst hW
    have h0 := heap_alloc_new w (.cells #[.int .i64 ah, .int .u64 al] 46 (0, 0))
    have h1 := (((Ext.refl _).alloc _).alloc _).trans (HX1.out.alloc (.cells #[.int .i64 sh, .int .u64 sl] 46 (0, 0)))
    exact (h1.block (block_lt h0)).trans h0
  have b1 : W.heap[w.heap.size + 1]? = some (.cells #[.int .i64 bh, .int .u64 bl] 46 (0, 0)) := by
    subst hW
    have h0 := heap_alloc2 w (.cells #[.int .i64 ah, .int .u64 al] 46 (0, 0)) (.cells #[.int .i64 bh, .int .u64 bl] 46 (0, 0))
    have h1 := ((Ext.refl _).alloc _).trans (HX1.out.alloc (.cells #[.int .i64 sh, .int .u64 sl] 46 (0, 0)))
    exact (h1.block (block_lt h0)).trans h0
  have b2 : W.heap[w1.heap.size]? = some (.cells #[.int .i64 sh, .int .u64 sl] 46 (0, 0)) := by
    subst hW
    exact heap_alloc_new w1 _
  have b3 : W.heap[w.heap.size + 1 + 1]? = some (.cells #[.int .i64 0, .int .u64 0] 46 (0, 0)) := by
    subst hW
    have h0 := heap_alloc3 w (.cells #[.int .i64 ah, .int .u64 al] 46 (0, 0)) (.cells #[.int .i64 bh, .int .u64 bl] 46 (0, 0)) (.cells #[.int .i64 0, .int .u64 0] 46 (0, 0))
    have h1 := HX1.out.alloc (.cells #[.int .i64 sh, .int .u64 sl] 46 (0, 0))
    exact (h1.block (block_lt h0)).trans h0
  have HXW : Hid (Ext w W) := Lib.hid (by subst hW; exact (((((Ext.refl w).alloc _).alloc _).alloc _).trans HX1.out).alloc _)
  clear hW HX1 HP
  have r0 := cell_regrown (show W.cell? ⟨w.heap.size, 0, none⟩ = some (.int .i64 ah) by have := cell_of_block b0 0; simpa using this)
  have r1 := cell_regrown (show W.cell? ⟨w.heap.size, 1, none⟩ = some (.int .u64 al) by have := cell_of_block b0 1; simpa using this)
  have r2 := cell_regrown (show W.cell? ⟨w.heap.size + 1, 0, none⟩ = some (.int .i64 bh) by have := cell_of_block b1 0; simpa using this)
  have r3 := cell_regrown (show W.cell? ⟨w.heap.size + 1, 1, none⟩ = some (.int .u64 bl) by have := cell_of_block b1 1; simpa using this)
  have r4 := cell_regrown (show W.cell? ⟨w1.heap.size, 0, none⟩ = some (.int .i64 sh) by have := cell_of_block b2 0; simpa using this)
  have r5 := cell_regrown (show W.cell? ⟨w1.heap.size, 1, none⟩ = some (.int .u64 sl) by have := cell_of_block b2 1; simpa using this)
  obtain ⟨pa, hpa⟩ : ∃ x, x = decide (ah < 0) := ⟨_, rfl⟩
  obtain ⟨pb, hpb⟩ : ∃ x, x = decide (bh < 0) := ⟨_, rfl⟩
  obtain ⟨ps, hps⟩ : ∃ x, x = decide (sh < 0) := ⟨_, rfl⟩
  have HCa : Hid (∀ (d : Nat) (os : Array Obj), Calls Try.prog 64 #[.agg #[.int .i64 ah, .int .u64 al]] (grow (redrawn W d) os) fun e w'' => e = .returned (.bool pa) ∧ ∃ p : Regrown, w'' = grow (redrawn W p.d) p.os) := Lib.hid (fun d os => Calls.grown_of (by rw [hpa]; exact below_any ah al _))
  have HCb : Hid (∀ (d : Nat) (os : Array Obj), Calls Try.prog 64 #[.agg #[.int .i64 bh, .int .u64 bl]] (grow (redrawn W d) os) fun e w'' => e = .returned (.bool pb) ∧ ∃ p : Regrown, w'' = grow (redrawn W p.d) p.os) := Lib.hid (fun d os => Calls.grown_of (by rw [hpb]; exact below_any bh bl _))
  have HCs : Hid (∀ (d : Nat) (os : Array Obj), Calls Try.prog 64 #[.agg #[.int .i64 sh, .int .u64 sl]] (grow (redrawn W d) os) fun e w'' => e = .returned (.bool ps) ∧ ∃ p : Regrown, w'' = grow (redrawn W p.d) p.os) := Lib.hid (fun d os => Calls.grown_of (by rw [hps]; exact below_any sh sl _))
  have HBB := Lib.hid (And.intro b2 b3)
  have HPP : Hid (pa = pb → ps = pa) := Lib.hid (by
    rw [hpa, hpb, hps, HE.out.1, HE.out.2.1, HE.out.2.2]
    have h1 := HA.out
    have h2 := HB.out
    unfold sumOk at h1 h2
    intro h
    simp only [decide_eq_decide] at h ⊢
    omega)
  clear hpa hpb hps b0 b1 b2 b3
  cases pa <;> cases pb <;> cases ps <;> first
    | (exfalso; exact absurd (HPP.out rfl) (by decide))
    | skip
  all_goals
    refine wp_region_quiet_below (by kernel_rfl) (by kernel_rfl) ?_
    repeat (go_big_quiet_step (first | (go_at_call 64; exact HCa.out _ _) | (go_at_call 64; exact HCb.out _ _) | (go_at_call 64; exact HCs.out _ _)))
    refine wpQuiet_nil ?_
    intro _ hw'
    obtain ⟨pr, rfl⟩ := hw'
    generalize hW4 : grow _ _ = W4
    have HX4 : Hid (Ext W W4) := Lib.hid (by subst hW4; exact Ext.regrown _ _ _)
    clear hW4 r0 r1 r2 r3 r4 r5 HCa HCb HCs
    have b4 := (HX4.out.block (block_lt HBB.out.1)).trans HBB.out.1
    have b5 := (HX4.out.block (block_lt HBB.out.2)).trans HBB.out.2
    have c0 : W4.cell? ⟨w1.heap.size, 0, none⟩ = some (.int .i64 sh) := by have := cell_of_block b4 0; simpa using this
    have c1 : W4.cell? ⟨w1.heap.size, 1, none⟩ = some (.int .u64 sl) := by have := cell_of_block b4 1; simpa using this
    have c2 : W4.cell? ⟨w.heap.size + 1 + 1, 0, none⟩ = some (.int .i64 0) := by have := cell_of_block b5 0; simpa using this
    have c3 : W4.cell? ⟨w.heap.size + 1 + 1, 1, none⟩ = some (.int .u64 0) := by have := cell_of_block b5 1; simpa using this
    have f2 : W4.frozen? ⟨w.heap.size + 1 + 1, 0, none⟩ = false := free_of_block b5 0
    have f3 : W4.frozen? ⟨w.heap.size + 1 + 1, 1, none⟩ = false := free_of_block b5 1
    have B5 := Lib.hid b5
    clear b4 b5
    go_wp2_with fail
    have b6 := setCell_block (i := 1) (setCell_block (i := 0) B5.out (.int .i64 sh)) (.int .u64 sl)
    have HX6 := Lib.hid ((((HXW.out.trans HX4.out).setCell (p := ⟨w.heap.size + 1 + 1, 0, none⟩) (by simp; omega) (.int .i64 sh)).setCell (p := ⟨w.heap.size + 1 + 1, 1, none⟩) (by simp; omega) (.int .u64 sl)))
    generalize World.setCell _ _ _ = W6 at *
    have y0 : W6.cell? ⟨w.heap.size + 1 + 1, 0, none⟩ = some (.int .i64 sh) := by have := cell_of_block b6 0; simpa using this
    have y1 : W6.cell? ⟨w.heap.size + 1 + 1, 1, none⟩ = some (.int .u64 sl) := by have := cell_of_block b6 1; simpa using this
    clear b6
    exact bodyPost_ret (v := .tuple #[.agg #[.int .i64 sh, .int .u64 sl], .bool true]) (by simp [results, Try.results52, go_sem, y0, y1]) rfl ⟨rfl, HX6.out⟩
end Go.Proofs.Ythnpchfcafaiiaa
