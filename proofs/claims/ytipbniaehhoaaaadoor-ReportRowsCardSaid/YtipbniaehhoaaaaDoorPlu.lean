/- wide: plus, below: sums as whole numbers. -/
import Derived.Test.YtipbniaehhoaaaaDoorBase
import Derived.Test.YtipbniaehhoaaaaDoorApp
import Derived.Laws.Externs
import Derived.Lib.QuietBelow
import Derived.Deep.QuietTactic
import Derived.BigQuiet
namespace Go.Proofs.YtipbniaehhoaaaaDoor
open Go.RowKit Go.Lib Go.Sort

abbrev M64 : Int := 18446744073709551616
/-- A sum as a value, its two cells. -/
def sumV (s : Int) : Value := .agg #[.int .i64 (s / 18446744073709551616), .int .u64 (s % 18446744073709551616)]
def sumOk (s : Int) : Prop := -170141183460469231731687303715884105728 ≤ s ∧ s < 170141183460469231731687303715884105728

theorem heap_alloc3 (w : World) (o1 o2 o3 : Obj) : (((w.alloc o1).alloc o2).alloc o3).heap[w.heap.size + 1 + 1]? = some o3 := by
  have := heap_alloc_new ((w.alloc o1).alloc o2) o3
  simpa using this
theorem add64_run (x y c : Int) (hx : 0 ≤ x) (hy : 0 ≤ y) (c0 : 0 ≤ c) (c1 : c ≤ 1) (w : World) :
    (callFunc 34 #[.int .u64 x, .int .u64 y, .int .u64 c]).run Tryd.prog w = .ok (.value (.tuple #[.int .u64 ((x + y + c) % 18446744073709551616), .int .u64 ((x + y + c) / 18446744073709551616)])) w := by
  rw [run_callFunc_extern Tryd.func34 (by kernel_rfl) (by kernel_rfl) (by kernel_rfl) (e := add64Entry) (by kernel_rfl), run_add64 x y c hx hy c0 c1]
  rfl
theorem add64_run0 (x y : Int) (hx : 0 ≤ x) (hy : 0 ≤ y) (w : World) :
    (callFunc 34 #[.int .u64 x, .int .u64 y, .int .u64 0]).run Tryd.prog w = .ok (.value (.tuple #[.int .u64 ((x + y) % 18446744073709551616), .int .u64 ((x + y) / 18446744073709551616)])) w := by
  have := add64_run x y 0 hx hy (Int.le_refl 0) (by decide) w
  simpa using this

set_option maxHeartbeats 1000000 in
theorem below_any (hi lo : Int) (w : World) :
    Calls Tryd.prog 16 #[.agg #[.int .i64 hi, .int .u64 lo]] w fun e w' => e = .returned (.bool (decide (hi < 0))) ∧ Ext w w' := by
  go_enter Tryd.func16, Tryd.ntmps16
  go_wp2_with fail
  go_ret
  exact ⟨rfl, (Ext.refl w).alloc _⟩

set_option maxHeartbeats 1000000 in
set_option maxRecDepth 100000 in
theorem plus_any (ah al bh bl : Int) (w : World) (a0 : 0 ≤ al) (a1 : al < 18446744073709551616) (b0 : 0 ≤ bl) (b1 : bl < 18446744073709551616) 
    (c0 : -9223372036854775808 ≤ ah) (c1 : ah ≤ 9223372036854775807) (d0 : -9223372036854775808 ≤ bh) (d1 : bh ≤ 9223372036854775807) (hfit : sumOk ((ah + bh) * 18446744073709551616 + al + bl)) :
    Calls Tryd.prog 25 #[.agg #[.int .i64 ah, .int .u64 al], .agg #[.int .i64 bh, .int .u64 bl]] w fun e w' => e = .returned (sumV ((ah + bh) * 18446744073709551616 + al + bl)) ∧ Ext w w' := by
  go_enter Tryd.func25, Tryd.ntmps25
  have HFIT := Lib.hid hfit
  clear hfit
  obtain ⟨c, hc⟩ : ∃ c, c = (al + bl) / 18446744073709551616 := ⟨_, rfl⟩
  have k0 : 0 ≤ c := by omega
  have k1 : c ≤ 1 := by omega
  obtain ⟨ua, hua⟩ : ∃ ua, ua = IntKind.u64.wrap ah := ⟨_, rfl⟩
  obtain ⟨ub, hub⟩ : ∃ ub, ub = IntKind.u64.wrap bh := ⟨_, rfl⟩
  have va : 0 ≤ ua := by rw [hua, IntKind.wrap_u64]; omega
  have vb : 0 ≤ ub := by rw [hub, IntKind.wrap_u64]; omega
  have q1 := add64_run ua ub c va vb k0 k1
  rw [hua, hub, hc] at q1
  have q0 := add64_run0 al bl a0 b0
  have HC := Lib.hid hc
  have HUA := Lib.hid hua
  have HUB := Lib.hid hub
  clear hc hua hub
  go_wp2_with (first | simp only [q0] | simp only [q1])
  refine bodyPost_ret (v := .agg #[.int .i64 (wrap64 ((IntKind.u64.wrap ah + IntKind.u64.wrap bh + (al + bl) / 18446744073709551616) % 18446744073709551616)), .int .u64 ((al + bl) % 18446744073709551616)]) (by simp [results, Tryd.results25, go_sem]) rfl ⟨?_, (((Ext.refl w).alloc _).alloc _).alloc _⟩
  unfold sumV
  have e2 : (al + bl) % 18446744073709551616 = ((ah + bh) * 18446744073709551616 + al + bl) % 18446744073709551616 := by omega
  have e1 : wrap64 ((IntKind.u64.wrap ah + IntKind.u64.wrap bh + (al + bl) / 18446744073709551616) % 18446744073709551616) = ((ah + bh) * 18446744073709551616 + al + bl) / 18446744073709551616 := by
    have hf := HFIT.out
    unfold sumOk at hf
    rw [IntKind.wrap_u64, IntKind.wrap_u64]
    unfold wrap64
    omega
  rw [e1, ← e2]

theorem sum_parts {s : Int} (h : sumOk s) : -9223372036854775808 ≤ s / 18446744073709551616 ∧ s / 18446744073709551616 ≤ 9223372036854775807 ∧ 0 ≤ s % 18446744073709551616 ∧ s % 18446744073709551616 < 18446744073709551616 := by
  unfold sumOk at h
  omega

/-- What plus tells of whole numbers. -/
theorem plus_sum (a b : Int) (w : World) (ha : sumOk a) (hb : sumOk b) (hs : sumOk (a + b)) :
    Calls Tryd.prog 25 #[sumV a, sumV b] w fun e w' => e = .returned (sumV (a + b)) ∧ Ext w w' := by
  have h1 := sum_parts ha
  have h2 := sum_parts hb
  have e : (a / 18446744073709551616 + b / 18446744073709551616) * 18446744073709551616 + a % 18446744073709551616 + b % 18446744073709551616 = a + b := by omega
  have := plus_any (a / 18446744073709551616) (a % 18446744073709551616) (b / 18446744073709551616) (b % 18446744073709551616) w h1.2.2.1 h1.2.2.2 h2.2.2.1 h2.2.2.2 h1.1 h1.2.1 h2.1 h2.2.1 (by rw [e]; exact hs)
  rw [e] at this
  exact this

end Go.Proofs.YtipbniaehhoaaaaDoor
