/- errors.Is and errors.As on varint's own error: Go's own text walked, on the model's entries for reflectlite. -/
import Derived.Test.YtafaagkhgdggbaaDoorMap
import Derived.WalkKit
import Derived.LaidEql
import Derived.Stop.Asserts
import Derived.RowKitTokens
import Derived.Test.YtafaagkhgdggbaaDoorProg
namespace Go.Proofs.YtafaagkhgdggbaaDoor
open Go.RowKit Go.Extern.Stop Go.Stop Go.Extern Go.Lib

/-- The block of the types' handles, as reflectlite has them. -/
noncomputable def hB : Nat := match typeHandle Tryd.prog 0 with | .pointer (some a) => a.block | _ => 0

/-- The entry of (rtype).Comparable. -/
noncomputable def erComp : Array Value → Sem Value := ReflectliteType.method fun t => do Rtype.noPackHeld "Comparable" t; pure (.bool (← typeInfo t).comparable)

/-! What reflectlite's entries say at this program's types. -/
theorem er_typeOfN (v : Value) (w : World) : (ReflectliteType.typeOf #[.iface 25 v]).run Tryd.prog w = .ok (.iface 89 (.agg #[.pointer (some ⟨hB, 25, none⟩)])) w := by kernel_rfl
theorem er_typeOfF (v : Value) (w : World) : (ReflectliteType.typeOf #[.iface 70 v]).run Tryd.prog w = .ok (.iface 89 (.agg #[.pointer (some ⟨hB, 70, none⟩)])) w := by kernel_rfl
theorem er_comparable (w : World) : (erComp #[.agg #[.pointer (some ⟨hB, 25, none⟩)]]).run Tryd.prog w = .ok (.bool true) w := by kernel_rfl
theorem er_mComparable (n : Nat) (v : Value) (w : World) : (Go.method (n + 1) 89 v "Comparable").run Tryd.prog w = .ok (69, v) w := by kernel_rfl
theorem er_noIsF (v : Value) (xT : TypeId) (w : World) : (Instr.typeAssert (.iface 70 v) xT 91 true).run Tryd.prog w = .ok (.tuple #[.nilIface, .bool false]) w := run_typeAssert_lacksB Tryd.underlying91 (by kernel_rfl) (by kernel_rfl) v xT w
theorem er_hasUnwrapF (v : Value) (xT : TypeId) (w : World) : (Instr.typeAssert (.iface 70 v) xT 94 true).run Tryd.prog w = .ok (.tuple #[.iface 70 v, .bool true]) w := run_typeAssert_hasB Tryd.underlying94 (by kernel_rfl) v xT w
theorem er_noIsN (v : Value) (xT : TypeId) (w : World) : (Instr.typeAssert (.iface 25 v) xT 91 true).run Tryd.prog w = .ok (.tuple #[.nilIface, .bool false]) w := run_typeAssert_lacksB Tryd.underlying91 (by kernel_rfl) (by kernel_rfl) v xT w
theorem er_noUnwrapN (v : Value) (xT : TypeId) (w : World) : (Instr.typeAssert (.iface 25 v) xT 94 true).run Tryd.prog w = .ok (.tuple #[.nilIface, .bool false]) w := run_typeAssert_lacksB Tryd.underlying94 (by kernel_rfl) (by kernel_rfl) v xT w
theorem er_noUnwrapsN (v : Value) (xT : TypeId) (w : World) : (Instr.typeAssert (.iface 25 v) xT 96 true).run Tryd.prog w = .ok (.tuple #[.nilIface, .bool false]) w := run_typeAssert_lacksB Tryd.underlying96 (by kernel_rfl) (by kernel_rfl) v xT w
theorem er_mUnwrap (n : Nat) (v : Value) (w : World) : (Go.method (n + 1) 70 v "Unwrap").run Tryd.prog w = .ok (63, v) w := by kernel_rfl
theorem er_same (w : World) : (binOp .eql 63 (.iface 25 (.int .i64 10)) (.iface 25 (.int .i64 10))).run Tryd.prog w = .ok (.bool true) w := by kernel_rfl
theorem er_other (w : World) : (binOp .eql 63 (.iface 25 (.int .i64 11)) (.iface 25 (.int .i64 10))).run Tryd.prog w = .ok (.bool false) w := by kernel_rfl

/-- (fault).Unwrap. -/
theorem unwrap_any (at' why : Int) (w : World) : Calls Tryd.prog 63 #[.agg #[.int .i64 at', .int .i64 why]] w fun e w' => e = .returned (.iface 25 (.int .i64 why)) ∧ Ext w w' := by
  go_enter Tryd.func63, Tryd.ntmps63
  go_wp2
  go_ret
  exact ⟨rfl, (Ext.refl w).alloc _⟩

theorem is_nil (n : Int) (w : World) : Calls Tryd.prog 32 #[.nilIface, .iface 25 (.int .i64 n)] w fun e w' => e = .returned (.bool false) ∧ w' = w := by
  have hn := run_eql_iface_nil_left (P := Tryd.prog) w 25 (.int .i64 n) Tryd.underlying63
  go_enter Tryd.func32, Tryd.ntmps32
  go_wp2
  go_ret
  exact ⟨rfl, rfl⟩

set_option maxHeartbeats 4000000 in
/-- errors.Is of a fault that wraps ErrEnd (10) or ErrForm (11), against ErrEnd. -/
theorem is_fault (at' why : Int) (hw : why = 10 ∨ why = 11) (w : World) : Calls Tryd.prog 32 #[.iface 70 (.agg #[.int .i64 at', .int .i64 why]), .iface 25 (.int .i64 10)] w fun e w' => e = .returned (.bool (decide (why = 10))) ∧ Ext w w' := by
  have h8 := @run_callFunc_extern Tryd.prog 35 _ ReflectliteType.typeOf Tryd.func35 (by kernel_rfl) (by kernel_rfl) (by kernel_rfl) (by kernel_rfl)
  have h32 := @run_callFunc_extern Tryd.prog 69 _ erComp Tryd.func69 (by kernel_rfl) (by kernel_rfl) (by kernel_rfl) (by kernel_rfl)
  have tT := er_typeOfN
  have cT := er_comparable
  have mR := er_mComparable
  have nF := er_noIsF
  have uF := er_hasUnwrapF
  have mU := er_mUnwrap
  have nN := er_noIsN
  have uN := er_noUnwrapN
  have vN := er_noUnwrapsN
  have es := er_same
  have eo := er_other
  have hty := fun w => run_eql_iface_types (P := Tryd.prog) 70 25 (.agg #[.int .i64 at', .int .i64 why]) (.int .i64 10) Tryd.underlying63 (by decide) w
  rcases hw with rfl | rfl
  all_goals
    go_enter Tryd.func32, Tryd.ntmps32
    go_wp2
    refine wp_loop_rounds 2 ?_
    rw [rounds_succ]
    go_wp2_with (go_at_call 63; refine (unwrap_any _ _ _).mono ?_; rintro e w1 ⟨rfl, hx⟩)
    rw [rounds_succ]
    go_wp2
    go_ret
    exact ⟨rfl, hx⟩
end Go.Proofs.YtafaagkhgdggbaaDoor
