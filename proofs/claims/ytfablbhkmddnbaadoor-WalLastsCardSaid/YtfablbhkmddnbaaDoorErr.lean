/- errors.Is and errors.As on varint's own error: Go's own text walked, on the model's entries for reflectlite. -/
import Derived.Test.YtfablbhkmddnbaaDoorMap
import Derived.WalkKit
import Derived.LaidEql
import Derived.Stop.Asserts
import Derived.RowKitTokens
import Derived.Test.YtfablbhkmddnbaaDoorProg
namespace Go.Proofs.YtfablbhkmddnbaaDoor
open Go.RowKit Go.Extern.Stop Go.Stop Go.Extern Go.Lib

/-- The block of the types' handles, as reflectlite has them. -/
noncomputable def hB : Nat := match typeHandle Tryd.prog 0 with | .pointer (some a) => a.block | _ => 0

/-- The entry of (rtype).Comparable. -/
noncomputable def erComp : Array Value → Sem Value := ReflectliteType.method fun t => do Rtype.noPackHeld "Comparable" t; pure (.bool (← typeInfo t).comparable)

/-! What reflectlite's entries say at this program's types. -/
theorem er_typeOfN (v : Value) (w : World) : (ReflectliteType.typeOf #[.iface 27 v]).run Tryd.prog w = .ok (.iface 119 (.agg #[.pointer (some ⟨hB, 27, none⟩)])) w := by kernel_rfl
theorem er_comparable (w : World) : (erComp #[.agg #[.pointer (some ⟨hB, 27, none⟩)]]).run Tryd.prog w = .ok (.bool true) w := by kernel_rfl
theorem er_mComparable (n : Nat) (v : Value) (w : World) : (Go.method (n + 1) 119 v "Comparable").run Tryd.prog w = .ok (110, v) w := by kernel_rfl
theorem er_noIsN (v : Value) (xT : TypeId) (w : World) : (Instr.typeAssert (.iface 27 v) xT 140 true).run Tryd.prog w = .ok (.tuple #[.nilIface, .bool false]) w := run_typeAssert_lacksB Tryd.underlying140 (by kernel_rfl) (by kernel_rfl) v xT w
theorem er_noUnwrapN (v : Value) (xT : TypeId) (w : World) : (Instr.typeAssert (.iface 27 v) xT 126 true).run Tryd.prog w = .ok (.tuple #[.nilIface, .bool false]) w := run_typeAssert_lacksB Tryd.underlying126 (by kernel_rfl) (by kernel_rfl) v xT w
theorem er_noUnwrapsN (v : Value) (xT : TypeId) (w : World) : (Instr.typeAssert (.iface 27 v) xT 128 true).run Tryd.prog w = .ok (.tuple #[.nilIface, .bool false]) w := run_typeAssert_lacksB Tryd.underlying128 (by kernel_rfl) (by kernel_rfl) v xT w
theorem er_same (w : World) : (binOp .eql 69 (.iface 27 (.int .i64 10)) (.iface 27 (.int .i64 10))).run Tryd.prog w = .ok (.bool true) w := by kernel_rfl
theorem er_other (w : World) : (binOp .eql 69 (.iface 27 (.int .i64 11)) (.iface 27 (.int .i64 10))).run Tryd.prog w = .ok (.bool false) w := by kernel_rfl

theorem is_nil (n : Int) (w : World) : Calls Tryd.prog 47 #[.nilIface, .iface 27 (.int .i64 n)] w fun e w' => e = .returned (.bool false) ∧ w' = w := by
  have hn := run_eql_iface_nil_left (P := Tryd.prog) w 27 (.int .i64 n) Tryd.underlying69
  go_enter Tryd.func47, Tryd.ntmps47
  go_wp2
  go_ret
  exact ⟨rfl, rfl⟩

end Go.Proofs.YtfablbhkmddnbaaDoor
