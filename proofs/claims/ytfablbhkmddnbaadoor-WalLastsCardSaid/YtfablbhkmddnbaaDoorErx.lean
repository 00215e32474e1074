/- errors.As on varint's own error, with a fault as its target. -/
import Derived.Test.YtfablbhkmddnbaaDoorErr
import Derived.Test.YtfablbhkmddnbaaDoorZin
import Derived.WalkKit
import Derived.LaidEql
import Derived.Stop.Asserts
import Derived.RowKitTokens
import Derived.Test.YtfablbhkmddnbaaDoorProg
namespace Go.Proofs.YtfablbhkmddnbaaDoor
open Go.RowKit Go.Extern.Stop Go.Stop Go.Extern Go.Lib

theorem as_nil (t : Value) (w : World) : Calls Tryd.prog 34 #[.nilIface, t] w fun e w' => e = .returned (.bool false) ∧ w' = w := by
  go_enter Tryd.func34, Tryd.ntmps34
  go_wp2
  go_ret
  exact ⟨rfl, rfl⟩

theorem ea_mKind (n : Nat) (h : Value) (w : World) : (Go.method (n + 1) 119 (.agg #[h]) "Kind").run Tryd.prog w = .ok (100, h) w := by kernel_rfl
theorem ea_rlm (z : Sem Value) (f : TypeId → Addr → Nat → Nat → Sem Value) (v : Value) :
    ReflectliteValue.method z f #[v] = (do match ← ReflectliteValue.parts v with | none => z | some (t, a, fl) => f t a fl (fl % 32)) := rfl
theorem ea_mElem (n : Nat) (h : Value) (w : World) : (Go.method (n + 1) 119 (.agg #[h]) "Elem").run Tryd.prog w = .ok (111, .agg #[h]) w := by kernel_rfl
theorem ea_mImplements (n : Nat) (h : Value) (w : World) : (Go.method (n + 1) 119 (.agg #[h]) "Implements").run Tryd.prog w = .ok (112, .agg #[h]) w := by kernel_rfl
theorem ea_mAssignable (n : Nat) (h : Value) (w : World) : (Go.method (n + 1) 119 (.agg #[h]) "AssignableTo").run Tryd.prog w = .ok (109, .agg #[h]) w := by kernel_rfl
theorem ea_rls (v x : Value) : ReflectliteValue.set #[v, x] = (do
    let (some (dst, a, fl), some (src, b, _)) := (← ReflectliteValue.parts v, ← ReflectliteValue.parts x)
      | unsupported (.noEntry "extern/(internal/reflectlite.Value).Set.zeroValue")
    if fl / ReflectliteValue.flagAddr % 2 == 0 then unsupported (.noEntry "extern/(internal/reflectlite.Value).Set.unaddressable")
    let val ← loadVar src b
    if ← Rtype.directlyAssignable dst src then storeVar dst a val
    else if ← Rtype.implements dst src then
      if (← Rtype.kind src) == 20 then
        match val with
        | .nilIface => unsupported (.noEntry "extern/reflectlite: a nil value of one interface type handed on as a value of another")
        | _ => storeVar dst a val
      else storeVar dst a (.iface src val)
    else panicString ("reflectlite.Set: value of type " ++ (← Rtype.spelt src) ++ " is not assignable to type " ++ (← Rtype.spelt dst))
    pure (.tuple #[])) := rfl
/-- The handle that errors.errorType holds. -/
def HasET (w : World) : Prop := w.cell? ⟨0, 0, none⟩ = some (.iface 119 (.agg #[.pointer (some ⟨hB, 69, none⟩)]))

end Go.Proofs.YtfablbhkmddnbaaDoor

/-! errors.Is and errors.As as the log uses them: on an Errno, on its own error (torn). -/

namespace Go.Proofs.YtfablbhkmddnbaaDoor
open Go.RowKit Go.Extern.Stop Go.Stop Go.Extern Go.Lib

theorem er_other24 (w : World) : (binOp .eql 69 (.iface 27 (.int .i64 24)) (.iface 27 (.int .i64 10))).run Tryd.prog w = .ok (.bool false) w := by kernel_rfl

set_option maxHeartbeats 4000000 in
/-- errors.Is of ErrEnd (10) or ErrCorrupt (24), against ErrEnd. -/
theorem is_errno (z : Int) (hz : z = 10 ∨ z = 24) (w : World) : Calls Tryd.prog 47 #[.iface 27 (.int .i64 z), .iface 27 (.int .i64 10)] w fun e w' => e = .returned (.bool (decide (z = 10))) ∧ w' = w := by
  have h8 := @run_callFunc_extern Tryd.prog 70 _ ReflectliteType.typeOf Tryd.func70 (by kernel_rfl) (by kernel_rfl) (by kernel_rfl) (by kernel_rfl)
  have h32 := @run_callFunc_extern Tryd.prog 110 _ erComp Tryd.func110 (by kernel_rfl) (by kernel_rfl) (by kernel_rfl) (by kernel_rfl)
  have tT := er_typeOfN
  have cT := er_comparable
  have mR := er_mComparable
  have nN := er_noIsN
  have uN := er_noUnwrapN
  have vN := er_noUnwrapsN
  have es := er_same
  have eo := er_other24
  rcases hz with rfl | rfl
  all_goals
    go_enter Tryd.func47, Tryd.ntmps47
    go_wp2
    refine wp_loop_rounds 1 ?_
    rw [rounds_succ]
    go_wp2
    go_ret
    exact ⟨rfl, rfl⟩

theorem ew_typeOfF (v : Value) (w : World) : (ReflectliteType.typeOf #[.iface 72 v]).run Tryd.prog w = .ok (.iface 119 (.agg #[.pointer (some ⟨hB, 72, none⟩)])) w := by kernel_rfl
theorem ew_valueOfPF (t : Addr) (w : World) : (ReflectliteValue.unpack (.iface 74 (.pointer (some t)))).run Tryd.prog w
    = .ok (.agg #[.pointer (some ⟨hB, 74, none⟩), .pointer (some ⟨w.heap.size, 0, none⟩), .int .u64 150]) (w.alloc (.cells #[.pointer (some t)] 74)) := by kernel_rfl
theorem ew_typePF (a : Addr) (w : World) : (ReflectliteValue.methodAny (ReflectliteValue.valueError "reflectlite.Value.Type" 0) (fun t _ _ _ => ReflectliteType.toType t) #[.agg #[.pointer (some ⟨hB, 74, none⟩), .pointer (some a), .int .u64 150]]).run Tryd.prog w
    = .ok (.iface 119 (.agg #[.pointer (some ⟨hB, 74, none⟩)])) w := by kernel_rfl
theorem ew_kindPF (w : World) : ((ReflectliteType.abiMethod fun t => (fun a : Nat => Value.int IntKind.u8 (a : Int)) <$> Rtype.kind t) #[.pointer (some ⟨hB, 74, none⟩)]).run Tryd.prog w = .ok (.int .u8 22) w := by kernel_rfl
theorem ew_kindF (w : World) : ((ReflectliteType.abiMethod fun t => (fun a : Nat => Value.int IntKind.u8 (a : Int)) <$> Rtype.kind t) #[.pointer (some ⟨hB, 72, none⟩)]).run Tryd.prog w = .ok (.int .u8 25) w := by kernel_rfl

theorem ew_partsPF (a : Addr) (w : World) : (ReflectliteValue.parts (.agg #[.pointer (some ⟨hB, 74, none⟩), .pointer (some a), .int .u64 150])).run Tryd.prog w = .ok (some (74, a, 150)) w := by kernel_rfl
theorem ew_isNil (a p : Addr) (W : World) (ha : W.cell? a = some (.pointer (some p))) :
    (ReflectliteValue.method (ReflectliteValue.valueError "reflectlite.Value.IsNil" 0) ReflectliteValue.isNil #[.agg #[.pointer (some ⟨hB, 74, none⟩), .pointer (some a), .int .u64 150]]).run Tryd.prog W = .ok (.bool false) W := by
  rw [ea_rlm]
  simp only [Sem.run_bind, ew_partsPF, Result.andThen]
  simp [ReflectliteValue.isNil, loadVar, isAgg, underlying, Tryd.underlying74, ha, Result.andThen]

theorem ew_elem (w : World) : (ReflectliteType.method ReflectliteType.elem #[.agg #[.pointer (some ⟨hB, 74, none⟩)]]).run Tryd.prog w = .ok (.iface 119 (.agg #[.pointer (some ⟨hB, 72, none⟩)])) w := by kernel_rfl
theorem ew_implements (w : World) : (ReflectliteType.relation "Implements" ReflectliteType.implements_ #[.agg #[.pointer (some ⟨hB, 72, none⟩)], .iface 119 (.agg #[.pointer (some ⟨hB, 69, none⟩)])]).run Tryd.prog w = .ok (.bool true) w := by kernel_rfl
theorem ew_assignable (w : World) : (ReflectliteType.relation "AssignableTo" ReflectliteType.assignableTo #[.agg #[.pointer (some ⟨hB, 72, none⟩)], .iface 119 (.agg #[.pointer (some ⟨hB, 72, none⟩)])]).run Tryd.prog w = .ok (.bool true) w := by kernel_rfl
theorem ew_valueOfF (x : Int) (w : World) : (ReflectliteValue.unpack (.iface 72 (.agg #[.int .i64 x]))).run Tryd.prog w
    = .ok (.agg #[.pointer (some ⟨hB, 72, none⟩), .pointer (some ⟨w.heap.size, 0, none⟩), .int .u64 153]) (w.alloc (.cells #[.int .i64 x] 72)) := by kernel_rfl
theorem ew_elemOf (w : World) : (Rtype.elem? 74).run Tryd.prog w = .ok (some 72) w := by kernel_rfl
theorem ew_mk (p : Addr) (w : World) : (ReflectliteValue.mk 72 p ReflectliteValue.flagAddr).run Tryd.prog w = .ok (.agg #[.pointer (some ⟨hB, 72, none⟩), .pointer (some p), .int .u64 409]) w := by kernel_rfl
theorem ew_elemV (a p : Addr) (W : World) (ha : W.cell? a = some (.pointer (some p))) :
    (ReflectliteValue.method (ReflectliteValue.valueError "reflectlite.Value.Elem" 0) ReflectliteValue.elem #[.agg #[.pointer (some ⟨hB, 74, none⟩), .pointer (some a), .int .u64 150]]).run Tryd.prog W
      = .ok (.agg #[.pointer (some ⟨hB, 72, none⟩), .pointer (some p), .int .u64 409]) W := by
  rw [ea_rlm]
  simp only [Sem.run_bind, ew_partsPF, Result.andThen]
  simp [ReflectliteValue.elem, loadVar, isAgg, underlying, Tryd.underlying74, ha, Result.andThen, ew_elemOf, ew_mk]
theorem ew_partsT (a : Addr) (w : World) : (ReflectliteValue.parts (.agg #[.pointer (some ⟨hB, 72, none⟩), .pointer (some a), .int .u64 409])).run Tryd.prog w = .ok (some (72, a, 409)) w := by kernel_rfl
theorem ew_partsF (a : Addr) (w : World) : (ReflectliteValue.parts (.agg #[.pointer (some ⟨hB, 72, none⟩), .pointer (some a), .int .u64 153])).run Tryd.prog w = .ok (some (72, a, 153)) w := by kernel_rfl
theorem ew_direct (w : World) : (Rtype.directlyAssignable 72 72).run Tryd.prog w = .ok true w := by kernel_rfl
theorem ew_size (w : World) : (sizeOf 72).run Tryd.prog w = .ok 1 w := by kernel_rfl
theorem ew_agg (w : World) : (isAgg 72).run Tryd.prog w = .ok true w := by kernel_rfl

set_option maxHeartbeats 1000000 in
/-- (Value).Set: the target's two cells get what the Value's own variable holds. -/
theorem ew_set (tb b : Nat) (x : Int) (o0 : Value) (W : World) (hb : W.heap[b]? = some (.cells #[.int .i64 x] 72 (0, 0))) (ht : W.heap[tb]? = some (.cells #[o0] 72 (0, 0))) :
    (ReflectliteValue.set #[.agg #[.pointer (some ⟨hB, 72, none⟩), .pointer (some ⟨tb, 0, none⟩), .int .u64 409], .agg #[.pointer (some ⟨hB, 72, none⟩), .pointer (some ⟨b, 0, none⟩), .int .u64 153]]).run Tryd.prog W
      = .ok (.tuple #[]) (W.setCell ⟨tb, 0, none⟩ (.int .i64 x)) := by
  rw [ea_rls]
  simp only [Sem.run_bind, ew_partsT, ew_partsF, Result.andThen]
  have b0 : W.cell? ⟨b, 0, none⟩ = some (.int .i64 x) := by have := cell_of_block hb 0; simpa using this
  have t0 : W.cell? ⟨tb, 0, none⟩ = some o0 := by have := cell_of_block ht 0; simpa using this
  have f0 : W.frozen? ⟨tb, 0, none⟩ = false := free_of_block ht 0
  simp [ReflectliteValue.flagAddr, loadVar, ew_agg, ew_size, loadCells, loadCellsFrom, Addr.add, b0, Result.andThen, ew_direct, storeVar, Value.cells, storeCells]
  rw [run_store Tryd.prog W _ _ _ (by rfl)]
  simp [t0, f0, Result.andThen]

/-- What a run of errors.As leaves. -/
structure AwTo (w : World) (tb : Nat) (x : Int) (w' : World) : Prop where
  blk : w'.heap[tb]? = some (.cells #[.int .i64 x] 72 (0, 0))
  chg : Chg (· = tb) w w'

set_option maxHeartbeats 8000000 in
theorem as_torn (x : Int) (tb : Nat) (o0 : Value) (w : World) (hg : HasET w) (ht : w.heap[tb]? = some (.cells #[o0] 72 (0, 0))) :
    Calls Tryd.prog 34 #[.iface 72 (.agg #[.int .i64 x]), .iface 74 (.pointer (some ⟨tb, 0, none⟩))] w fun e w' => e = .returned (.bool true) ∧ AwTo w tb x w' := by
  have htl := block_lt ht
  have HT := Lib.hid ht
  have HG := Lib.hid hg
  clear hg ht
  have h6 := @run_callFunc_extern Tryd.prog 48 _ (fun args => ReflectliteValue.unpack (args.getD 0 (.tuple #[]))) Tryd.func48 (by kernel_rfl) (by kernel_rfl) (by kernel_rfl) (by kernel_rfl)
  have h7 := @run_callFunc_extern Tryd.prog 49 _ (ReflectliteValue.methodAny (ReflectliteValue.valueError "reflectlite.Value.Type" 0) (fun t _ _ _ => ReflectliteType.toType t)) Tryd.func49 (by kernel_rfl) (by kernel_rfl) (by kernel_rfl) (by kernel_rfl)
  have h8 := @run_callFunc_extern Tryd.prog 50 _ (ReflectliteValue.method (ReflectliteValue.valueError "reflectlite.Value.IsNil" 0) ReflectliteValue.isNil) Tryd.func50 (by kernel_rfl) (by kernel_rfl) (by kernel_rfl) (by kernel_rfl)
  have h27 := @run_callFunc_extern Tryd.prog 100 _ (ReflectliteType.abiMethod fun t => do pure (.int .u8 (← Rtype.kind t))) Tryd.func100 (by kernel_rfl) (by kernel_rfl) (by kernel_rfl) (by kernel_rfl)
  have h37 := @run_callFunc_extern Tryd.prog 111 _ (ReflectliteType.method ReflectliteType.elem) Tryd.func111 (by kernel_rfl) (by kernel_rfl) (by kernel_rfl) (by kernel_rfl)
  have h38 := @run_callFunc_extern Tryd.prog 112 _ (ReflectliteType.relation "Implements" ReflectliteType.implements_) Tryd.func112 (by kernel_rfl) (by kernel_rfl) (by kernel_rfl) (by kernel_rfl)
  have h10 := @run_callFunc_extern Tryd.prog 70 _ ReflectliteType.typeOf Tryd.func70 (by kernel_rfl) (by kernel_rfl) (by kernel_rfl) (by kernel_rfl)
  have h35 := @run_callFunc_extern Tryd.prog 109 _ (ReflectliteType.relation "AssignableTo" ReflectliteType.assignableTo) Tryd.func109 (by kernel_rfl) (by kernel_rfl) (by kernel_rfl) (by kernel_rfl)
  have h11 := @run_callFunc_extern Tryd.prog 72 _ (ReflectliteValue.method (ReflectliteValue.valueError "reflectlite.Value.Elem" 0) ReflectliteValue.elem) Tryd.func72 (by kernel_rfl) (by kernel_rfl) (by kernel_rfl) (by kernel_rfl)
  have h12 := @run_callFunc_extern Tryd.prog 73 _ ReflectliteValue.set Tryd.func73 (by kernel_rfl) (by kernel_rfl) (by kernel_rfl) (by kernel_rfl)
  have tO := ew_typeOfF
  have mA := ea_mAssignable
  have aF := ew_assignable
  have vF := ew_valueOfF
  have f6 := ew_valueOfPF
  have f7 := ew_typePF
  have mK := ea_mKind
  have mE := ea_mElem
  have mI := ea_mImplements
  have kP := ew_kindPF
  have kF := ew_kindF
  have eP := ew_elem
  have iF := ew_implements
  have n8 := ew_isNil ⟨w.heap.size, 0, none⟩ ⟨tb, 0, none⟩ ((w.alloc (.cells #[.pointer (some ⟨tb, 0, none⟩)] 74)).alloc (.cells #[.pointer (some ⟨hB, 74, none⟩), .pointer (some ⟨w.heap.size, 0, none⟩), .int .u64 150] 89)) (by simp)
  have hg2 : ((w.alloc (.cells #[.pointer (some ⟨tb, 0, none⟩)] 74)).alloc (.cells #[.pointer (some ⟨hB, 74, none⟩), .pointer (some ⟨w.heap.size, 0, none⟩), .int .u64 150] 89)).cell? ⟨0, 0, none⟩ = some (.iface 119 (.agg #[.pointer (some ⟨hB, 69, none⟩)])) := by
    have hlt := World.block_lt_of_cell? _ _ HG.out
    rw [(((Ext.refl w).alloc _).alloc _).cell hlt]; exact HG.out
  have el := ew_elemV ⟨w.heap.size, 0, none⟩ ⟨tb, 0, none⟩ (((w.alloc (.cells #[.pointer (some ⟨tb, 0, none⟩)] 74)).alloc (.cells #[.pointer (some ⟨hB, 74, none⟩), .pointer (some ⟨w.heap.size, 0, none⟩), .int .u64 150] 89)).alloc (.cells #[.pointer (some ⟨hB, 74, none⟩), .pointer (some ⟨w.heap.size, 0, none⟩), .int .u64 150] 89)) (by rw [World.cell?_alloc_lt _ _ ⟨w.heap.size, 0, none⟩ (by simp; omega)]; simp)
  have st := ew_set tb (w.heap.size + 1 + 1 + 1) x o0 ((((w.alloc (.cells #[.pointer (some ⟨tb, 0, none⟩)] 74)).alloc (.cells #[.pointer (some ⟨hB, 74, none⟩), .pointer (some ⟨w.heap.size, 0, none⟩), .int .u64 150] 89)).alloc (.cells #[.pointer (some ⟨hB, 74, none⟩), .pointer (some ⟨w.heap.size, 0, none⟩), .int .u64 150] 89)).alloc (.cells #[.int .i64 x] 72))
    (by have := heap_alloc_new (((w.alloc (.cells #[.pointer (some ⟨tb, 0, none⟩)] 74)).alloc (.cells #[.pointer (some ⟨hB, 74, none⟩), .pointer (some ⟨w.heap.size, 0, none⟩), .int .u64 150] 89)).alloc (.cells #[.pointer (some ⟨hB, 74, none⟩), .pointer (some ⟨w.heap.size, 0, none⟩), .int .u64 150] 89)) (.cells #[.int .i64 x] 72 (0, 0)); simpa using this)
    (by rw [(((((Ext.refl w).alloc _).alloc _).alloc _).alloc _).block htl]; exact HT.out)
  have HFIN : Hid (AwTo w tb x ((((((w.alloc (.cells #[.pointer (some ⟨tb, 0, none⟩)] 74)).alloc (.cells #[.pointer (some ⟨hB, 74, none⟩), .pointer (some ⟨w.heap.size, 0, none⟩), .int .u64 150] 89)).alloc (.cells #[.pointer (some ⟨hB, 74, none⟩), .pointer (some ⟨w.heap.size, 0, none⟩), .int .u64 150] 89)).alloc (.cells #[.int .i64 x] 72)).setCell ⟨tb, 0, none⟩ (.int .i64 x)))) := Lib.hid (by
    have h0 := (((((Ext.refl w).alloc (.cells #[.pointer (some ⟨tb, 0, none⟩)] 74)).alloc (.cells #[.pointer (some ⟨hB, 74, none⟩), .pointer (some ⟨w.heap.size, 0, none⟩), .int .u64 150] 89)).alloc (.cells #[.pointer (some ⟨hB, 74, none⟩), .pointer (some ⟨w.heap.size, 0, none⟩), .int .u64 150] 89)).alloc (.cells #[.int .i64 x] 72))
    refine ⟨?_, (Chg.of_ext h0).trans (setCell_chg _ _ _ _) (fun _ _ e => e)⟩
    have h1 := setCell_block (i := 0) ((h0.block htl).trans HT.out) (.int .i64 x)
    simpa using h1)
  clear HT
  go_enter Tryd.func34, Tryd.ntmps34
  go_wp2
  refine wp_loop_rounds 1 ?_
  rw [rounds_succ]
  go_wp2
  go_ret
  exact ⟨rfl, HFIN.out⟩
end Go.Proofs.YtfablbhkmddnbaaDoor

/-! errors.As of an Errno, with the log's own error as its target. -/

namespace Go.Proofs.YtfablbhkmddnbaaDoor
open Go.RowKit Go.Extern.Stop Go.Stop Go.Extern Go.Lib

theorem ea_notAssignable (w : World) : (ReflectliteType.relation "AssignableTo" ReflectliteType.assignableTo #[.agg #[.pointer (some ⟨hB, 27, none⟩)], .iface 119 (.agg #[.pointer (some ⟨hB, 72, none⟩)])]).run Tryd.prog w = .ok (.bool false) w := by kernel_rfl
theorem ea_noAsN (v : Value) (xT : TypeId) (w : World) : (Instr.typeAssert (.iface 27 v) xT 123 true).run Tryd.prog w = .ok (.tuple #[.nilIface, .bool false]) w := run_typeAssert_lacksB Tryd.underlying123 (by kernel_rfl) (by kernel_rfl) v xT w
set_option maxHeartbeats 8000000 in
theorem as_miss (z : Int) (tb : Nat) (w : World) (hg : HasET w) :
    Calls Tryd.prog 34 #[.iface 27 (.int .i64 z), .iface 74 (.pointer (some ⟨tb, 0, none⟩))] w fun e w' => e = .returned (.bool false) ∧ Ext w w' := by
  have HG := Lib.hid hg
  clear hg
  have nA := ea_noAsN
  have uN := er_noUnwrapN
  have vN := er_noUnwrapsN
  have h6 := @run_callFunc_extern Tryd.prog 48 _ (fun args => ReflectliteValue.unpack (args.getD 0 (.tuple #[]))) Tryd.func48 (by kernel_rfl) (by kernel_rfl) (by kernel_rfl) (by kernel_rfl)
  have h7 := @run_callFunc_extern Tryd.prog 49 _ (ReflectliteValue.methodAny (ReflectliteValue.valueError "reflectlite.Value.Type" 0) (fun t _ _ _ => ReflectliteType.toType t)) Tryd.func49 (by kernel_rfl) (by kernel_rfl) (by kernel_rfl) (by kernel_rfl)
  have h8 := @run_callFunc_extern Tryd.prog 50 _ (ReflectliteValue.method (ReflectliteValue.valueError "reflectlite.Value.IsNil" 0) ReflectliteValue.isNil) Tryd.func50 (by kernel_rfl) (by kernel_rfl) (by kernel_rfl) (by kernel_rfl)
  have h27 := @run_callFunc_extern Tryd.prog 100 _ (ReflectliteType.abiMethod fun t => do pure (.int .u8 (← Rtype.kind t))) Tryd.func100 (by kernel_rfl) (by kernel_rfl) (by kernel_rfl) (by kernel_rfl)
  have h37 := @run_callFunc_extern Tryd.prog 111 _ (ReflectliteType.method ReflectliteType.elem) Tryd.func111 (by kernel_rfl) (by kernel_rfl) (by kernel_rfl) (by kernel_rfl)
  have h38 := @run_callFunc_extern Tryd.prog 112 _ (ReflectliteType.relation "Implements" ReflectliteType.implements_) Tryd.func112 (by kernel_rfl) (by kernel_rfl) (by kernel_rfl) (by kernel_rfl)
  have h10 := @run_callFunc_extern Tryd.prog 70 _ ReflectliteType.typeOf Tryd.func70 (by kernel_rfl) (by kernel_rfl) (by kernel_rfl) (by kernel_rfl)
  have h35 := @run_callFunc_extern Tryd.prog 109 _ (ReflectliteType.relation "AssignableTo" ReflectliteType.assignableTo) Tryd.func109 (by kernel_rfl) (by kernel_rfl) (by kernel_rfl) (by kernel_rfl)
  have tO := er_typeOfN
  have mA := ea_mAssignable
  have aF := ea_notAssignable
  have f6 := ew_valueOfPF
  have f7 := ew_typePF
  have mK := ea_mKind
  have mE := ea_mElem
  have mI := ea_mImplements
  have kP := ew_kindPF
  have kF := ew_kindF
  have eP := ew_elem
  have iF := ew_implements
  have n8 := ew_isNil ⟨w.heap.size, 0, none⟩ ⟨tb, 0, none⟩ ((w.alloc (.cells #[.pointer (some ⟨tb, 0, none⟩)] 74)).alloc (.cells #[.pointer (some ⟨hB, 74, none⟩), .pointer (some ⟨w.heap.size, 0, none⟩), .int .u64 150] 89)) (by simp)
  have hg2 : ((w.alloc (.cells #[.pointer (some ⟨tb, 0, none⟩)] 74)).alloc (.cells #[.pointer (some ⟨hB, 74, none⟩), .pointer (some ⟨w.heap.size, 0, none⟩), .int .u64 150] 89)).cell? ⟨0, 0, none⟩ = some (.iface 119 (.agg #[.pointer (some ⟨hB, 69, none⟩)])) := by
    have hlt := World.block_lt_of_cell? _ _ HG.out
    rw [(((Ext.refl w).alloc _).alloc _).cell hlt]; exact HG.out

  go_enter Tryd.func34, Tryd.ntmps34
  go_wp2
  refine wp_loop_rounds 1 ?_
  rw [rounds_succ]
  go_wp2
  go_ret
  exact ⟨rfl, by repeat (first | exact Ext.refl _ | refine Ext.alloc ?_ _)⟩
end Go.Proofs.YtfablbhkmddnbaaDoor
