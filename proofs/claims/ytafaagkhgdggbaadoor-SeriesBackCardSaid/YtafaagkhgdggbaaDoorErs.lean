/- errors.As on varint's own error, with a fault as its target. -/
import Derived.Test.YtafaagkhgdggbaaDoorErr
import Derived.Test.YtafaagkhgdggbaaDoorRow
namespace Go.Proofs.YtafaagkhgdggbaaDoor
open Go.RowKit Go.Extern.Stop Go.Stop Go.Extern Go.Lib

theorem as_nil (t : Value) (w : World) : Calls Tryd.prog 33 #[.nilIface, t] w fun e w' => e = .returned (.bool false) ∧ w' = w := by
  go_enter Tryd.func33, Tryd.ntmps33
  go_wp2
  go_ret
  exact ⟨rfl, rfl⟩

theorem ea_valueOfPF (t : Addr) (w : World) : (ReflectliteValue.unpack (.iface 73 (.pointer (some t)))).run Tryd.prog w
    = .ok (.agg #[.pointer (some ⟨hB, 73, none⟩), .pointer (some ⟨w.heap.size, 0, none⟩), .int .u64 150]) (w.alloc (.cells #[.pointer (some t)] 73)) := by kernel_rfl
theorem ea_typePF (a : Addr) (w : World) : (ReflectliteValue.methodAny (ReflectliteValue.valueError "reflectlite.Value.Type" 0) (fun t _ _ _ => ReflectliteType.toType t) #[.agg #[.pointer (some ⟨hB, 73, none⟩), .pointer (some a), .int .u64 150]]).run Tryd.prog w
    = .ok (.iface 89 (.agg #[.pointer (some ⟨hB, 73, none⟩)])) w := by kernel_rfl
theorem ea_mKind (n : Nat) (h : Value) (w : World) : (Go.method (n + 1) 89 (.agg #[h]) "Kind").run Tryd.prog w = .ok (58, h) w := by kernel_rfl
theorem ea_kindPF (w : World) : ((ReflectliteType.abiMethod fun t => (fun a : Nat => Value.int IntKind.u8 (a : Int)) <$> Rtype.kind t) #[.pointer (some ⟨hB, 73, none⟩)]).run Tryd.prog w = .ok (.int .u8 22) w := by kernel_rfl
theorem ea_kindF (w : World) : ((ReflectliteType.abiMethod fun t => (fun a : Nat => Value.int IntKind.u8 (a : Int)) <$> Rtype.kind t) #[.pointer (some ⟨hB, 70, none⟩)]).run Tryd.prog w = .ok (.int .u8 25) w := by kernel_rfl

theorem ea_rlm (z : Sem Value) (f : TypeId → Addr → Nat → Nat → Sem Value) (v : Value) :
    ReflectliteValue.method z f #[v] = (do match ← ReflectliteValue.parts v with | none => z | some (t, a, fl) => f t a fl (fl % 32)) := rfl
theorem ea_partsPF (a : Addr) (w : World) : (ReflectliteValue.parts (.agg #[.pointer (some ⟨hB, 73, none⟩), .pointer (some a), .int .u64 150])).run Tryd.prog w = .ok (some (73, a, 150)) w := by kernel_rfl
theorem ea_isNil (a p : Addr) (W : World) (ha : W.cell? a = some (.pointer (some p))) :
    (ReflectliteValue.method (ReflectliteValue.valueError "reflectlite.Value.IsNil" 0) ReflectliteValue.isNil #[.agg #[.pointer (some ⟨hB, 73, none⟩), .pointer (some a), .int .u64 150]]).run Tryd.prog W = .ok (.bool false) W := by
  rw [ea_rlm]
  simp only [Sem.run_bind, ea_partsPF, Result.andThen]
  simp [ReflectliteValue.isNil, loadVar, isAgg, underlying, Tryd.underlying73, ha, Result.andThen]

theorem ea_mElem (n : Nat) (h : Value) (w : World) : (Go.method (n + 1) 89 (.agg #[h]) "Elem").run Tryd.prog w = .ok (70, .agg #[h]) w := by kernel_rfl
theorem ea_mImplements (n : Nat) (h : Value) (w : World) : (Go.method (n + 1) 89 (.agg #[h]) "Implements").run Tryd.prog w = .ok (71, .agg #[h]) w := by kernel_rfl
theorem ea_mAssignable (n : Nat) (h : Value) (w : World) : (Go.method (n + 1) 89 (.agg #[h]) "AssignableTo").run Tryd.prog w = .ok (68, .agg #[h]) w := by kernel_rfl
theorem ea_elem (w : World) : (ReflectliteType.method ReflectliteType.elem #[.agg #[.pointer (some ⟨hB, 73, none⟩)]]).run Tryd.prog w = .ok (.iface 89 (.agg #[.pointer (some ⟨hB, 70, none⟩)])) w := by kernel_rfl
theorem ea_implements (w : World) : (ReflectliteType.relation "Implements" ReflectliteType.implements_ #[.agg #[.pointer (some ⟨hB, 70, none⟩)], .iface 89 (.agg #[.pointer (some ⟨hB, 63, none⟩)])]).run Tryd.prog w = .ok (.bool true) w := by kernel_rfl
theorem ea_assignable (w : World) : (ReflectliteType.relation "AssignableTo" ReflectliteType.assignableTo #[.agg #[.pointer (some ⟨hB, 70, none⟩)], .iface 89 (.agg #[.pointer (some ⟨hB, 70, none⟩)])]).run Tryd.prog w = .ok (.bool true) w := by kernel_rfl
theorem ea_valueOfF (x y : Int) (w : World) : (ReflectliteValue.unpack (.iface 70 (.agg #[.int .i64 x, .int .i64 y]))).run Tryd.prog w
    = .ok (.agg #[.pointer (some ⟨hB, 70, none⟩), .pointer (some ⟨w.heap.size, 0, none⟩), .int .u64 153]) (w.alloc (.cells #[.int .i64 x, .int .i64 y] 70)) := by kernel_rfl
theorem ea_elemOf (w : World) : (Rtype.elem? 73).run Tryd.prog w = .ok (some 70) w := by kernel_rfl
theorem ea_mk (p : Addr) (w : World) : (ReflectliteValue.mk 70 p ReflectliteValue.flagAddr).run Tryd.prog w = .ok (.agg #[.pointer (some ⟨hB, 70, none⟩), .pointer (some p), .int .u64 409]) w := by kernel_rfl
theorem ea_elemV (a p : Addr) (W : World) (ha : W.cell? a = some (.pointer (some p))) :
    (ReflectliteValue.method (ReflectliteValue.valueError "reflectlite.Value.Elem" 0) ReflectliteValue.elem #[.agg #[.pointer (some ⟨hB, 73, none⟩), .pointer (some a), .int .u64 150]]).run Tryd.prog W
      = .ok (.agg #[.pointer (some ⟨hB, 70, none⟩), .pointer (some p), .int .u64 409]) W := by
  rw [ea_rlm]
  simp only [Sem.run_bind, ea_partsPF, Result.andThen]
  simp [ReflectliteValue.elem, loadVar, isAgg, underlying, Tryd.underlying73, ha, Result.andThen, ea_elemOf, ea_mk]
theorem ea_rls (v x : Value) : ReflectliteValue.set #[v, x] = (do
    let (some (dst, a, fl), some (src, b, _)) := (← ReflectliteValue.parts v, ← ReflectliteValue.parts x)
      | unsupported (.noEntry "extern/(internal/reflectlite.Value).Set.zeroValue")
    if fl / ReflectliteValue.flagAddr % 2 == 0 then unsupported (.noEntry "extern/(internal/reflectlite.Value).Set.unaddressable")
    let val ← loadVar src b
    if ← Rtype.directlyAssignable dst src then storeVar dst a val
    else if ← Rtype.implements dst src then
      if (← Rtype.kind src) == 20 then
        match val with
        | .nilIface => unsupported (.noEntry "extern/reflectlite: a nil value of one interface type handed on as a value of another")
        | _ => storeVar dst a val
      else storeVar dst a (.iface src val)
    else panicString ("reflectlite.Set: value of type " ++ (← Rtype.spelt src) ++ " is not assignable to type " ++ (← Rtype.spelt dst))
    pure (.tuple #[])) := rfl
theorem ea_partsT (a : Addr) (w : World) : (ReflectliteValue.parts (.agg #[.pointer (some ⟨hB, 70, none⟩), .pointer (some a), .int .u64 409])).run Tryd.prog w = .ok (some (70, a, 409)) w := by kernel_rfl
theorem ea_partsF (a : Addr) (w : World) : (ReflectliteValue.parts (.agg #[.pointer (some ⟨hB, 70, none⟩), .pointer (some a), .int .u64 153])).run Tryd.prog w = .ok (some (70, a, 153)) w := by kernel_rfl
theorem ea_direct (w : World) : (Rtype.directlyAssignable 70 70).run Tryd.prog w = .ok true w := by kernel_rfl
theorem ea_size (w : World) : (sizeOf 70).run Tryd.prog w = .ok 2 w := by kernel_rfl
theorem ea_agg (w : World) : (isAgg 70).run Tryd.prog w = .ok true w := by kernel_rfl

set_option maxHeartbeats 1000000 in
/-- (Value).Set: the target's two cells get what the Value's own variable holds. -/
theorem ea_set (tb b : Nat) (x y : Int) (o0 o1 : Value) (W : World) (hb : W.heap[b]? = some (.cells #[.int .i64 x, .int .i64 y] 70 (0, 0))) (ht : W.heap[tb]? = some (.cells #[o0, o1] 70 (0, 0))) :
    (ReflectliteValue.set #[.agg #[.pointer (some ⟨hB, 70, none⟩), .pointer (some ⟨tb, 0, none⟩), .int .u64 409], .agg #[.pointer (some ⟨hB, 70, none⟩), .pointer (some ⟨b, 0, none⟩), .int .u64 153]]).run Tryd.prog W
      = .ok (.tuple #[]) ((W.setCell ⟨tb, 0, none⟩ (.int .i64 x)).setCell ⟨tb, 1, none⟩ (.int .i64 y)) := by
  rw [ea_rls]
  simp only [Sem.run_bind, ea_partsT, ea_partsF, Result.andThen]
  have b0 : W.cell? ⟨b, 0, none⟩ = some (.int .i64 x) := by have := cell_of_block hb 0; simpa using this
  have b1 : W.cell? ⟨b, 1, none⟩ = some (.int .i64 y) := by have := cell_of_block hb 1; simpa using this
  have t0 : W.cell? ⟨tb, 0, none⟩ = some o0 := by have := cell_of_block ht 0; simpa using this
  have f0 : W.frozen? ⟨tb, 0, none⟩ = false := free_of_block ht 0
  have ht1 := setCell_block (i := 0) ht (.int .i64 x)
  have g1 : (W.setCell ⟨tb, 0, none⟩ (.int .i64 x)).cell? ⟨tb, 1, none⟩ = some o1 := by have := cell_of_block ht1 1; simpa using this
  have g2 : (W.setCell ⟨tb, 0, none⟩ (.int .i64 x)).frozen? ⟨tb, 1, none⟩ = false := free_of_block ht1 1
  clear ht1
  simp [ReflectliteValue.flagAddr, loadVar, ea_agg, ea_size, loadCells, loadCellsFrom, Addr.add, b0, b1, Result.andThen, ea_direct, storeVar, Value.cells, storeCells]
  rw [run_store Tryd.prog W _ _ _ (by rfl)]
  simp [t0, f0, Result.andThen]
  rw [run_store Tryd.prog _ _ _ _ (by rfl)]
  simp [g1, g2, Result.andThen]

/-- What a run of errors.As leaves. -/
structure AsTo (w : World) (tb : Nat) (x y : Int) (w' : World) : Prop where
  blk : w'.heap[tb]? = some (.cells #[.int .i64 x, .int .i64 y] 70 (0, 0))
  chg : Chg (· = tb) w w'

/-- The handle that errors.errorType holds. -/
def HasET (w : World) : Prop := w.cell? ⟨0, 0, none⟩ = some (.iface 89 (.agg #[.pointer (some ⟨hB, 63, none⟩)]))

set_option maxHeartbeats 8000000 in
theorem as_hit (x y : Int) (tb : Nat) (o0 o1 : Value) (w : World) (hg : HasET w) (ht : w.heap[tb]? = some (.cells #[o0, o1] 70 (0, 0))) :
    Calls Tryd.prog 33 #[.iface 70 (.agg #[.int .i64 x, .int .i64 y]), .iface 73 (.pointer (some ⟨tb, 0, none⟩))] w fun e w' => e = .returned (.bool true) ∧ AsTo w tb x y w' := by
  have htl := block_lt ht
  have HT := Lib.hid ht
  have HG := Lib.hid hg
  clear hg ht
  have h6 := @run_callFunc_extern Tryd.prog 37 _ (fun args => ReflectliteValue.unpack (args.getD 0 (.tuple #[]))) Tryd.func37 (by kernel_rfl) (by kernel_rfl) (by kernel_rfl) (by kernel_rfl)
  have h7 := @run_callFunc_extern Tryd.prog 38 _ (ReflectliteValue.methodAny (ReflectliteValue.valueError "reflectlite.Value.Type" 0) (fun t _ _ _ => ReflectliteType.toType t)) Tryd.func38 (by kernel_rfl) (by kernel_rfl) (by kernel_rfl) (by kernel_rfl)
  have h8 := @run_callFunc_extern Tryd.prog 39 _ (ReflectliteValue.method (ReflectliteValue.valueError "reflectlite.Value.IsNil" 0) ReflectliteValue.isNil) Tryd.func39 (by kernel_rfl) (by kernel_rfl) (by kernel_rfl) (by kernel_rfl)
  have h27 := @run_callFunc_extern Tryd.prog 58 _ (ReflectliteType.abiMethod fun t => do pure (.int .u8 (← Rtype.kind t))) Tryd.func58 (by kernel_rfl) (by kernel_rfl) (by kernel_rfl) (by kernel_rfl)
  have h37 := @run_callFunc_extern Tryd.prog 70 _ (ReflectliteType.method ReflectliteType.elem) Tryd.func70 (by kernel_rfl) (by kernel_rfl) (by kernel_rfl) (by kernel_rfl)
  have h38 := @run_callFunc_extern Tryd.prog 71 _ (ReflectliteType.relation "Implements" ReflectliteType.implements_) Tryd.func71 (by kernel_rfl) (by kernel_rfl) (by kernel_rfl) (by kernel_rfl)
  have h10 := @run_callFunc_extern Tryd.prog 35 _ ReflectliteType.typeOf Tryd.func35 (by kernel_rfl) (by kernel_rfl) (by kernel_rfl) (by kernel_rfl)
  have h35 := @run_callFunc_extern Tryd.prog 68 _ (ReflectliteType.relation "AssignableTo" ReflectliteType.assignableTo) Tryd.func68 (by kernel_rfl) (by kernel_rfl) (by kernel_rfl) (by kernel_rfl)
  have h11 := @run_callFunc_extern Tryd.prog 42 _ (ReflectliteValue.method (ReflectliteValue.valueError "reflectlite.Value.Elem" 0) ReflectliteValue.elem) Tryd.func42 (by kernel_rfl) (by kernel_rfl) (by kernel_rfl) (by kernel_rfl)
  have h12 := @run_callFunc_extern Tryd.prog 43 _ ReflectliteValue.set Tryd.func43 (by kernel_rfl) (by kernel_rfl) (by kernel_rfl) (by kernel_rfl)
  have tO := er_typeOfF
  have mA := ea_mAssignable
  have aF := ea_assignable
  have vF := ea_valueOfF
  have f6 := ea_valueOfPF
  have f7 := ea_typePF
  have mK := ea_mKind
  have mE := ea_mElem
  have mI := ea_mImplements
  have kP := ea_kindPF
  have kF := ea_kindF
  have eP := ea_elem
  have iF := ea_implements
  have n8 := ea_isNil ⟨w.heap.size, 0, none⟩ ⟨tb, 0, none⟩ ((w.alloc (.cells #[.pointer (some ⟨tb, 0, none⟩)] 73)).alloc (.cells #[.pointer (some ⟨hB, 73, none⟩), .pointer (some ⟨w.heap.size, 0, none⟩), .int .u64 150] 81)) (by simp)
  have hg2 : ((w.alloc (.cells #[.pointer (some ⟨tb, 0, none⟩)] 73)).alloc (.cells #[.pointer (some ⟨hB, 73, none⟩), .pointer (some ⟨w.heap.size, 0, none⟩), .int .u64 150] 81)).cell? ⟨0, 0, none⟩ = some (.iface 89 (.agg #[.pointer (some ⟨hB, 63, none⟩)])) := by
    have hlt := World.block_lt_of_cell? _ _ HG.out
    rw [(((Ext.refl w).alloc _).alloc _).cell hlt]; exact HG.out
  have el := ea_elemV ⟨w.heap.size, 0, none⟩ ⟨tb, 0, none⟩ (((w.alloc (.cells #[.pointer (some ⟨tb, 0, none⟩)] 73)).alloc (.cells #[.pointer (some ⟨hB, 73, none⟩), .pointer (some ⟨w.heap.size, 0, none⟩), .int .u64 150] 81)).alloc (.cells #[.pointer (some ⟨hB, 73, none⟩), .pointer (some ⟨w.heap.size, 0, none⟩), .int .u64 150] 81)) (by rw [World.cell?_alloc_lt _ _ ⟨w.heap.size, 0, none⟩ (by simp; omega)]; simp)
  have st := ea_set tb (w.heap.size + 1 + 1 + 1) x y o0 o1 ((((w.alloc (.cells #[.pointer (some ⟨tb, 0, none⟩)] 73)).alloc (.cells #[.pointer (some ⟨hB, 73, none⟩), .pointer (some ⟨w.heap.size, 0, none⟩), .int .u64 150] 81)).alloc (.cells #[.pointer (some ⟨hB, 73, none⟩), .pointer (some ⟨w.heap.size, 0, none⟩), .int .u64 150] 81)).alloc (.cells #[.int .i64 x, .int .i64 y] 70))
    (by have := heap_alloc_new (((w.alloc (.cells #[.pointer (some ⟨tb, 0, none⟩)] 73)).alloc (.cells #[.pointer (some ⟨hB, 73, none⟩), .pointer (some ⟨w.heap.size, 0, none⟩), .int .u64 150] 81)).alloc (.cells #[.pointer (some ⟨hB, 73, none⟩), .pointer (some ⟨w.heap.size, 0, none⟩), .int .u64 150] 81)) (.cells #[.int .i64 x, .int .i64 y] 70 (0, 0)); simpa using this)
    (by rw [(((((Ext.refl w).alloc _).alloc _).alloc _).alloc _).block htl]; exact HT.out)
  have HFIN : Hid (AsTo w tb x y ((((((w.alloc (.cells #[.pointer (some ⟨tb, 0, none⟩)] 73)).alloc (.cells #[.pointer (some ⟨hB, 73, none⟩), .pointer (some ⟨w.heap.size, 0, none⟩), .int .u64 150] 81)).alloc (.cells #[.pointer (some ⟨hB, 73, none⟩), .pointer (some ⟨w.heap.size, 0, none⟩), .int .u64 150] 81)).alloc (.cells #[.int .i64 x, .int .i64 y] 70)).setCell ⟨tb, 0, none⟩ (.int .i64 x)).setCell ⟨tb, 1, none⟩ (.int .i64 y))) := Lib.hid (by
    have h0 := (((((Ext.refl w).alloc (.cells #[.pointer (some ⟨tb, 0, none⟩)] 73)).alloc (.cells #[.pointer (some ⟨hB, 73, none⟩), .pointer (some ⟨w.heap.size, 0, none⟩), .int .u64 150] 81)).alloc (.cells #[.pointer (some ⟨hB, 73, none⟩), .pointer (some ⟨w.heap.size, 0, none⟩), .int .u64 150] 81)).alloc (.cells #[.int .i64 x, .int .i64 y] 70))
    refine ⟨?_, ((Chg.of_ext h0).trans (setCell_chg _ _ _ _) (fun _ _ e => e)).trans (setCell_chg _ _ _ _) (fun _ _ e => e)⟩
    have h1 := setCell_block (i := 1) (setCell_block (i := 0) ((h0.block htl).trans HT.out) (.int .i64 x)) (.int .i64 y)
    simpa using h1)
  clear HT
  go_enter Tryd.func33, Tryd.ntmps33
  go_wp2
  refine wp_loop_rounds 1 ?_
  rw [rounds_succ]
  go_wp2
  go_ret
  exact ⟨rfl, HFIN.out⟩
end Go.Proofs.YtafaagkhgdggbaaDoor
