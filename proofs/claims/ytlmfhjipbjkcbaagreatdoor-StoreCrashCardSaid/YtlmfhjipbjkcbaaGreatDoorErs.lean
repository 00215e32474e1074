/- x -/
import Derived.WalkKit
import Derived.Stop.Asserts
import Derived.RowKitTokens
import Derived.Test.YtlmfhjipbjkcbaaGreatDoorProg
import Derived.Test.YtlmfhjipbjkcbaaGreatDoorSch
set_option maxHeartbeats 8000000
set_option linter.unusedSimpArgs false
set_option linter.unusedVariables false
namespace Go.Proofs.YtlmfhjipbjkcbaaGreatDoor
section
open Go.RowKit Go.Extern.Stop Go.Stop Go.Extern Go.Lib
noncomputable def hB:Nat:=match typeHandle Tryz.prog 0 with|.pointer (some a)=>a.block|_=>0
noncomputable def erComp:Array Value→Sem Value:=ReflectliteType.method fun t=>do Rtype.noPackHeld "Comparable" t;pure (.bool (←typeInfo t).comparable)
theorem er_typeOfN (v:Value) (w:World):(ReflectliteType.typeOf #[.iface 26 v]).run Tryz.prog w=.ok (.iface 342 (.agg #[.pointer (some ⟨hB,26,none⟩)])) w:=by kernel_rfl
theorem er_typeOfF (v:Value) (w:World):(ReflectliteType.typeOf #[.iface 381 v]).run Tryz.prog w=.ok (.iface 342 (.agg #[.pointer (some ⟨hB,381,none⟩)])) w:=by kernel_rfl
theorem er_comparable (w:World):(erComp #[.agg #[.pointer (some ⟨hB,26,none⟩)]]).run Tryz.prog w=.ok (.bool true) w:=by kernel_rfl
theorem er_mComparable (n:Nat) (v:Value) (w:World):(Go.method (n+1) 342 v "Comparable").run Tryz.prog w=.ok (312,v) w:=by kernel_rfl
theorem er_noIsF (v:Value) (xT:TypeId) (w:World):(Instr.typeAssert (.iface 381 v) xT 344 true).run Tryz.prog w=.ok (.tuple #[.nilIface,.bool false]) w:=run_typeAssert_lacksB Tryz.underlying344 (by kernel_rfl) (by kernel_rfl) v xT w
theorem er_hasUnwrapF (v:Value) (xT:TypeId) (w:World):(Instr.typeAssert (.iface 381 v) xT 347 true).run Tryz.prog w=.ok (.tuple #[.iface 381 v,.bool true]) w:=run_typeAssert_hasB Tryz.underlying347 (by kernel_rfl) v xT w
theorem er_noIsN (v:Value) (xT:TypeId) (w:World):(Instr.typeAssert (.iface 26 v) xT 344 true).run Tryz.prog w=.ok (.tuple #[.nilIface,.bool false]) w:=run_typeAssert_lacksB Tryz.underlying344 (by kernel_rfl) (by kernel_rfl) v xT w
theorem er_noUnwrapN (v:Value) (xT:TypeId) (w:World):(Instr.typeAssert (.iface 26 v) xT 347 true).run Tryz.prog w=.ok (.tuple #[.nilIface,.bool false]) w:=run_typeAssert_lacksB Tryz.underlying347 (by kernel_rfl) (by kernel_rfl) v xT w
theorem er_noUnwrapsN (v:Value) (xT:TypeId) (w:World):(Instr.typeAssert (.iface 26 v) xT 349 true).run Tryz.prog w=.ok (.tuple #[.nilIface,.bool false]) w:=run_typeAssert_lacksB Tryz.underlying349 (by kernel_rfl) (by kernel_rfl) v xT w
theorem er_mUnwrap (n:Nat) (v:Value) (w:World):(Go.method (n+1) 381 v "Unwrap").run Tryz.prog w=.ok (322,v) w:=by kernel_rfl
theorem er_same (w:World):(binOp .eql 233 (.iface 26 (.int .i64 10)) (.iface 26 (.int .i64 10))).run Tryz.prog w=.ok (.bool true) w:=by kernel_rfl
theorem er_other (w:World):(binOp .eql 233 (.iface 26 (.int .i64 11)) (.iface 26 (.int .i64 10))).run Tryz.prog w=.ok (.bool false) w:=by kernel_rfl
theorem unwrap_any (at' why:Int) (w:World):Calls Tryz.prog 322 #[.agg #[.int .i64 at',.int .i64 why]] w fun e w'=>e=.returned (.iface 26 (.int .i64 why))∧Ext w w':=by
 go_enter Tryz.func322,Tryz.ntmps322
 go_wp2
 go_ret
 exact ⟨rfl,(Ext.refl w).alloc _⟩
theorem is_nil (n:Int) (w:World):Calls Tryz.prog 128 #[.nilIface,.iface 26 (.int .i64 n)] w fun e w'=>e=.returned (.bool false)∧w'=w:=by
 have hn:=run_eql_iface_nil_left (P:=Tryz.prog) w 26 (.int .i64 n) Tryz.underlying233
 go_enter Tryz.func128,Tryz.ntmps128
 go_wp2
 go_ret
 exact ⟨rfl,rfl⟩
theorem is_fault (at' why:Int) (hw:why=10∨why=11) (w:World):Calls Tryz.prog 128 #[.iface 381 (.agg #[.int .i64 at',.int .i64 why]),.iface 26 (.int .i64 10)] w fun e w'=>e=.returned (.bool (decide (why=10)))∧Ext w w':=by
 have h8:=@run_callFunc_extern Tryz.prog 187 _ ReflectliteType.typeOf Tryz.func187 (by kernel_rfl) (by kernel_rfl) (by kernel_rfl) (by kernel_rfl)
 have h32:=@run_callFunc_extern Tryz.prog 312 _ erComp Tryz.func312 (by kernel_rfl) (by kernel_rfl) (by kernel_rfl) (by kernel_rfl)
 have tT:=er_typeOfN
 have cT:=er_comparable
 have mR:=er_mComparable
 have nF:=er_noIsF
 have uF:=er_hasUnwrapF
 have mU:=er_mUnwrap
 have nN:=er_noIsN
 have uN:=er_noUnwrapN
 have vN:=er_noUnwrapsN
 have es:=er_same
 have eo:=er_other
 have hty:=fun w=>run_eql_iface_types (P:=Tryz.prog) 381 26 (.agg #[.int .i64 at',.int .i64 why]) (.int .i64 10) Tryz.underlying233 (by decide) w
 rcases hw with rfl|rfl
 all_goals
  go_enter Tryz.func128,Tryz.ntmps128
  go_wp2
  refine wp_loop_rounds 2 ?_
  rw [rounds_succ]
  go_wp2_with (go_at_call 322;refine (unwrap_any _ _ _).mono ?_;rintro e w1 ⟨rfl,hx⟩)
  rw [rounds_succ]
  go_wp2
  go_ret
  exact ⟨rfl,hx⟩
end
section
open Go.RowKit Go.Extern.Stop Go.Stop Go.Extern Go.Lib
theorem as_nil (t:Value) (w:World):Calls Tryz.prog 258 #[.nilIface,t] w fun e w'=>e=.returned (.bool false)∧w'=w:=by
 go_enter Tryz.func258,Tryz.ntmps258
 go_wp2
 go_ret
 exact ⟨rfl,rfl⟩
theorem ea_valueOfPF (t:Addr) (w:World):(ReflectliteValue.unpack (.iface 383 (.pointer (some t)))).run Tryz.prog w
 = .ok (.agg #[.pointer (some ⟨hB,383,none⟩),.pointer (some ⟨w.heap.size,0,none⟩),.int .u64 150]) (w.alloc (.cells #[.pointer (some t)] 383)):=by kernel_rfl
theorem ea_typePF (a:Addr) (w:World):(ReflectliteValue.methodAny (ReflectliteValue.valueError "reflectlite.Value.Type" 0) (fun t _ _ _=>ReflectliteType.toType t) #[.agg #[.pointer (some ⟨hB,383,none⟩),.pointer (some a),.int .u64 150]]).run Tryz.prog w
 = .ok (.iface 342 (.agg #[.pointer (some ⟨hB,383,none⟩)])) w:=by kernel_rfl
theorem ea_mKind (n:Nat) (h:Value) (w:World):(Go.method (n+1) 342 (.agg #[h]) "Kind").run Tryz.prog w=.ok (304,h) w:=by kernel_rfl
theorem ea_kindPF (w:World):((ReflectliteType.abiMethod fun t=>(fun a:Nat=>Value.int IntKind.u8 (a:Int)) <$> Rtype.kind t) #[.pointer (some ⟨hB,383,none⟩)]).run Tryz.prog w=.ok (.int .u8 22) w:=by kernel_rfl
theorem ea_kindF (w:World):((ReflectliteType.abiMethod fun t=>(fun a:Nat=>Value.int IntKind.u8 (a:Int)) <$> Rtype.kind t) #[.pointer (some ⟨hB,381,none⟩)]).run Tryz.prog w=.ok (.int .u8 25) w:=by kernel_rfl
theorem ea_rlm (z:Sem Value) (f:TypeId→Addr→Nat→Nat→Sem Value) (v:Value) :
 ReflectliteValue.method z f #[v]=(do match ←ReflectliteValue.parts v with|none=>z|some (t,a,fl)=>f t a fl (fl%32)):=rfl
theorem ea_partsPF (a:Addr) (w:World):(ReflectliteValue.parts (.agg #[.pointer (some ⟨hB,383,none⟩),.pointer (some a),.int .u64 150])).run Tryz.prog w=.ok (some (383,a,150)) w:=by kernel_rfl
theorem ea_isNil (a p:Addr) (W:World) (ha:W.cell? a=some (.pointer (some p))) :
 (ReflectliteValue.method (ReflectliteValue.valueError "reflectlite.Value.IsNil" 0) ReflectliteValue.isNil #[.agg #[.pointer (some ⟨hB,383,none⟩),.pointer (some a),.int .u64 150]]).run Tryz.prog W=.ok (.bool false) W:=by
 rw [ea_rlm]
 simp only [Sem.run_bind,ea_partsPF,Result.andThen]
 simp [ReflectliteValue.isNil,loadVar,isAgg,underlying,Tryz.underlying383,ha,Result.andThen]
theorem ea_mElem (n:Nat) (h:Value) (w:World):(Go.method (n+1) 342 (.agg #[h]) "Elem").run Tryz.prog w=.ok (313,.agg #[h]) w:=by kernel_rfl
theorem ea_mImplements (n:Nat) (h:Value) (w:World):(Go.method (n+1) 342 (.agg #[h]) "Implements").run Tryz.prog w=.ok (314,.agg #[h]) w:=by kernel_rfl
theorem ea_mAssignable (n:Nat) (h:Value) (w:World):(Go.method (n+1) 342 (.agg #[h]) "AssignableTo").run Tryz.prog w=.ok (311,.agg #[h]) w:=by kernel_rfl
theorem ea_elem (w:World):(ReflectliteType.method ReflectliteType.elem #[.agg #[.pointer (some ⟨hB,383,none⟩)]]).run Tryz.prog w=.ok (.iface 342 (.agg #[.pointer (some ⟨hB,381,none⟩)])) w:=by kernel_rfl
theorem ea_implements (w:World):(ReflectliteType.relation "Implements" ReflectliteType.implements_ #[.agg #[.pointer (some ⟨hB,381,none⟩)],.iface 342 (.agg #[.pointer (some ⟨hB,233,none⟩)])]).run Tryz.prog w=.ok (.bool true) w:=by kernel_rfl
theorem ea_assignable (w:World):(ReflectliteType.relation "AssignableTo" ReflectliteType.assignableTo #[.agg #[.pointer (some ⟨hB,381,none⟩)],.iface 342 (.agg #[.pointer (some ⟨hB,381,none⟩)])]).run Tryz.prog w=.ok (.bool true) w:=by kernel_rfl
theorem ea_valueOfF (x y:Int) (w:World):(ReflectliteValue.unpack (.iface 381 (.agg #[.int .i64 x,.int .i64 y]))).run Tryz.prog w
 = .ok (.agg #[.pointer (some ⟨hB,381,none⟩),.pointer (some ⟨w.heap.size,0,none⟩),.int .u64 153]) (w.alloc (.cells #[.int .i64 x,.int .i64 y] 381)):=by kernel_rfl
theorem ea_elemOf (w:World):(Rtype.elem? 383).run Tryz.prog w=.ok (some 381) w:=by kernel_rfl
theorem ea_mk (p:Addr) (w:World):(ReflectliteValue.mk 381 p ReflectliteValue.flagAddr).run Tryz.prog w=.ok (.agg #[.pointer (some ⟨hB,381,none⟩),.pointer (some p),.int .u64 409]) w:=by kernel_rfl
theorem ea_elemV (a p:Addr) (W:World) (ha:W.cell? a=some (.pointer (some p))) :
 (ReflectliteValue.method (ReflectliteValue.valueError "reflectlite.Value.Elem" 0) ReflectliteValue.elem #[.agg #[.pointer (some ⟨hB,383,none⟩),.pointer (some a),.int .u64 150]]).run Tryz.prog W
  = .ok (.agg #[.pointer (some ⟨hB,381,none⟩),.pointer (some p),.int .u64 409]) W:=by
 rw [ea_rlm]
 simp only [Sem.run_bind,ea_partsPF,Result.andThen]
 simp [ReflectliteValue.elem,loadVar,isAgg,underlying,Tryz.underlying383,ha,Result.andThen,ea_elemOf,ea_mk]
theorem ea_rls (v x:Value):ReflectliteValue.set #[v,x]=(do
 let (some (dst,a,fl),some (src,b,_)):=(←ReflectliteValue.parts v,←ReflectliteValue.parts x)
  | unsupported (.noEntry "extern/(internal/reflectlite.Value).Set.zeroValue")
 if fl/ReflectliteValue.flagAddr%2==0 then unsupported (.noEntry "extern/(internal/reflectlite.Value).Set.unaddressable")
 let val ←loadVar src b
 if ←Rtype.directlyAssignable dst src then storeVar dst a val
 else if ←Rtype.implements dst src then
  if (←Rtype.kind src)==20 then
   match val with
   | .nilIface=>unsupported (.noEntry "extern/reflectlite: a nil value of one interface type handed on as a value of another")
   | _=>storeVar dst a val
  else storeVar dst a (.iface src val)
 else panicString ("reflectlite.Set: value of type "++(←Rtype.spelt src) ++ " is not assignable to type "++(←Rtype.spelt dst))
 pure (.tuple #[])):=rfl
theorem ea_partsT (a:Addr) (w:World):(ReflectliteValue.parts (.agg #[.pointer (some ⟨hB,381,none⟩),.pointer (some a),.int .u64 409])).run Tryz.prog w=.ok (some (381,a,409)) w:=by kernel_rfl
theorem ea_partsF (a:Addr) (w:World):(ReflectliteValue.parts (.agg #[.pointer (some ⟨hB,381,none⟩),.pointer (some a),.int .u64 153])).run Tryz.prog w=.ok (some (381,a,153)) w:=by kernel_rfl
theorem ea_direct (w:World):(Rtype.directlyAssignable 381 381).run Tryz.prog w=.ok true w:=by kernel_rfl
theorem ea_size (w:World):(sizeOf 381).run Tryz.prog w=.ok 2 w:=by kernel_rfl
theorem ea_agg (w:World):(isAgg 381).run Tryz.prog w=.ok true w:=by kernel_rfl
theorem ea_set (tb b:Nat) (x y:Int) (o0 o1:Value) (W:World) (hb:W.heap[b]?=some (.cells #[.int .i64 x,.int .i64 y] 381 (0,0))) (ht:W.heap[tb]?=some (.cells #[o0,o1] 381 (0,0))) :
 (ReflectliteValue.set #[.agg #[.pointer (some ⟨hB,381,none⟩),.pointer (some ⟨tb,0,none⟩),.int .u64 409],.agg #[.pointer (some ⟨hB,381,none⟩),.pointer (some ⟨b,0,none⟩),.int .u64 153]]).run Tryz.prog W
  = .ok (.tuple #[]) ((W.setCell ⟨tb,0,none⟩ (.int .i64 x)).setCell ⟨tb,1,none⟩ (.int .i64 y)):=by
 rw [ea_rls]
 simp only [Sem.run_bind,ea_partsT,ea_partsF,Result.andThen]
 have b0:W.cell? ⟨b,0,none⟩=some (.int .i64 x):=by have:=zaa hb 0;simpa using this
 have b1:W.cell? ⟨b,1,none⟩=some (.int .i64 y):=by have:=zaa hb 1;simpa using this
 have t0:W.cell? ⟨tb,0,none⟩=some o0:=by have:=zaa ht 0;simpa using this
 have f0:W.frozen? ⟨tb,0,none⟩=false:=zan ht 0
 have ht1:=zaq (i:=0) ht (.int .i64 x)
 have g1:(W.setCell ⟨tb,0,none⟩ (.int .i64 x)).cell? ⟨tb,1,none⟩=some o1:=by have:=zaa ht1 1;simpa using this
 have g2:(W.setCell ⟨tb,0,none⟩ (.int .i64 x)).frozen? ⟨tb,1,none⟩=false:=zan ht1 1
 clear ht1
 simp [ReflectliteValue.flagAddr,loadVar,ea_agg,ea_size,loadCells,loadCellsFrom,Addr.add,b0,b1,Result.andThen,ea_direct,storeVar,Value.cells,storeCells]
 rw [run_store Tryz.prog W _ _ _ (by rfl)]
 simp [t0,f0,Result.andThen]
 rw [run_store Tryz.prog _ _ _ _ (by rfl)]
 simp [g1,g2,Result.andThen]
structure AsTo (w:World) (tb:Nat) (x y:Int) (w':World):Prop where
 blk:w'.heap[tb]?=some (.cells #[.int .i64 x,.int .i64 y] 381 (0,0))
 chg:Chg (·=tb) w w'
def HasET (w:World):Prop:=w.cell? ⟨0,0,none⟩=some (.iface 342 (.agg #[.pointer (some ⟨hB,233,none⟩)]))
theorem as_hit (x y:Int) (tb:Nat) (o0 o1:Value) (w:World) (hg:HasET w) (ht:w.heap[tb]?=some (.cells #[o0,o1] 381 (0,0))) :
 Calls Tryz.prog 258 #[.iface 381 (.agg #[.int .i64 x,.int .i64 y]),.iface 383 (.pointer (some ⟨tb,0,none⟩))] w fun e w'=>e=.returned (.bool true)∧AsTo w tb x y w':=by
 have htl:=zab ht
 have HT:=hid ht
 have HG:=hid hg
 clear hg ht
 have h6:=@run_callFunc_extern Tryz.prog 281 _ (fun args=>ReflectliteValue.unpack (args.getD 0 (.tuple #[]))) Tryz.func281 (by kernel_rfl) (by kernel_rfl) (by kernel_rfl) (by kernel_rfl)
 have h7:=@run_callFunc_extern Tryz.prog 282 _ (ReflectliteValue.methodAny (ReflectliteValue.valueError "reflectlite.Value.Type" 0) (fun t _ _ _=>ReflectliteType.toType t)) Tryz.func282 (by kernel_rfl) (by kernel_rfl) (by kernel_rfl) (by kernel_rfl)
 have h8:=@run_callFunc_extern Tryz.prog 283 _ (ReflectliteValue.method (ReflectliteValue.valueError "reflectlite.Value.IsNil" 0) ReflectliteValue.isNil) Tryz.func283 (by kernel_rfl) (by kernel_rfl) (by kernel_rfl) (by kernel_rfl)
 have h27:=@run_callFunc_extern Tryz.prog 304 _ (ReflectliteType.abiMethod fun t=>do pure (.int .u8 (←Rtype.kind t))) Tryz.func304 (by kernel_rfl) (by kernel_rfl) (by kernel_rfl) (by kernel_rfl)
 have h37:=@run_callFunc_extern Tryz.prog 313 _ (ReflectliteType.method ReflectliteType.elem) Tryz.func313 (by kernel_rfl) (by kernel_rfl) (by kernel_rfl) (by kernel_rfl)
 have h38:=@run_callFunc_extern Tryz.prog 314 _ (ReflectliteType.relation "Implements" ReflectliteType.implements_) Tryz.func314 (by kernel_rfl) (by kernel_rfl) (by kernel_rfl) (by kernel_rfl)
 have h10:=@run_callFunc_extern Tryz.prog 187 _ ReflectliteType.typeOf Tryz.func187 (by kernel_rfl) (by kernel_rfl) (by kernel_rfl) (by kernel_rfl)
 have h35:=@run_callFunc_extern Tryz.prog 311 _ (ReflectliteType.relation "AssignableTo" ReflectliteType.assignableTo) Tryz.func311 (by kernel_rfl) (by kernel_rfl) (by kernel_rfl) (by kernel_rfl)
 have h11:=@run_callFunc_extern Tryz.prog 288 _ (ReflectliteValue.method (ReflectliteValue.valueError "reflectlite.Value.Elem" 0) ReflectliteValue.elem) Tryz.func288 (by kernel_rfl) (by kernel_rfl) (by kernel_rfl) (by kernel_rfl)
 have h12:=@run_callFunc_extern Tryz.prog 289 _ ReflectliteValue.set Tryz.func289 (by kernel_rfl) (by kernel_rfl) (by kernel_rfl) (by kernel_rfl)
 have tO:=er_typeOfF
 have mA:=ea_mAssignable
 have aF:=ea_assignable
 have vF:=ea_valueOfF
 have f6:=ea_valueOfPF
 have f7:=ea_typePF
 have mK:=ea_mKind
 have mE:=ea_mElem
 have mI:=ea_mImplements
 have kP:=ea_kindPF
 have kF:=ea_kindF
 have eP:=ea_elem
 have iF:=ea_implements
 have n8:=ea_isNil ⟨w.heap.size,0,none⟩ ⟨tb,0,none⟩ ((w.alloc (.cells #[.pointer (some ⟨tb,0,none⟩)] 383)).alloc (.cells #[.pointer (some ⟨hB,383,none⟩),.pointer (some ⟨w.heap.size,0,none⟩),.int .u64 150] 406)) (by simp)
 have hg2:((w.alloc (.cells #[.pointer (some ⟨tb,0,none⟩)] 383)).alloc (.cells #[.pointer (some ⟨hB,383,none⟩),.pointer (some ⟨w.heap.size,0,none⟩),.int .u64 150] 406)).cell? ⟨0,0,none⟩=some (.iface 342 (.agg #[.pointer (some ⟨hB,233,none⟩)])):=by
  have hlt:=yaf _ _ HG.out
  rw [(((Ext.refl w).alloc _).alloc _).cell hlt];exact HG.out
 have el:=ea_elemV ⟨w.heap.size,0,none⟩ ⟨tb,0,none⟩ (((w.alloc (.cells #[.pointer (some ⟨tb,0,none⟩)] 383)).alloc (.cells #[.pointer (some ⟨hB,383,none⟩),.pointer (some ⟨w.heap.size,0,none⟩),.int .u64 150] 406)).alloc (.cells #[.pointer (some ⟨hB,383,none⟩),.pointer (some ⟨w.heap.size,0,none⟩),.int .u64 150] 406)) (by rw [World.cell?_alloc_lt _ _ ⟨w.heap.size,0,none⟩ (by simp;omega)];simp)
 have st:=ea_set tb (w.heap.size+1+1+1) x y o0 o1 ((((w.alloc (.cells #[.pointer (some ⟨tb,0,none⟩)] 383)).alloc (.cells #[.pointer (some ⟨hB,383,none⟩),.pointer (some ⟨w.heap.size,0,none⟩),.int .u64 150] 406)).alloc (.cells #[.pointer (some ⟨hB,383,none⟩),.pointer (some ⟨w.heap.size,0,none⟩),.int .u64 150] 406)).alloc (.cells #[.int .i64 x,.int .i64 y] 381))
  (by have:=heap_alloc_new (((w.alloc (.cells #[.pointer (some ⟨tb,0,none⟩)] 383)).alloc (.cells #[.pointer (some ⟨hB,383,none⟩),.pointer (some ⟨w.heap.size,0,none⟩),.int .u64 150] 406)).alloc (.cells #[.pointer (some ⟨hB,383,none⟩),.pointer (some ⟨w.heap.size,0,none⟩),.int .u64 150] 406)) (.cells #[.int .i64 x,.int .i64 y] 381 (0,0));simpa using this)
  (by rw [(((((Ext.refl w).alloc _).alloc _).alloc _).alloc _).block htl];exact HT.out)
 have HFIN:Hid (AsTo w tb x y ((((((w.alloc (.cells #[.pointer (some ⟨tb,0,none⟩)] 383)).alloc (.cells #[.pointer (some ⟨hB,383,none⟩),.pointer (some ⟨w.heap.size,0,none⟩),.int .u64 150] 406)).alloc (.cells #[.pointer (some ⟨hB,383,none⟩),.pointer (some ⟨w.heap.size,0,none⟩),.int .u64 150] 406)).alloc (.cells #[.int .i64 x,.int .i64 y] 381)).setCell ⟨tb,0,none⟩ (.int .i64 x)).setCell ⟨tb,1,none⟩ (.int .i64 y))):=hid (by
  have h0:=(((((Ext.refl w).alloc (.cells #[.pointer (some ⟨tb,0,none⟩)] 383)).alloc (.cells #[.pointer (some ⟨hB,383,none⟩),.pointer (some ⟨w.heap.size,0,none⟩),.int .u64 150] 406)).alloc (.cells #[.pointer (some ⟨hB,383,none⟩),.pointer (some ⟨w.heap.size,0,none⟩),.int .u64 150] 406)).alloc (.cells #[.int .i64 x,.int .i64 y] 381))
  refine ⟨?_,((Chg.of_ext h0).trans (zaj _ _ _ _) (fun _ _ e=>e)).trans (zaj _ _ _ _) (fun _ _ e=>e)⟩
  have h1:=zaq (i:=1) (zaq (i:=0) ((h0.block htl).trans HT.out) (.int .i64 x)) (.int .i64 y)
  simpa using h1)
 clear HT
 go_enter Tryz.func258,Tryz.ntmps258
 go_wp2
 refine wp_loop_rounds 1 ?_
 rw [rounds_succ]
 go_wp2
 go_ret
 exact ⟨rfl,HFIN.out⟩
end
end Go.Proofs.YtlmfhjipbjkcbaaGreatDoor
