/- x -/
import Derived.Test.YtlmfhjipbjkcbaaGreatDoorPtc
import Derived.Test.YtlmfhjipbjkcbaaGreatDoorPln2
import Derived.Deep.MidRow
set_option linter.unusedSimpArgs false
set_option linter.unusedVariables false
namespace Go.Proofs.YtlmfhjipbjkcbaaGreatDoor
section
open Go Go.RowKit Go.Sort Go.Lib
variable {P:Program}
theorem zai {ops:Array Oper}{rest:List Oper}{op:Oper}{a:Act}{w:World}{Q:Exit→Act→World→Prop}(hgd:op.guard=none) (ty:TypeId) (x y:Operand) (ho:op.op=.store ty x y)
 (b:Nat) (old cells:Array Value) (t:TypeId) (hx:a.eval x=.pointer (some ⟨b,0,none⟩)) (hy:a.eval y=.agg cells)
 (hb:w.heap[b]?=some (.cells old t (0,0))) (hsz:old.size=cells.size) (hi:(P.info? ty).map (·.size)=some cells.size) (h1:cells.all (·.oneCell')=true)
 (h:∀w',w'.heap[b]?=some (.cells cells t (0,0))→Chg (·=b) w w'→wpList P ops Q rest (a.put op.dst undef) w'):wpList P ops Q (op::rest) a w:=by
 refine wpList_plain hgd fun K hK=>?_
 unfold Oper.wp execOp
 simp only [ho,hx,hy,Instr.storeAt,Instr.sureAddr,Sem.run_bind,Sem.run_pure,Result.andThen_ok,run_storeVar_row w b t ty old cells hb hi hsz h1]
 exact hK _ _ (h _ (setRow_heap w b old cells t (0,0) hb) ⟨rfl,rfl,rfl,by simp [World.setRow],fun k _ hn=>setRow_other w b k cells hn⟩)
theorem zbR {ops:Array Oper}{rest:List Oper}{op:Oper}{a:Act}{w:World}{Q:Exit→Act→World→Prop}(hgd:op.guard=none) (ty:TypeId) (x y:Operand) (ho:op.op=.store ty x y)
 (b o:Nat) (old cells new:Array Value) (t:TypeId) (hx:a.eval x=.pointer (some ⟨b,o,none⟩)) (hy:a.eval y=.agg cells)
 (hb:w.heap[b]?=some (.cells old t (0,0))) (hsz:o+cells.size≤old.size) (hnew:old.toList.take o++cells.toList++old.toList.drop (o+cells.size)=new.toList)
 (hi:(P.info? ty).map (·.size)=some cells.size) (h1:cells.all (·.oneCell')=true)
 (h:∀w',w'.heap[b]?=some (.cells new t (0,0))→Chg (·=b) w w'→wpList P ops Q rest (a.put op.dst undef) w'):wpList P ops Q (op::rest) a w:=by
 have hst:=run_storeCells_at P b o t cells.toList 0 old w hb (by simpa using hsz) (fun v hv=>(Array.all_eq_true_iff_forall_mem.1 h1) v (by simpa using hv))
 simp only [Nat.add_zero,Array.length_toList] at hst
 rw [hnew] at hst
 have hsv:(storeVar ty ⟨b,o,none⟩ (.agg cells)).run P w=.ok () (w.setRow b new):=by
  cases hq:P.info? ty with
  | none=>simp [hq] at hi
  | some i =>
   have hs:cells.size=i.size:=by simp [hq] at hi;omega
   simp [storeVar,sizeOf,typeInfo,hq,Value.cells,hs]
   simpa using hst
 refine wpList_plain hgd fun K hK=>?_
 unfold Oper.wp execOp
 simp only [ho,hx,hy,Instr.storeAt,Instr.sureAddr,Sem.run_bind,Sem.run_pure,Result.andThen_ok,hsv]
 exact hK _ _ (h _ (setRow_heap w b old new t (0,0) hb) ⟨rfl,rfl,rfl,by simp [World.setRow],fun k _ hn=>setRow_other w b k new hn⟩)
theorem zat {ops:Array Oper}{rest:List Oper}{op:Oper}{a:Act}{w:World}{Q:Exit→Act→World→Prop}(hgd:op.guard=none) (ty:TypeId) (x:Operand) (ho:op.op=.load ty x)
 (b:Nat) (cells:Array Value) (t:TypeId) (d:TypeDesc) (fr:Nat×Nat) (hx:a.eval x=.pointer (some ⟨b,0,none⟩))
 (hb:w.heap[b]?=some (.cells cells t fr)) (hu:P.underlying ty=some d) (hd:d.isRow=true) (hi:(P.info? ty).map (·.size)=some cells.size)
 (h:wpList P ops Q rest (a.put op.dst (.agg cells)) w):wpList P ops Q (op::rest) a w:=by
 have:=World.rangeAt_of_block hb 0 cells.size
 refine wpList_load_mid hgd ty x ho b 0 hx cells.toList d (by simpa using this) hu hd (by simpa using hi) (by simpa using h)
theorem zaW {w:World}{b:Nat}{cells:Array Value}{t ty:TypeId}{fr:Nat×Nat}{d:TypeDesc}(hb:w.heap[b]?=some (.cells cells t fr)) {T:Nat→Bool}(hT:T b=false)
 (hu:P.underlying ty=some d) (hd:d.isRow=true) (hi:(P.info? ty).map (·.size)=some cells.size) (k:Nat) (f:Nat→Obj) (os:Array Obj) :
 (Instr.loadAt ty (.pointer (some ⟨b,0,none⟩))).run P (turned w T k f os)=.ok (.agg cells) (turned w T k f os):=by
 have h1:(turned w T k f os).heap[b]?=some (.cells cells t fr):=((chg_turned w T k f os).block b (zab hb) (by rw [hT];simp)).trans hb
 have:=run_loadAt_mid (P:=P) (turned w T k f os) b 0 ty cells.toList d (by simpa using World.rangeAt_of_block h1 0 cells.size) hu hd (by simpa using hi)
 simpa using this
theorem load_box_run {w:World}{b:Nat}{cells:Array Value}{t ty:TypeId}{fr:Nat×Nat}{d:TypeDesc}(hb:w.heap[b]?=some (.cells cells t fr))
 (hu:P.underlying ty=some d) (hd:d.isRow=true) (hi:(P.info? ty).map (·.size)=some cells.size) :
 (Instr.loadAt ty (.pointer (some ⟨b,0,none⟩))).run P w=.ok (.agg cells) w:=by
 have:=run_loadAt_mid (P:=P) w b 0 ty cells.toList d (by simpa using World.rangeAt_of_block hb 0 cells.size) hu hd (by simpa using hi)
 simpa using this
theorem zbl {ops:Array Oper}{C:World→Prop}{Q:Act→Prop}{o:Oper}{rest:List Oper}{a:Act}(hgd:o.guard=none) (ty:TypeId) (x:Operand) (ho:o.op=.load ty x) (p v:Value) (hx:a.eval x=p)
 (hl:∀w,C w→(Instr.loadAt ty p).run P w=.ok v w) (h:wpQuiet P ops C Q rest (a.put o.dst v)):wpQuiet P ops C Q (o::rest) a:=by
 unfold wpQuiet
 rw [if_pos (by simp [Region.wanted,hgd])]
 refine ⟨v,fun w hw=>?_,h⟩
 unfold Oper.quietAt execOp
 simp only [ho,hx,Sem.run_bind,hl w hw,Result.andThen_ok,Sem.run_pure]
 exact ⟨rfl,rfl⟩
theorem zaU {fn:Func}{p u:Tmp}{ty t:TypeId}{b:Nat}{cells:Array Value}{fr:Nat×Nat}{d:TypeDesc}(h:fn.results=#[.cell p ty,.tmp u]) (tmps:Array Value) (w:World)
 (hp:tmps.getD p undef=.pointer (some ⟨b,0,none⟩)) (hb:w.heap[b]?=some (.cells cells t fr)) (hu:P.underlying ty=some d) (hd:d.isRow=true) (hi:(P.info? ty).map (·.size)=some cells.size) :
 (results fn tmps).run P w=.ok (.tuple #[.agg cells,tmps.getD u undef]) w:=by
 rw [results_cell_tmp h,hp]
 have:=run_loadVar_mid (P:=P) w b 0 ty cells.toList d (by simpa using World.rangeAt_of_block hb 0 cells.size) hu hd (by simpa using hi)
 simp [asAddr,Result.andThen,this]
theorem zaZ {fn:Func}{p:Tmp}{ty t:TypeId}{b:Nat}{cells:Array Value}{fr:Nat×Nat}{d:TypeDesc}(h:fn.results=#[.cell p ty]) (tmps:Array Value) (w:World)
 (hp:tmps.getD p undef=.pointer (some ⟨b,0,none⟩)) (hb:w.heap[b]?=some (.cells cells t fr)) (hu:P.underlying ty=some d) (hd:d.isRow=true) (hi:(P.info? ty).map (·.size)=some cells.size) :
 (results fn tmps).run P w=.ok (.agg cells) w:=by
 have:=run_loadVar_mid (P:=P) w b 0 ty cells.toList d (by simpa using World.rangeAt_of_block hb 0 cells.size) hu hd (by simpa using hi)
 have hp':tmps[p]?.getD undef=.pointer (some ⟨b,0,none⟩):=by simpa using hp
 simp only [results,h]
 simp [Sem.run_bind,Result.andThen,hp',asAddr,this]
end
section
open Go Go.RowKit Go.Sort Go.Lib
variable {P:Program}
theorem zap {ops:Array Oper}{rest:List Oper}{op:Oper}{a:Act}{w:World}{Q:Exit→Act→World→Prop}(hgd:op.guard=none) (ty:TypeId) (x y:Operand) (ho:op.op=.store ty x y)
 (b o:Nat) (old new:Array Value) (v:Value) (t:TypeId) (hx:a.eval x=.pointer (some ⟨b,o,none⟩)) (hy:a.eval y=v) (hv:v.cells=#[v]) (h1:v.oneCell'=true)
 (hb:w.heap[b]?=some (.cells old t (0,0))) (hsz:o+1≤old.size) (hnew:old.toList.take o++[v]++old.toList.drop (o+1)=new.toList)
 (hi:(P.info? ty).map (·.size)=some 1)
 (h:∀w',w'.heap[b]?=some (.cells new t (0,0))→Chg (·=b) w w'→w'=w.setRow b new→wpList P ops Q rest (a.put op.dst undef) w'):wpList P ops Q (op::rest) a w:=by
 have hst:=run_storeCells_at P b o t [v] 0 old w hb (by simpa using hsz) (fun u hu=>by simp at hu;subst hu;exact h1)
 simp only [Nat.add_zero,List.length_singleton] at hst
 rw [hnew] at hst
 have hsv:(storeVar ty ⟨b,o,none⟩ v).run P w=.ok () (w.setRow b new):=by
  cases hq:P.info? ty with
  | none=>simp [hq] at hi
  | some i =>
   have hs:i.size=1:=by simp [hq] at hi;omega
   simp [storeVar,sizeOf,typeInfo,hq,hv,hs]
   simpa using hst
 refine wpList_plain hgd fun K hK=>?_
 unfold Oper.wp execOp
 simp only [ho,hx,hy,Instr.storeAt,Instr.sureAddr,Sem.run_bind,Sem.run_pure,Result.andThen_ok,hsv]
 exact hK _ _ (h _ (setRow_heap w b old new t (0,0) hb) ⟨rfl,rfl,rfl,by simp [World.setRow],fun k _ hn=>setRow_other w b k new hn⟩ rfl)
theorem zaV {C:World→Prop}{o:Oper}{a:Act}{K:Act→Prop}(ty:TypeId) (x:Operand) (ho:o.op=.load ty x) (p v:Value) (hx:a.eval x=p)
 (hl:∀w,C w→(Instr.loadAt ty p).run P w=.ok v w) (hk:K (a.put o.dst v)):o.quiet P a C K :=
 ⟨v,fun w hw=>by
   unfold Oper.quietAt execOp
   simp only [ho,hx,Sem.run_bind,hl w hw,Result.andThen_ok,Sem.run_pure]
   exact ⟨rfl,rfl⟩,hk⟩
end
section
open Go.RowKit Go.Lib Go.Sort
def Pt.fits (p:Pt):Prop:=(-9223372036854775808≤p.t∧p.t≤9223372036854775807)∧(-9223372036854775808≤p.v∧p.v≤9223372036854775807)∧(-9223372036854775808≤p.s∧p.s≤9223372036854775807)
end
end Go.Proofs.YtlmfhjipbjkcbaaGreatDoor
