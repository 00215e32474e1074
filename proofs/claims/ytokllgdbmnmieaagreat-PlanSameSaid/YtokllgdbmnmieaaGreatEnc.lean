/- Boxes: a struct in a block of its own is read, written, told as a result, whole. -/
import Derived.Test.YtokllgdbmnmieaaGreatPtc
import Derived.Test.YtokllgdbmnmieaaGreatPlan
import Derived.Deep.MidRow
import Derived.Laws.ResultCell
import Derived.Laws.CopyRow
import Derived.Test.YtokllgdbmnmieaaGreatCmp
namespace Go.Proofs.YtokllgdbmnmieaaGreat
open Go Go.RowKit Go.Sort Go.Lib
variable {P : Program}

/-- The struct is written, whole: what the world is then, by its blocks. -/
theorem wpList_store_box {ops : Array Oper} {rest : List Oper} {op : Oper} {a : Act} {w : World} {Q : Exit → Act → World → Prop} (hgd : op.guard = none) (ty : TypeId) (x y : Operand) (ho : op.op = .store ty x y)
    (b : Nat) (old cells : Array Value) (t : TypeId) (hx : a.eval x = .pointer (some ⟨b, 0, none⟩)) (hy : a.eval y = .agg cells)
    (hb : w.heap[b]? = some (.cells old t (0, 0))) (hsz : old.size = cells.size) (hi : (P.info? ty).map (·.size) = some cells.size) (h1 : cells.all (·.oneCell') = true)
    (h : ∀ w', w'.heap[b]? = some (.cells cells t (0, 0)) → Chg (· = b) w w' → wpList P ops Q rest (a.put op.dst undef) w') : wpList P ops Q (op :: rest) a w := by
  refine wpList_plain hgd fun K hK => ?_
  unfold Oper.wp execOp
  simp only [ho, hx, hy, Instr.storeAt, Instr.sureAddr, Sem.run_bind, Sem.run_pure, Result.andThen_ok, run_storeVar_row w b t ty old cells hb hi hsz h1]
  exact hK _ _ (h _ (setRow_heap w b old cells t (0, 0) hb) ⟨rfl, rfl, rfl, by simp [World.setRow], fun k _ hn => setRow_other w b k cells hn⟩)

/-- A part of the struct is written. -/
theorem wpList_store_part {ops : Array Oper} {rest : List Oper} {op : Oper} {a : Act} {w : World} {Q : Exit → Act → World → Prop} (hgd : op.guard = none) (ty : TypeId) (x y : Operand) (ho : op.op = .store ty x y)
    (b o : Nat) (old cells new : Array Value) (t : TypeId) (hx : a.eval x = .pointer (some ⟨b, o, none⟩)) (hy : a.eval y = .agg cells)
    (hb : w.heap[b]? = some (.cells old t (0, 0))) (hsz : o + cells.size ≤ old.size) (hnew : old.toList.take o ++ cells.toList ++ old.toList.drop (o + cells.size) = new.toList)
    (hi : (P.info? ty).map (·.size) = some cells.size) (h1 : cells.all (·.oneCell') = true)
    (h : ∀ w', w'.heap[b]? = some (.cells new t (0, 0)) → Chg (· = b) w w' → wpList P ops Q rest (a.put op.dst undef) w') : wpList P ops Q (op :: rest) a w := by
  have hst := run_storeCells_at P b o t cells.toList 0 old w hb (by simpa using hsz) (fun v hv => (Array.all_eq_true_iff_forall_mem.1 h1) v (by simpa using hv))
  simp only [Nat.add_zero, Array.length_toList] at hst
  rw [hnew] at hst
  have hsv : (storeVar ty ⟨b, o, none⟩ (.agg cells)).run P w = .ok () (w.setRow b new) := by
    cases hq : P.info? ty with
    | none => simp [hq] at hi
    | some i =>
      have hs : cells.size = i.size := by simp [hq] at hi; omega
      simp [storeVar, sizeOf, typeInfo, hq, Value.cells, hs]
      simpa using hst
  refine wpList_plain hgd fun K hK => ?_
  unfold Oper.wp execOp
  simp only [ho, hx, hy, Instr.storeAt, Instr.sureAddr, Sem.run_bind, Sem.run_pure, Result.andThen_ok, hsv]
  exact hK _ _ (h _ (setRow_heap w b old new t (0, 0) hb) ⟨rfl, rfl, rfl, by simp [World.setRow], fun k _ hn => setRow_other w b k new hn⟩)

/-- The struct is read, whole. -/
theorem wpList_load_box {ops : Array Oper} {rest : List Oper} {op : Oper} {a : Act} {w : World} {Q : Exit → Act → World → Prop} (hgd : op.guard = none) (ty : TypeId) (x : Operand) (ho : op.op = .load ty x)
    (b : Nat) (cells : Array Value) (t : TypeId) (d : TypeDesc) (fr : Nat × Nat) (hx : a.eval x = .pointer (some ⟨b, 0, none⟩))
    (hb : w.heap[b]? = some (.cells cells t fr)) (hu : P.underlying ty = some d) (hd : d.isRow = true) (hi : (P.info? ty).map (·.size) = some cells.size)
    (h : wpList P ops Q rest (a.put op.dst (.agg cells)) w) : wpList P ops Q (op :: rest) a w := by
  have := World.rangeAt_of_block hb 0 cells.size
  refine wpList_load_mid hgd ty x ho b 0 hx cells.toList d (by simpa using this) hu hd (by simpa using hi) (by simpa using h)

/-- A box is read in every world in which other blocks may have turned. -/
theorem load_box_turned {w : World} {b : Nat} {cells : Array Value} {t ty : TypeId} {fr : Nat × Nat} {d : TypeDesc} (hb : w.heap[b]? = some (.cells cells t fr)) {T : Nat → Bool} (hT : T b = false)
    (hu : P.underlying ty = some d) (hd : d.isRow = true) (hi : (P.info? ty).map (·.size) = some cells.size) (k : Nat) (f : Nat → Obj) (os : Array Obj) :
    (Instr.loadAt ty (.pointer (some ⟨b, 0, none⟩))).run P (turned w T k f os) = .ok (.agg cells) (turned w T k f os) := by
  have h1 : (turned w T k f os).heap[b]? = some (.cells cells t fr) := ((chg_turned w T k f os).block b (block_lt hb) (by rw [hT]; simp)).trans hb
  have := run_loadAt_mid (P := P) (turned w T k f os) b 0 ty cells.toList d (by simpa using World.rangeAt_of_block h1 0 cells.size) hu hd (by simpa using hi)
  simpa using this

theorem load_box_run {w : World} {b : Nat} {cells : Array Value} {t ty : TypeId} {fr : Nat × Nat} {d : TypeDesc} (hb : w.heap[b]? = some (.cells cells t fr))
    (hu : P.underlying ty = some d) (hd : d.isRow = true) (hi : (P.info? ty).map (·.size) = some cells.size) :
    (Instr.loadAt ty (.pointer (some ⟨b, 0, none⟩))).run P w = .ok (.agg cells) w := by
  have := run_loadAt_mid (P := P) w b 0 ty cells.toList d (by simpa using World.rangeAt_of_block hb 0 cells.size) hu hd (by simpa using hi)
  simpa using this

/-- A load that yields the same in every world of the class, taken by its law. -/
theorem wpQuiet_load_box {ops : Array Oper} {C : World → Prop} {Q : Act → Prop} {o : Oper} {rest : List Oper} {a : Act} (hgd : o.guard = none) (ty : TypeId) (x : Operand) (ho : o.op = .load ty x) (p v : Value) (hx : a.eval x = p)
    (hl : ∀ w, C w → (Instr.loadAt ty p).run P w = .ok v w) (h : wpQuiet P ops C Q rest (a.put o.dst v)) : wpQuiet P ops C Q (o :: rest) a := by
  unfold wpQuiet
  rw [if_pos (by simp [Region.wanted, hgd])]
  refine ⟨v, fun w hw => ?_, h⟩
  unfold Oper.quietAt execOp
  simp only [ho, hx, Sem.run_bind, hl w hw, Result.andThen_ok, Sem.run_pure]
  exact ⟨rfl, rfl⟩

/-- A result that lies in a box, and one that does not. -/
theorem results_box_tmp {fn : Func} {p u : Tmp} {ty t : TypeId} {b : Nat} {cells : Array Value} {fr : Nat × Nat} {d : TypeDesc} (h : fn.results = #[.cell p ty, .tmp u]) (tmps : Array Value) (w : World)
    (hp : tmps.getD p undef = .pointer (some ⟨b, 0, none⟩)) (hb : w.heap[b]? = some (.cells cells t fr)) (hu : P.underlying ty = some d) (hd : d.isRow = true) (hi : (P.info? ty).map (·.size) = some cells.size) :
    (results fn tmps).run P w = .ok (.tuple #[.agg cells, tmps.getD u undef]) w := by
  rw [results_cell_tmp h, hp]
  have := run_loadVar_mid (P := P) w b 0 ty cells.toList d (by simpa using World.rangeAt_of_block hb 0 cells.size) hu hd (by simpa using hi)
  simp [asAddr, Result.andThen, this]

theorem results_box {fn : Func} {p : Tmp} {ty t : TypeId} {b : Nat} {cells : Array Value} {fr : Nat × Nat} {d : TypeDesc} (h : fn.results = #[.cell p ty]) (tmps : Array Value) (w : World)
    (hp : tmps.getD p undef = .pointer (some ⟨b, 0, none⟩)) (hb : w.heap[b]? = some (.cells cells t fr)) (hu : P.underlying ty = some d) (hd : d.isRow = true) (hi : (P.info? ty).map (·.size) = some cells.size) :
    (results fn tmps).run P w = .ok (.agg cells) w := by
  have := run_loadVar_mid (P := P) w b 0 ty cells.toList d (by simpa using World.rangeAt_of_block hb 0 cells.size) hu hd (by simpa using hi)
  have hp' : tmps[p]?.getD undef = .pointer (some ⟨b, 0, none⟩) := by simpa using hp
  simp only [results, h]
  simp [Sem.run_bind, Result.andThen, hp', asAddr, this]
end Go.Proofs.YtokllgdbmnmieaaGreat

/-! aggr: Of, Merge. -/

namespace Go.Proofs.YtokllgdbmnmieaaGreat
open Go.RowKit Go.Lib Go.Sort

/-- What is told of points: how many, their sum, least and greatest value, first and last one. -/
structure Ag where
  n : Int
  s : Int
  mn : Int
  mx : Int
  f : Pt
  l : Pt
def Ag.cells (g : Ag) : List Value := [.int .i64 g.n, .int .i64 (g.s / 18446744073709551616), .int .u64 (g.s % 18446744073709551616), .int .i64 g.mn, .int .i64 g.mx,
  .int .i64 g.f.t, .int .i64 g.f.v, .int .i64 g.f.s, .int .i64 g.l.t, .int .i64 g.l.v, .int .i64 g.l.s]
def Ag.val (g : Ag) : Value := .agg #[.int .i64 g.n, .int .i64 (g.s / 18446744073709551616), .int .u64 (g.s % 18446744073709551616), .int .i64 g.mn, .int .i64 g.mx,
  .int .i64 g.f.t, .int .i64 g.f.v, .int .i64 g.f.s, .int .i64 g.l.t, .int .i64 g.l.v, .int .i64 g.l.s]
def agOf (p : Pt) : Ag := ⟨1, p.v, p.v, p.v, p, p⟩
def Pt.fits (p : Pt) : Prop := (-9223372036854775808 ≤ p.t ∧ p.t ≤ 9223372036854775807) ∧ (-9223372036854775808 ≤ p.v ∧ p.v ≤ 9223372036854775807) ∧ (-9223372036854775808 ≤ p.s ∧ p.s ≤ 9223372036854775807)

set_option maxHeartbeats 4000000 in
set_option maxRecDepth 100000 in
theorem aggrOf_any (p : Pt) (w : World) (hv1 : -9223372036854775808 ≤ p.v) (hv2 : p.v ≤ 9223372036854775807) :
    Calls Tryz.prog 20 #[p.val] w fun e w' => e = .returned (agOf p).val ∧ Ext w w' := by
  obtain ⟨pt, pv, ps⟩ := p
  unfold agOf Pt.val Ag.val
  simp only at hv1 hv2 ⊢
  have HC := Lib.hid (fun W => wideOf_any pv W hv1 hv2)
  unfold sumV at HC
  obtain ⟨sh, hsh⟩ : ∃ x, x = pv / 18446744073709551616 := ⟨_, rfl⟩
  obtain ⟨sl, hsl⟩ : ∃ x, x = pv % 18446744073709551616 := ⟨_, rfl⟩
  rw [← hsh, ← hsl] at HC
  rw [← hsh, ← hsl]
  clear hv1 hv2 hsh hsl
  go_enter Tryz.func20, Tryz.ntmps20
  go_wp2_with fail
  generalize hW : World.alloc _ _ = W
  have b0 : W.heap[w.heap.size]? = some (.cells #[.int .i64 pt, .int .i64 pv, .int .i64 ps] 37 (0, 0)) := by
    subst hW
    have h0 := heap_alloc_new w (.cells #[.int .i64 pt, .int .i64 pv, .int .i64 ps] 37 (0, 0))
    exact ((((Ext.refl _).alloc _).block (block_lt h0)).trans h0)
  have b1 : Hid (W.heap[w.heap.size + 1]? = some (.cells #[.int .i64 0, .int .i64 0, .int .u64 0, .int .i64 0, .int .i64 0, .int .i64 0, .int .i64 0, .int .i64 0, .int .i64 0, .int .i64 0, .int .i64 0] 75 (0, 0))) := Lib.hid (by
    subst hW
    exact heap_alloc2 w _ _)
  have HXW : Hid (Ext w W) := Lib.hid (by subst hW; exact (((Ext.refl w).alloc _).alloc _))
  clear hW
  have f0 := cell_turned (T := fun _ => false) (show W.cell? ⟨w.heap.size, 0, none⟩ = some (.int .i64 pt) by have := cell_of_block b0 0; simpa using this) rfl
  have f1 := cell_turned (T := fun _ => false) (show W.cell? ⟨w.heap.size, 1, none⟩ = some (.int .i64 pv) by have := cell_of_block b0 1; simpa using this) rfl
  have f2 := cell_turned (T := fun _ => false) (show W.cell? ⟨w.heap.size, 2, none⟩ = some (.int .i64 ps) by have := cell_of_block b0 2; simpa using this) rfl
  clear b0
  refine wp_region_plan 9 (fun w' => ∃ p : Turned, w' = turned W (fun _ => false) p.d p.f p.os) (.reads [0, 1, 3, 4, 5, 6, 7, 8] (.one 2 (.one 9 (.one 10 .done)))) (by kernel_rfl) (by kernel_rfl) (fun _ _ dd _ _ hh => by cases dd <;> exact hh) ?_ ?_
  · exact turned_of_ext (Ext.drewN W 1)
  refine wpPlan_reads ?_
  simp only [pickOps, List.getElem?_cons_succ, List.getElem?_cons_zero]
  repeat (go_big_quiet_step (fail))
  refine wpQuiet_nil ?_
  clear f0 f1 f2
  refine wpPlan_one ?_
  simp only [pickOps, List.getElem?_cons_succ, List.getElem?_cons_zero]
  go_wp2_with fail
  refine (HC.out _).mono ?_
  rintro e w1 ⟨rfl, hx1⟩
  have HX1 := Lib.hid ((Ext.drewN W 1).trans hx1)
  clear hx1 HC
  go_wp2_with fail
  refine thenX_mk (turned_of_ext HX1.out) (wpPlan_one ?_)
  simp only [pickOps, List.getElem?_cons_succ, List.getElem?_cons_zero]
  go_wp2_with fail
  refine thenX_last (wpPlan_one ?_)
  simp only [pickOps, List.getElem?_cons_succ, List.getElem?_cons_zero]
  have B2 := Lib.hid ((HX1.out.block (block_lt b1.out)).trans b1.out)
  clear b1
  refine wpList_store_box rfl _ _ _ rfl _ _ _ _ rfl rfl B2.out rfl (by kernel_rfl) (by simp [Value.oneCell']) ?_
  rintro w2 hb2 hc2
  have HX2 := Lib.hid (((Chg.of_ext (HXW.out.trans HX1.out)).trans hc2 (fun _ _ e => e)).ext (fun i hi e => by omega))
  have HB2 := Lib.hid hb2
  clear hb2 hc2
  go_wp2_with fail
  refine thenX_last (wpPlan_done ?_)
  go_wp2_with fail
  exact bodyPost_ret (results_box Tryz.results20 _ _ rfl HB2.out Tryz.underlying75 rfl (by kernel_rfl)) rfl ⟨rfl, HX2.out⟩

theorem run_min (a b : Int) (W : World) : (Builtin.min_ #[3, 3] 3 #[.int .i64 a, .int .i64 b]).run Tryz.prog W = .ok (.int .i64 (min a b)) W := by
  simp only [Int.min_def]
  simp [go_sem, Builtin.min_]
  simp only [Builtin.min2, Sem.run_pure]
  congr 2
  by_cases h : a ≤ b
  · rw [if_pos h, if_neg (by omega)]
  · rw [if_neg h, if_pos (by omega)]
theorem run_max (a b : Int) (W : World) : (Builtin.max_ #[3, 3] 3 #[.int .i64 a, .int .i64 b]).run Tryz.prog W = .ok (.int .i64 (max a b)) W := by
  simp only [Int.max_def]
  simp [go_sem, Builtin.max_]
  simp only [Builtin.max2, Sem.run_pure]
  congr 2
  by_cases h : a ≤ b
  · rw [if_pos h]
    split <;> omega
  · rw [if_neg h]
    split <;> omega

/-- What two have together, where the second one has a point. -/
def agM (a b : Ag) : Ag := if a.n = 0 then b else
  ⟨a.n + b.n, a.s + b.s, min a.mn b.mn, max a.mx b.mx, if ordI b.f a.f < 0 then b.f else a.f, if 0 < ordI b.l a.l then b.l else a.l⟩
def Ag.zero : Ag := ⟨0, 0, 0, 0, ⟨0, 0, 0⟩, ⟨0, 0, 0⟩⟩

theorem aggrMerge_none (a b : Ag) (w : World) (ha : a.n = 0) (hb : 1 ≤ b.n) :
    Calls Tryz.prog 75 #[a.val, b.val] w fun e w' => e = .returned (.tuple #[b.val, .int .i64 0]) ∧ Ext w w' := by
  obtain ⟨an, asu, amn, amx, ⟨aft, afv, afs⟩, ⟨alt, alv, als⟩⟩ := a
  obtain ⟨bn, bsu, bmn, bmx, ⟨bft, bfv, bfs⟩, ⟨blt, blv, bls⟩⟩ := b
  unfold Ag.val
  simp only at ha hb ⊢
  subst ha
  obtain ⟨ah, hah⟩ : ∃ x, x = asu / 18446744073709551616 := ⟨_, rfl⟩
  obtain ⟨al, hal⟩ : ∃ x, x = asu % 18446744073709551616 := ⟨_, rfl⟩
  obtain ⟨bh, hbh⟩ : ∃ x, x = bsu / 18446744073709551616 := ⟨_, rfl⟩
  obtain ⟨bl, hbl⟩ : ∃ x, x = bsu % 18446744073709551616 := ⟨_, rfl⟩
  rw [← hah, ← hal, ← hbh, ← hbl]
  clear hah hal hbh hbl
  have h1 : ¬ bn < 0 := by omega
  have h2 : ¬ bn = 0 := by omega
  go_enter Tryz.func75, Tryz.ntmps75
  go_wp2_with fail
  exact bodyPost_ret (results_box_tmp Tryz.results75 _ _ rfl (heap_alloc3 w _ _ _) Tryz.underlying75 rfl (by kernel_rfl)) rfl ⟨rfl, (((Ext.refl w).alloc _).alloc _).alloc _⟩

set_option maxHeartbeats 8000000 in
set_option maxRecDepth 100000 in
theorem aggrMerge_two (a b : Ag) (w : World) (ha : 1 ≤ a.n) (ha2 : a.n ≤ 2305843009213693952) (hb : 1 ≤ b.n) (hb2 : b.n ≤ 2305843009213693952) (hsa : sumOk a.s) (hsb : sumOk b.s) (hs : sumOk (a.s + b.s)) :
    Calls Tryz.prog 75 #[a.val, b.val] w fun e w' => e = .returned (.tuple #[(agM a b).val, .int .i64 0]) ∧ Ext w w' := by
  have HADD := Lib.hid (fun W => wideAdd_ok a.s b.s W hsa hsb hs)
  have HF := Lib.hid (fun W => order_any b.f a.f W)
  have HL := Lib.hid (fun W => order_any b.l a.l W)
  have HM : Hid (agM a b = ⟨a.n + b.n, a.s + b.s, min a.mn b.mn, max a.mx b.mx, if ordI b.f a.f < 0 then b.f else a.f, if 0 < ordI b.l a.l then b.l else a.l⟩) := Lib.hid (by unfold agM; rw [if_neg (by omega)])
  rw [HM.out]
  clear HM hsa hsb hs
  obtain ⟨an, asu, amn, amx, ⟨aft, afv, afs⟩, ⟨alt, alv, als⟩⟩ := a
  obtain ⟨bn, bsu, bmn, bmx, ⟨bft, bfv, bfs⟩, ⟨blt, blv, bls⟩⟩ := b
  unfold Ag.val
  unfold Pt.val at HF HL
  unfold sumV at HADD
  simp only at ha ha2 hb hb2 HADD HF HL ⊢
  obtain ⟨ah, hah⟩ : ∃ x, x = asu / 18446744073709551616 := ⟨_, rfl⟩
  obtain ⟨al, hal⟩ : ∃ x, x = asu % 18446744073709551616 := ⟨_, rfl⟩
  obtain ⟨bh, hbh⟩ : ∃ x, x = bsu / 18446744073709551616 := ⟨_, rfl⟩
  obtain ⟨bl, hbl⟩ : ∃ x, x = bsu % 18446744073709551616 := ⟨_, rfl⟩
  obtain ⟨sh, hsh⟩ : ∃ x, x = (asu + bsu) / 18446744073709551616 := ⟨_, rfl⟩
  obtain ⟨sl, hsl⟩ : ∃ x, x = (asu + bsu) % 18446744073709551616 := ⟨_, rfl⟩
  rw [← hah, ← hal, ← hbh, ← hbl, ← hsh, ← hsl] at HADD
  rw [← hah, ← hal, ← hbh, ← hbl, ← hsh, ← hsl]
  clear hah hal hbh hbl hsh hsl
  obtain ⟨of, hof⟩ : ∃ x, x = ordI ⟨bft, bfv, bfs⟩ ⟨aft, afv, afs⟩ := ⟨_, rfl⟩
  obtain ⟨ol, hol⟩ : ∃ x, x = ordI ⟨blt, blv, bls⟩ ⟨alt, alv, als⟩ := ⟨_, rfl⟩
  rw [← hof] at HF
  rw [← hol] at HL
  rw [← hof, ← hol]
  clear hof hol
  obtain ⟨m1, hm1⟩ : ∃ x, x = min amn bmn := ⟨_, rfl⟩
  obtain ⟨m2, hm2⟩ : ∃ x, x = max amx bmx := ⟨_, rfl⟩
  rw [← hm1, ← hm2]
  have HM1 := Lib.hid hm1
  have HM2 := Lib.hid hm2
  clear hm1 hm2
  obtain ⟨rf, hrf⟩ : ∃ x : Pt, x = if of < 0 then ⟨bft, bfv, bfs⟩ else ⟨aft, afv, afs⟩ := ⟨_, rfl⟩
  obtain ⟨rl, hrl⟩ : ∃ x : Pt, x = if 0 < ol then ⟨blt, blv, bls⟩ else ⟨alt, alv, als⟩ := ⟨_, rfl⟩
  rw [← hrf, ← hrl]
  have HRF := Lib.hid hrf
  have HRL := Lib.hid hrl
  clear hrf hrl
  have h1 : ¬ bn < 0 := by omega
  have h2 : ¬ bn = 0 := by omega
  have h3 : ¬ an < 0 := by omega
  have h4 : ¬ an = 0 := by omega
  have h5 : ¬ 4611686018427387904 < an := by omega
  have h6 : ¬ 4611686018427387904 - an < bn := by omega
  have HNN := Lib.hid (And.intro ha (And.intro ha2 (And.intro hb hb2)))
  clear ha ha2 hb hb2
  go_enter Tryz.func75, Tryz.ntmps75
  go_wp2_with fail
  refine (HADD.out _).mono ?_
  rintro e w1 ⟨rfl, hx1⟩
  have HX1 := Lib.hid hx1
  clear hx1 HADD
  have hmn := run_min amn bmn
  have hmx := run_max amx bmx
  rw [← HM1.out] at hmn
  rw [← HM2.out] at hmx
  have BB : Hid (∀ W', Ext w1 W' → W'.heap[w.heap.size]? = some (.cells #[.int .i64 an, .int .i64 ah, .int .u64 al, .int .i64 amn, .int .i64 amx, .int .i64 aft, .int .i64 afv, .int .i64 afs, .int .i64 alt, .int .i64 alv, .int .i64 als] 75 (0, 0)) ∧ W'.heap[w.heap.size + 1]? = some (.cells #[.int .i64 bn, .int .i64 bh, .int .u64 bl, .int .i64 bmn, .int .i64 bmx, .int .i64 bft, .int .i64 bfv, .int .i64 bfs, .int .i64 blt, .int .i64 blv, .int .i64 bls] 75 (0, 0)) ∧ W'.heap[w.heap.size + 1 + 1]? = some (.cells #[.int .i64 0, .int .i64 0, .int .u64 0, .int .i64 0, .int .i64 0, .int .i64 0, .int .i64 0, .int .i64 0, .int .i64 0, .int .i64 0, .int .i64 0] 75 (0, 0))) := Lib.hid (fun W' hx => by
    have h0 := heap_alloc_new w (.cells #[.int .i64 an, .int .i64 ah, .int .u64 al, .int .i64 amn, .int .i64 amx, .int .i64 aft, .int .i64 afv, .int .i64 afs, .int .i64 alt, .int .i64 alv, .int .i64 als] 75 (0, 0))
    have h1 := heap_alloc2 w (.cells #[.int .i64 an, .int .i64 ah, .int .u64 al, .int .i64 amn, .int .i64 amx, .int .i64 aft, .int .i64 afv, .int .i64 afs, .int .i64 alt, .int .i64 alv, .int .i64 als] 75 (0, 0)) (.cells #[.int .i64 bn, .int .i64 bh, .int .u64 bl, .int .i64 bmn, .int .i64 bmx, .int .i64 bft, .int .i64 bfv, .int .i64 bfs, .int .i64 blt, .int .i64 blv, .int .i64 bls] 75 (0, 0))
    have h2 := heap_alloc3 w (.cells #[.int .i64 an, .int .i64 ah, .int .u64 al, .int .i64 amn, .int .i64 amx, .int .i64 aft, .int .i64 afv, .int .i64 afs, .int .i64 alt, .int .i64 alv, .int .i64 als] 75 (0, 0)) (.cells #[.int .i64 bn, .int .i64 bh, .int .u64 bl, .int .i64 bmn, .int .i64 bmx, .int .i64 bft, .int .i64 bfv, .int .i64 bfs, .int .i64 blt, .int .i64 blv, .int .i64 bls] 75 (0, 0)) (.cells #[.int .i64 0, .int .i64 0, .int .u64 0, .int .i64 0, .int .i64 0, .int .i64 0, .int .i64 0, .int .i64 0, .int .i64 0, .int .i64 0, .int .i64 0] 75 (0, 0))
    refine ⟨((((Ext.refl _).alloc _).alloc _).trans (HX1.out.trans hx)).block (block_lt h0) |>.trans h0, (((Ext.refl _).alloc _).trans (HX1.out.trans hx)).block (block_lt h1) |>.trans h1, (HX1.out.trans hx).block (block_lt h2) |>.trans h2⟩)
  have HXw := Lib.hid (And.intro ((((Ext.refl w).alloc _).alloc _).alloc _ |>.trans HX1.out) (show w.heap.size + 3 ≤ w1.heap.size by have := HX1.out.size; simpa using this))
  clear HX1
  have c0 : ∀ o, (w1.alloc o).cell? ⟨w.heap.size, 0, none⟩ = some (.int .i64 an) := fun o => by have := cell_of_block (BB.out _ ((Ext.refl w1).alloc o)).1 0; simpa using this
  have c1 : ∀ o, (w1.alloc o).cell? ⟨w.heap.size, 1, none⟩ = some (.int .i64 ah) := fun o => by have := cell_of_block (BB.out _ ((Ext.refl w1).alloc o)).1 1; simpa using this
  have c2 : ∀ o, (w1.alloc o).cell? ⟨w.heap.size, 2, none⟩ = some (.int .u64 al) := fun o => by have := cell_of_block (BB.out _ ((Ext.refl w1).alloc o)).1 2; simpa using this
  have c3 : ∀ o, (w1.alloc o).cell? ⟨w.heap.size, 3, none⟩ = some (.int .i64 amn) := fun o => by have := cell_of_block (BB.out _ ((Ext.refl w1).alloc o)).1 3; simpa using this
  have c4 : ∀ o, (w1.alloc o).cell? ⟨w.heap.size, 4, none⟩ = some (.int .i64 amx) := fun o => by have := cell_of_block (BB.out _ ((Ext.refl w1).alloc o)).1 4; simpa using this
  have c5 : ∀ o, (w1.alloc o).cell? ⟨w.heap.size, 5, none⟩ = some (.int .i64 aft) := fun o => by have := cell_of_block (BB.out _ ((Ext.refl w1).alloc o)).1 5; simpa using this
  have c6 : ∀ o, (w1.alloc o).cell? ⟨w.heap.size, 6, none⟩ = some (.int .i64 afv) := fun o => by have := cell_of_block (BB.out _ ((Ext.refl w1).alloc o)).1 6; simpa using this
  have c7 : ∀ o, (w1.alloc o).cell? ⟨w.heap.size, 7, none⟩ = some (.int .i64 afs) := fun o => by have := cell_of_block (BB.out _ ((Ext.refl w1).alloc o)).1 7; simpa using this
  have c8 : ∀ o, (w1.alloc o).cell? ⟨w.heap.size, 8, none⟩ = some (.int .i64 alt) := fun o => by have := cell_of_block (BB.out _ ((Ext.refl w1).alloc o)).1 8; simpa using this
  have c9 : ∀ o, (w1.alloc o).cell? ⟨w.heap.size, 9, none⟩ = some (.int .i64 alv) := fun o => by have := cell_of_block (BB.out _ ((Ext.refl w1).alloc o)).1 9; simpa using this
  have c10 : ∀ o, (w1.alloc o).cell? ⟨w.heap.size, 10, none⟩ = some (.int .i64 als) := fun o => by have := cell_of_block (BB.out _ ((Ext.refl w1).alloc o)).1 10; simpa using this
  have d0 : ∀ o, (w1.alloc o).cell? ⟨w.heap.size + 1, 0, none⟩ = some (.int .i64 bn) := fun o => by have := cell_of_block (BB.out _ ((Ext.refl w1).alloc o)).2.1 0; simpa using this
  have d3 : ∀ o, (w1.alloc o).cell? ⟨w.heap.size + 1, 3, none⟩ = some (.int .i64 bmn) := fun o => by have := cell_of_block (BB.out _ ((Ext.refl w1).alloc o)).2.1 3; simpa using this
  have d4 : ∀ o, (w1.alloc o).cell? ⟨w.heap.size + 1, 4, none⟩ = some (.int .i64 bmx) := fun o => by have := cell_of_block (BB.out _ ((Ext.refl w1).alloc o)).2.1 4; simpa using this
  have e5 : ∀ o o', ((w1.alloc o).alloc o').cell? ⟨w.heap.size, 5, none⟩ = some (.int .i64 aft) := fun o o' => by have := cell_of_block (BB.out _ (((Ext.refl w1).alloc o).alloc o')).1 5; simpa using this
  have g5 : ∀ o o', ((w1.alloc o).alloc o').cell? ⟨w.heap.size + 1, 5, none⟩ = some (.int .i64 bft) := fun o o' => by have := cell_of_block (BB.out _ (((Ext.refl w1).alloc o).alloc o')).2.1 5; simpa using this
  have e6 : ∀ o o', ((w1.alloc o).alloc o').cell? ⟨w.heap.size, 6, none⟩ = some (.int .i64 afv) := fun o o' => by have := cell_of_block (BB.out _ (((Ext.refl w1).alloc o).alloc o')).1 6; simpa using this
  have g6 : ∀ o o', ((w1.alloc o).alloc o').cell? ⟨w.heap.size + 1, 6, none⟩ = some (.int .i64 bfv) := fun o o' => by have := cell_of_block (BB.out _ (((Ext.refl w1).alloc o).alloc o')).2.1 6; simpa using this
  have e7 : ∀ o o', ((w1.alloc o).alloc o').cell? ⟨w.heap.size, 7, none⟩ = some (.int .i64 afs) := fun o o' => by have := cell_of_block (BB.out _ (((Ext.refl w1).alloc o).alloc o')).1 7; simpa using this
  have g7 : ∀ o o', ((w1.alloc o).alloc o').cell? ⟨w.heap.size + 1, 7, none⟩ = some (.int .i64 bfs) := fun o o' => by have := cell_of_block (BB.out _ (((Ext.refl w1).alloc o).alloc o')).2.1 7; simpa using this
  go_wp2_with fail
  clear c0 c1 c2 c3 c4 c5 c6 c7 c8 c9 c10 d0 d3 d4 e5 g5 e6 g6 e7 g7
  refine (HF.out _).mono ?_
  rintro e w3 ⟨rfl, hx3⟩
  have hX : Ext w1 w3 := (((Ext.refl w1).alloc _).alloc _).trans hx3
  have HO3 : Hid (w3.heap[w1.heap.size + 1]? = some (.cells #[.int .i64 (an + bn), .int .i64 sh, .int .u64 sl, .int .i64 m1, .int .i64 m2, .int .i64 aft, .int .i64 afv, .int .i64 afs, .int .i64 alt, .int .i64 alv, .int .i64 als] 75 (0, 0))) := Lib.hid (by
    have h0 := heap_alloc2 w1 (.cells #[.int .i64 sh, .int .u64 sl] 73 (0, 0)) (.cells #[.int .i64 (an + bn), .int .i64 sh, .int .u64 sl, .int .i64 m1, .int .i64 m2, .int .i64 aft, .int .i64 afv, .int .i64 afs, .int .i64 alt, .int .i64 alv, .int .i64 als] 75 (0, 0))
    exact (hx3.block (block_lt h0)).trans h0)
  have B3 : Hid (∀ W', Chg (· = w1.heap.size + 1) w3 W' → W'.heap[w.heap.size]? = some (.cells #[.int .i64 an, .int .i64 ah, .int .u64 al, .int .i64 amn, .int .i64 amx, .int .i64 aft, .int .i64 afv, .int .i64 afs, .int .i64 alt, .int .i64 alv, .int .i64 als] 75 (0, 0)) ∧ W'.heap[w.heap.size + 1]? = some (.cells #[.int .i64 bn, .int .i64 bh, .int .u64 bl, .int .i64 bmn, .int .i64 bmx, .int .i64 bft, .int .i64 bfv, .int .i64 bfs, .int .i64 blt, .int .i64 blv, .int .i64 bls] 75 (0, 0)) ∧ W'.heap[w.heap.size + 1 + 1]? = some (.cells #[.int .i64 0, .int .i64 0, .int .u64 0, .int .i64 0, .int .i64 0, .int .i64 0, .int .i64 0, .int .i64 0, .int .i64 0, .int .i64 0, .int .i64 0] 75 (0, 0))) := Lib.hid (fun W' hc => by
    obtain ⟨p0, p1, p2⟩ := BB.out w3 hX
    have hs := HXw.out.2
    exact ⟨(hc.block _ (block_lt p0) (by omega)).trans p0, (hc.block _ (block_lt p1) (by omega)).trans p1, (hc.block _ (block_lt p2) (by omega)).trans p2⟩)
  have HE3 := Lib.hid (HXw.out.1.trans hX)
  clear hx3 hX HF BB
  by_cases hq : of < 0
  case' pos =>
    have HQ : Hid (rf = ⟨bft, bfv, bfs⟩) := Lib.hid (by rw [HRF.out, if_pos hq])
    have n0 := (B3.out w3 (Chg.refl _ _))
    have c5 : w3.cell? ⟨w.heap.size + 1, 5, none⟩ = some (.int .i64 bft) := by have := cell_of_block n0.2.1 5; simpa using this
    have c6 : w3.cell? ⟨w.heap.size + 1, 6, none⟩ = some (.int .i64 bfv) := by have := cell_of_block n0.2.1 6; simpa using this
    have c7 : w3.cell? ⟨w.heap.size + 1, 7, none⟩ = some (.int .i64 bfs) := by have := cell_of_block n0.2.1 7; simpa using this
    clear n0
    have T0 : 5 + (#[.int .i64 bft, .int .i64 bfv, .int .i64 bfs] : Array Value).size ≤ (#[.int .i64 (an + bn), .int .i64 sh, .int .u64 sl, .int .i64 m1, .int .i64 m2, .int .i64 aft, .int .i64 afv, .int .i64 afs, .int .i64 alt, .int .i64 alv, .int .i64 als] : Array Value).size := by simp
    have T1 : (#[.int .i64 (an + bn), .int .i64 sh, .int .u64 sl, .int .i64 m1, .int .i64 m2, .int .i64 aft, .int .i64 afv, .int .i64 afs, .int .i64 alt, .int .i64 alv, .int .i64 als] : Array Value).toList.take 5 ++ (#[.int .i64 bft, .int .i64 bfv, .int .i64 bfs] : Array Value).toList ++ (#[.int .i64 (an + bn), .int .i64 sh, .int .u64 sl, .int .i64 m1, .int .i64 m2, .int .i64 aft, .int .i64 afv, .int .i64 afs, .int .i64 alt, .int .i64 alv, .int .i64 als] : Array Value).toList.drop (5 + (#[.int .i64 bft, .int .i64 bfv, .int .i64 bfs] : Array Value).size) = (#[.int .i64 (an + bn), .int .i64 sh, .int .u64 sl, .int .i64 m1, .int .i64 m2, .int .i64 rf.t, .int .i64 rf.v, .int .i64 rf.s, .int .i64 alt, .int .i64 alv, .int .i64 als] : Array Value).toList := by simp [HQ.out]
    have T2 : (#[.int .i64 bft, .int .i64 bfv, .int .i64 bfs] : Array Value).all (·.oneCell') = true := by simp [Value.oneCell']
    have T3 : (Tryz.prog.info? 37).map (·.size) = some (#[.int .i64 bft, .int .i64 bfv, .int .i64 bfs] : Array Value).size := by kernel_rfl
    have T := Lib.hid (And.intro T0 (And.intro T1 (And.intro T2 T3)))
    clear T0 T1 T2 T3
    go_wp2_with (refine wpList_store_part rfl _ _ _ rfl _ _ _ _ #[.int .i64 (an + bn), .int .i64 sh, .int .u64 sl, .int .i64 m1, .int .i64 m2, .int .i64 rf.t, .int .i64 rf.v, .int .i64 rf.s, .int .i64 alt, .int .i64 alv, .int .i64 als] _ rfl rfl HO3.out T.out.1 T.out.2.1 T.out.2.2.2 T.out.2.2.1 ?_; rintro w4 hb4 hc4; have n1 := (B3.out w4 hc4); have x8 : w4.cell? ⟨w.heap.size, 8, none⟩ = some (.int .i64 alt) := (by have := cell_of_block n1.1 8; simpa using this); have x9 : w4.cell? ⟨w.heap.size, 9, none⟩ = some (.int .i64 alv) := (by have := cell_of_block n1.1 9; simpa using this); have x10 : w4.cell? ⟨w.heap.size, 10, none⟩ = some (.int .i64 als) := (by have := cell_of_block n1.1 10; simpa using this); have y8 : w4.cell? ⟨w.heap.size + 1, 8, none⟩ = some (.int .i64 blt) := (by have := cell_of_block n1.2.1 8; simpa using this); have y9 : w4.cell? ⟨w.heap.size + 1, 9, none⟩ = some (.int .i64 blv) := (by have := cell_of_block n1.2.1 9; simpa using this); have y10 : w4.cell? ⟨w.heap.size + 1, 10, none⟩ = some (.int .i64 bls) := (by have := cell_of_block n1.2.1 10; simpa using this); have HC4 := Lib.hid hc4; have HO4 := Lib.hid hb4; clear n1 hb4 hc4)
    clear c5 c6 c7
  case' neg =>
    have HQ : Hid (rf = ⟨aft, afv, afs⟩) := Lib.hid (by rw [HRF.out, if_neg hq])
    obtain ⟨w4, hw4⟩ : ∃ w4, w4 = w3 := ⟨_, rfl⟩
    have HC4 : Hid (Chg (· = w1.heap.size + 1) w3 w4) := Lib.hid (by rw [hw4]; exact Chg.refl _ _)
    have HO4 : Hid (w4.heap[w1.heap.size + 1]? = some (.cells #[.int .i64 (an + bn), .int .i64 sh, .int .u64 sl, .int .i64 m1, .int .i64 m2, .int .i64 rf.t, .int .i64 rf.v, .int .i64 rf.s, .int .i64 alt, .int .i64 alv, .int .i64 als] 75 (0, 0))) := Lib.hid (by rw [hw4, HQ.out]; exact HO3.out)
    have n1 := (B3.out w4 HC4.out)
    have x8 : w4.cell? ⟨w.heap.size, 8, none⟩ = some (.int .i64 alt) := (by have := cell_of_block n1.1 8; simpa using this)
    have x9 : w4.cell? ⟨w.heap.size, 9, none⟩ = some (.int .i64 alv) := (by have := cell_of_block n1.1 9; simpa using this)
    have x10 : w4.cell? ⟨w.heap.size, 10, none⟩ = some (.int .i64 als) := (by have := cell_of_block n1.1 10; simpa using this)
    have y8 : w4.cell? ⟨w.heap.size + 1, 8, none⟩ = some (.int .i64 blt) := (by have := cell_of_block n1.2.1 8; simpa using this)
    have y9 : w4.cell? ⟨w.heap.size + 1, 9, none⟩ = some (.int .i64 blv) := (by have := cell_of_block n1.2.1 9; simpa using this)
    have y10 : w4.cell? ⟨w.heap.size + 1, 10, none⟩ = some (.int .i64 bls) := (by have := cell_of_block n1.2.1 10; simpa using this)
    clear n1
    rw [← hw4]
    clear hw4
    go_wp2_with fail
  all_goals
    clear x8 x9 x10 y8 y9 y10
    refine (HL.out _).mono ?_
    rintro e w5 ⟨rfl, hx5⟩
    have n5 := B3.out w5 (HC4.out.trans (Chg.of_ext (S := fun _ => False) hx5) (fun _ _ e => e.elim))
    have HO5 := Lib.hid ((hx5.block (block_lt HO4.out)).trans HO4.out)
    have HR5 := Lib.hid n5.2.2
    have HC5 := Lib.hid (HC4.out.trans (Chg.of_ext (S := fun _ => False) hx5) (fun _ _ e => e.elim))
    have d8 : w5.cell? ⟨w.heap.size + 1, 8, none⟩ = some (.int .i64 blt) := by have := cell_of_block n5.2.1 8; simpa using this
    have d9 : w5.cell? ⟨w.heap.size + 1, 9, none⟩ = some (.int .i64 blv) := by have := cell_of_block n5.2.1 9; simpa using this
    have d10 : w5.cell? ⟨w.heap.size + 1, 10, none⟩ = some (.int .i64 bls) := by have := cell_of_block n5.2.1 10; simpa using this
    clear n5 hx5 HO4 HC4 HO3 HL HRF HQ
    rcases Classical.em (0 < ol) with hr | hr
    case' inl =>
      have HQ2 : Hid (rl = ⟨blt, blv, bls⟩) := Lib.hid (by rw [HRL.out, if_pos hr])
      have U0 : 8 + (#[.int .i64 blt, .int .i64 blv, .int .i64 bls] : Array Value).size ≤ (#[.int .i64 (an + bn), .int .i64 sh, .int .u64 sl, .int .i64 m1, .int .i64 m2, .int .i64 rf.t, .int .i64 rf.v, .int .i64 rf.s, .int .i64 alt, .int .i64 alv, .int .i64 als] : Array Value).size := by simp
      have U1 : (#[.int .i64 (an + bn), .int .i64 sh, .int .u64 sl, .int .i64 m1, .int .i64 m2, .int .i64 rf.t, .int .i64 rf.v, .int .i64 rf.s, .int .i64 alt, .int .i64 alv, .int .i64 als] : Array Value).toList.take 8 ++ (#[.int .i64 blt, .int .i64 blv, .int .i64 bls] : Array Value).toList ++ (#[.int .i64 (an + bn), .int .i64 sh, .int .u64 sl, .int .i64 m1, .int .i64 m2, .int .i64 rf.t, .int .i64 rf.v, .int .i64 rf.s, .int .i64 alt, .int .i64 alv, .int .i64 als] : Array Value).toList.drop (8 + (#[.int .i64 blt, .int .i64 blv, .int .i64 bls] : Array Value).size) = (#[.int .i64 (an + bn), .int .i64 sh, .int .u64 sl, .int .i64 m1, .int .i64 m2, .int .i64 rf.t, .int .i64 rf.v, .int .i64 rf.s, .int .i64 rl.t, .int .i64 rl.v, .int .i64 rl.s] : Array Value).toList := by simp [HQ2.out]
      have U2 : (#[.int .i64 blt, .int .i64 blv, .int .i64 bls] : Array Value).all (·.oneCell') = true := by simp [Value.oneCell']
      have U3 : (Tryz.prog.info? 37).map (·.size) = some (#[.int .i64 blt, .int .i64 blv, .int .i64 bls] : Array Value).size := by kernel_rfl
      have U := Lib.hid (And.intro U0 (And.intro U1 (And.intro U2 U3)))
      clear U0 U1 U2 U3
      go_wp2_with (first | (refine wpList_store_part rfl _ _ _ rfl _ _ _ _ #[.int .i64 (an + bn), .int .i64 sh, .int .u64 sl, .int .i64 m1, .int .i64 m2, .int .i64 rf.t, .int .i64 rf.v, .int .i64 rf.s, .int .i64 rl.t, .int .i64 rl.v, .int .i64 rl.s] _ rfl rfl HO5.out U.out.1 U.out.2.1 U.out.2.2.2 U.out.2.2.1 ?_; rintro w7 hb7 hc7; have HO7 := Lib.hid hb7; have HC7 := Lib.hid (HC5.out.trans hc7 (fun _ _ e => e)); have HR7 := Lib.hid ((B3.out w7 HC7.out).2.2); clear hb7 hc7 d8 d9 d10) | (refine wpList_load_box rfl _ _ rfl _ _ _ _ _ rfl HO7.out Tryz.underlying75 rfl (by kernel_rfl) ?_) | (refine wpList_store_box rfl _ _ _ rfl _ _ _ _ rfl rfl HR7.out rfl (by kernel_rfl) (by simp [Value.oneCell']) ?_; rintro w6 hb6 hc6; have HR6 := Lib.hid hb6; have HC6 := Lib.hid hc6; clear hb6 hc6))
    case' inr =>
      have HQ2 : Hid (rl = ⟨alt, alv, als⟩) := Lib.hid (by rw [HRL.out, if_neg hr])
      have HO7 : Hid (w5.heap[w1.heap.size + 1]? = some (.cells #[.int .i64 (an + bn), .int .i64 sh, .int .u64 sl, .int .i64 m1, .int .i64 m2, .int .i64 rf.t, .int .i64 rf.v, .int .i64 rf.s, .int .i64 rl.t, .int .i64 rl.v, .int .i64 rl.s] 75 (0, 0))) := Lib.hid (by rw [HQ2.out]; exact HO5.out)
      have HC7 := HC5
      clear d8 d9 d10
      go_wp2_with (first | (refine wpList_load_box rfl _ _ rfl _ _ _ _ _ rfl HO7.out Tryz.underlying75 rfl (by kernel_rfl) ?_) | (refine wpList_store_box rfl _ _ _ rfl _ _ _ _ rfl rfl HR5.out rfl (by kernel_rfl) (by simp [Value.oneCell']) ?_; rintro w6 hb6 hc6; have HR6 := Lib.hid hb6; have HC6 := Lib.hid hc6; clear hb6 hc6))
    all_goals
      have hsz := HXw.out.2
      exact bodyPost_ret (results_box_tmp Tryz.results75 _ _ rfl HR6.out Tryz.underlying75 rfl (by kernel_rfl)) rfl ⟨rfl, (((Chg.of_ext (S := fun _ => False) HE3.out).trans HC7.out (fun i hi e => by omega)).trans HC6.out (fun i hi e => by omega)).ext (fun _ _ e => e)⟩

/-- aggr.Merge, where the second one has points. -/
def Ag.fine (g : Ag) : Prop := 0 ≤ g.n ∧ g.n ≤ 2305843009213693952 ∧ sumOk g.s
theorem aggrMerge_any (a b : Ag) (w : World) (ha : a.fine) (hb : b.fine) (hb1 : 1 ≤ b.n) (hs : sumOk (a.s + b.s)) :
    Calls Tryz.prog 75 #[a.val, b.val] w fun e w' => e = .returned (.tuple #[(agM a b).val, .int .i64 0]) ∧ Ext w w' := by
  by_cases h : a.n = 0
  · have := aggrMerge_none a b w h hb1
    unfold agM
    rw [if_pos h]
    exact this
  · exact aggrMerge_two a b w (by have := ha.1; omega) ha.2.1 hb1 hb.2.1 ha.2.2 hb.2.2 hs
end Go.Proofs.YtokllgdbmnmieaaGreat

/-! Rows of structs of any kind: what lies where. -/

namespace Go.Proofs.YtokllgdbmnmieaaGreat
open Go Go.RowKit Go.Sort Go.Lib
variable {α : Type} {enc : α → List Value} {s : Nat}

theorem enc_len (hs : ∀ x, (enc x).length = s) (l : List α) : (l.flatMap enc).length = l.length * s := by
  induction l with
  | nil => simp
  | cons q l ih => simp [ih, hs, Nat.succ_mul]; omega

theorem enc_at (hs : ∀ x, (enc x).length = s) (l : List α) (k : Nat) (p : α) (h : l[k]? = some p) (j : Nat) (u : Value) (hj : (enc p)[j]? = some u) : (l.flatMap enc)[k * s + j]? = some u := by
  induction l generalizing k with
  | nil => simp at h
  | cons q l ih =>
    cases k with
    | zero =>
      simp at h; subst h
      have hlt : j < (enc q).length := (List.getElem?_eq_some_iff.1 hj).1
      simp only [List.flatMap_cons, Nat.zero_mul, Nat.zero_add]
      rw [List.getElem?_append_left hlt]; exact hj
    | succ k =>
      have := ih k (by simpa using h)
      simp only [List.flatMap_cons]
      rw [List.getElem?_append_right (by rw [hs, Nat.succ_mul]; omega), hs, show (k + 1) * s + j - s = k * s + j by rw [Nat.succ_mul]; omega]
      exact this

/-- The cells of an element of a slice. -/
theorem enc_src (hs : ∀ x, (enc x).length = s) (h0 : 0 < s) {w : World} {a : Option Addr} {n c : Nat} {l : List α} (h : Src w s (.slice a n c) n (l.flatMap enc)) {k : Nat} (hk : k < n) :
    ∃ b off p, a = some ⟨b, off, none⟩ ∧ l[k]? = some p ∧ w.rangeAt b (off + k * s) (enc p) := by
  rcases h with ⟨_, h, _⟩ | ⟨ad, c', h, hl, h2, _⟩
  · omega
  · simp at h
    obtain ⟨rfl, rfl⟩ := h
    rw [enc_len hs] at hl
    have hkl : k < l.length := Nat.lt_of_mul_lt_mul_right (a := s) (by rw [hl]; exact Nat.mul_lt_mul_of_pos_right hk h0)
    have h0l : 0 < l.length := by omega
    obtain ⟨b, off, spot⟩ := ad
    obtain ⟨u0, hu0⟩ : ∃ u, (enc l[0])[0]? = some u := by
      have : 0 < (enc l[0]).length := by rw [hs]; exact h0
      exact ⟨_, List.getElem?_eq_getElem this⟩
    have hz := h2 0 u0 (by have := enc_at hs l 0 _ (List.getElem?_eq_getElem h0l) 0 u0 hu0; simpa using this)
    have hspot : spot = none := by simpa [Addr.add] using World.cell?_spot hz
    subst hspot
    refine ⟨b, off, l[k], rfl, List.getElem?_eq_getElem hkl, fun j u hj => ?_⟩
    have := h2 _ u (enc_at hs l k _ (List.getElem?_eq_getElem hkl) j u hj)
    rw [Go.WideShapes.add_plain] at this
    rw [Nat.add_assoc]; exact this

theorem enc_src_len (hs : ∀ x, (enc x).length = s) (h0 : 0 < s) {w : World} {v : Value} {n : Nat} {l : List α} (h : Src w s v n (l.flatMap enc)) : l.length = n := by
  rcases h with ⟨_, rfl, h⟩ | ⟨_, _, _, h, _⟩
  · have hz := enc_len hs l
    rw [h, List.length_nil] at hz
    rcases Nat.eq_zero_or_pos l.length with h1 | h1
    · exact h1
    · have := Nat.mul_pos h1 h0
      rw [← hz] at this
      exact absurd this (Nat.lt_irrefl 0)
  · rw [enc_len hs] at h; exact Nat.eq_of_mul_eq_mul_right h0 h

/-- A struct in a block of its own is a slice of one. -/
theorem enc_one {W : World} {b : Nat} {p : α} {cs : Array Value} {t : TypeId} {fr : Nat × Nat} (h : W.heap[b]? = some (.cells cs t fr)) (he : enc p = cs.toList) (hs : (enc p).length = s) (h1 : ∀ u ∈ enc p, u.oneCell' = true) :
    Src W s (.slice (some ⟨b, 0, none⟩) 1 1) 1 ([p].flatMap enc) := by
  refine .inr ⟨_, _, rfl, by simp [hs], fun j u hj => ?_, fun u hu => ?_⟩
  · rw [Go.WideShapes.add_plain, Nat.zero_add, cell_of_block h]
    simpa [he] using hj
  · simp at hu
    exact h1 u hu
end Go.Proofs.YtokllgdbmnmieaaGreat
