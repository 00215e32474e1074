/- Boxes: a struct in a block of its own is read, written, told as a result, whole. -/
import Derived.Test.YtfablbhkmddnbaaDoorApp
import Derived.Test.YtfablbhkmddnbaaDoorPlan
import Derived.Deep.MidRow
import Derived.Laws.ResultCell
import Derived.Laws.CopyRow
namespace Go.Proofs.YtfablbhkmddnbaaDoor
open Go Go.RowKit Go.Sort Go.Lib
variable {P : Program}

/-- The struct is written, whole: what the world is then, by its blocks. -/
theorem wpList_store_box {ops : Array Oper} {rest : List Oper} {op : Oper} {a : Act} {w : World} {Q : Exit → Act → World → Prop} (hgd : op.guard = none) (ty : TypeId) (x y : Operand) (ho : op.op = .store ty x y)
    (b : Nat) (old cells : Array Value) (t : TypeId) (hx : a.eval x = .pointer (some ⟨b, 0, none⟩)) (hy : a.eval y = .agg cells)
    (hb : w.heap[b]? = some (.cells old t (0, 0))) (hsz : old.size = cells.size) (hi : (P.info? ty).map (·.size) = some cells.size) (h1 : cells.all (·.oneCell') = true)
    (h : ∀ w', w'.heap[b]? = some (.cells cells t (0, 0)) → Chg (· = b) w w' → wpList P ops Q rest (a.put op.dst undef) w') : wpList P ops Q (op :: rest) a w := by
  refine wpList_plain hgd fun K hK => ?_
  unfold Oper.wp execOp
  simp only [ho, hx, hy, Instr.storeAt, Instr.sureAddr, Sem.run_bind, Sem.run_pure, Result.andThen_ok, run_storeVar_row w b t ty old cells hb hi hsz h1]
  exact hK _ _ (h _ (setRow_heap w b old cells t (0, 0) hb) ⟨rfl, rfl, rfl, by simp [World.setRow], fun k _ hn => setRow_other w b k cells hn⟩)

/-- A part of the struct is written. -/
theorem wpList_store_part {ops : Array Oper} {rest : List Oper} {op : Oper} {a : Act} {w : World} {Q : Exit → Act → World → Prop} (hgd : op.guard = none) (ty : TypeId) (x y : Operand) (ho : op.op = .store ty x y)
    (b o : Nat) (old cells new : Array Value) (t : TypeId) (hx : a.eval x = .pointer (some ⟨b, o, none⟩)) (hy : a.eval y = .agg cells)
    (hb : w.heap[b]? = some (.cells old t (0, 0))) (hsz : o + cells.size ≤ old.size) (hnew : old.toList.take o ++ cells.toList ++ old.toList.drop (o + cells.size) = new.toList)
    (hi : (P.info? ty).map (·.size) = some cells.size) (h1 : cells.all (·.oneCell') = true)
    (h : ∀ w', w'.heap[b]? = some (.cells new t (0, 0)) → Chg (· = b) w w' → wpList P ops Q rest (a.put op.dst undef) w') : wpList P ops Q (op :: rest) a w := by
  have hst := run_storeCells_at P b o t cells.toList 0 old w hb (by simpa using hsz) (fun v hv => (Array.all_eq_true_iff_forall_mem.1 h1) v (by simpa using hv))
  simp only [Nat.add_zero, Array.length_toList] at hst
  rw [hnew] at hst
  have hsv : (storeVar ty ⟨b, o, none⟩ (.agg cells)).run P w = .ok () (w.setRow b new) := by
    cases hq : P.info? ty with
    | none => simp [hq] at hi
    | some i =>
      have hs : cells.size = i.size := by simp [hq] at hi; omega
      simp [storeVar, sizeOf, typeInfo, hq, Value.cells, hs]
      simpa using hst
  refine wpList_plain hgd fun K hK => ?_
  unfold Oper.wp execOp
  simp only [ho, hx, hy, Instr.storeAt, Instr.sureAddr, Sem.run_bind, Sem.run_pure, Result.andThen_ok, hsv]
  exact hK _ _ (h _ (setRow_heap w b old new t (0, 0) hb) ⟨rfl, rfl, rfl, by simp [World.setRow], fun k _ hn => setRow_other w b k new hn⟩)

/-- The struct is read, whole. -/
theorem wpList_load_box {ops : Array Oper} {rest : List Oper} {op : Oper} {a : Act} {w : World} {Q : Exit → Act → World → Prop} (hgd : op.guard = none) (ty : TypeId) (x : Operand) (ho : op.op = .load ty x)
    (b : Nat) (cells : Array Value) (t : TypeId) (d : TypeDesc) (fr : Nat × Nat) (hx : a.eval x = .pointer (some ⟨b, 0, none⟩))
    (hb : w.heap[b]? = some (.cells cells t fr)) (hu : P.underlying ty = some d) (hd : d.isRow = true) (hi : (P.info? ty).map (·.size) = some cells.size)
    (h : wpList P ops Q rest (a.put op.dst (.agg cells)) w) : wpList P ops Q (op :: rest) a w := by
  have := World.rangeAt_of_block hb 0 cells.size
  refine wpList_load_mid hgd ty x ho b 0 hx cells.toList d (by simpa using this) hu hd (by simpa using hi) (by simpa using h)

/-- A box is read in every world in which other blocks may have turned. -/
theorem load_box_turned {w : World} {b : Nat} {cells : Array Value} {t ty : TypeId} {fr : Nat × Nat} {d : TypeDesc} (hb : w.heap[b]? = some (.cells cells t fr)) {T : Nat → Bool} (hT : T b = false)
    (hu : P.underlying ty = some d) (hd : d.isRow = true) (hi : (P.info? ty).map (·.size) = some cells.size) (k : Nat) (f : Nat → Obj) (os : Array Obj) :
    (Instr.loadAt ty (.pointer (some ⟨b, 0, none⟩))).run P (turned w T k f os) = .ok (.agg cells) (turned w T k f os) := by
  have h1 : (turned w T k f os).heap[b]? = some (.cells cells t fr) := ((chg_turned w T k f os).block b (block_lt hb) (by rw [hT]; simp)).trans hb
  have := run_loadAt_mid (P := P) (turned w T k f os) b 0 ty cells.toList d (by simpa using World.rangeAt_of_block h1 0 cells.size) hu hd (by simpa using hi)
  simpa using this

theorem load_box_run {w : World} {b : Nat} {cells : Array Value} {t ty : TypeId} {fr : Nat × Nat} {d : TypeDesc} (hb : w.heap[b]? = some (.cells cells t fr))
    (hu : P.underlying ty = some d) (hd : d.isRow = true) (hi : (P.info? ty).map (·.size) = some cells.size) :
    (Instr.loadAt ty (.pointer (some ⟨b, 0, none⟩))).run P w = .ok (.agg cells) w := by
  have := run_loadAt_mid (P := P) w b 0 ty cells.toList d (by simpa using World.rangeAt_of_block hb 0 cells.size) hu hd (by simpa using hi)
  simpa using this

/-- A load that yields the same in every world of the class, taken by its law. -/
theorem wpQuiet_load_box {ops : Array Oper} {C : World → Prop} {Q : Act → Prop} {o : Oper} {rest : List Oper} {a : Act} (hgd : o.guard = none) (ty : TypeId) (x : Operand) (ho : o.op = .load ty x) (p v : Value) (hx : a.eval x = p)
    (hl : ∀ w, C w → (Instr.loadAt ty p).run P w = .ok v w) (h : wpQuiet P ops C Q rest (a.put o.dst v)) : wpQuiet P ops C Q (o :: rest) a := by
  unfold wpQuiet
  rw [if_pos (by simp [Region.wanted, hgd])]
  refine ⟨v, fun w hw => ?_, h⟩
  unfold Oper.quietAt execOp
  simp only [ho, hx, Sem.run_bind, hl w hw, Result.andThen_ok, Sem.run_pure]
  exact ⟨rfl, rfl⟩

/-- A result that lies in a box, and one that does not. -/
theorem results_box_tmp {fn : Func} {p u : Tmp} {ty t : TypeId} {b : Nat} {cells : Array Value} {fr : Nat × Nat} {d : TypeDesc} (h : fn.results = #[.cell p ty, .tmp u]) (tmps : Array Value) (w : World)
    (hp : tmps.getD p undef = .pointer (some ⟨b, 0, none⟩)) (hb : w.heap[b]? = some (.cells cells t fr)) (hu : P.underlying ty = some d) (hd : d.isRow = true) (hi : (P.info? ty).map (·.size) = some cells.size) :
    (results fn tmps).run P w = .ok (.tuple #[.agg cells, tmps.getD u undef]) w := by
  rw [results_cell_tmp h, hp]
  have := run_loadVar_mid (P := P) w b 0 ty cells.toList d (by simpa using World.rangeAt_of_block hb 0 cells.size) hu hd (by simpa using hi)
  simp [asAddr, Result.andThen, this]

theorem results_box {fn : Func} {p : Tmp} {ty t : TypeId} {b : Nat} {cells : Array Value} {fr : Nat × Nat} {d : TypeDesc} (h : fn.results = #[.cell p ty]) (tmps : Array Value) (w : World)
    (hp : tmps.getD p undef = .pointer (some ⟨b, 0, none⟩)) (hb : w.heap[b]? = some (.cells cells t fr)) (hu : P.underlying ty = some d) (hd : d.isRow = true) (hi : (P.info? ty).map (·.size) = some cells.size) :
    (results fn tmps).run P w = .ok (.agg cells) w := by
  have := run_loadVar_mid (P := P) w b 0 ty cells.toList d (by simpa using World.rangeAt_of_block hb 0 cells.size) hu hd (by simpa using hi)
  have hp' : tmps[p]?.getD undef = .pointer (some ⟨b, 0, none⟩) := by simpa using hp
  simp only [results, h]
  simp [Sem.run_bind, Result.andThen, hp', asAddr, this]
end Go.Proofs.YtfablbhkmddnbaaDoor

/-! Rows of structs of any kind: what lies where. -/

namespace Go.Proofs.YtfablbhkmddnbaaDoor
open Go Go.RowKit Go.Sort Go.Lib
variable {α : Type} {enc : α → List Value} {s : Nat}

theorem enc_len (hs : ∀ x, (enc x).length = s) (l : List α) : (l.flatMap enc).length = l.length * s := by
  induction l with
  | nil => simp
  | cons q l ih => simp [ih, hs, Nat.succ_mul]; omega

theorem enc_at (hs : ∀ x, (enc x).length = s) (l : List α) (k : Nat) (p : α) (h : l[k]? = some p) (j : Nat) (u : Value) (hj : (enc p)[j]? = some u) : (l.flatMap enc)[k * s + j]? = some u := by
  induction l generalizing k with
  | nil => simp at h
  | cons q l ih =>
    cases k with
    | zero =>
      simp at h; subst h
      have hlt : j < (enc q).length := (List.getElem?_eq_some_iff.1 hj).1
      simp only [List.flatMap_cons, Nat.zero_mul, Nat.zero_add]
      rw [List.getElem?_append_left hlt]; exact hj
    | succ k =>
      have := ih k (by simpa using h)
      simp only [List.flatMap_cons]
      rw [List.getElem?_append_right (by rw [hs, Nat.succ_mul]; omega), hs, show (k + 1) * s + j - s = k * s + j by rw [Nat.succ_mul]; omega]
      exact this

/-- The cells of an element of a slice. -/
theorem enc_src (hs : ∀ x, (enc x).length = s) (h0 : 0 < s) {w : World} {a : Option Addr} {n c : Nat} {l : List α} (h : Src w s (.slice a n c) n (l.flatMap enc)) {k : Nat} (hk : k < n) :
    ∃ b off p, a = some ⟨b, off, none⟩ ∧ l[k]? = some p ∧ w.rangeAt b (off + k * s) (enc p) := by
  rcases h with ⟨_, h, _⟩ | ⟨ad, c', h, hl, h2, _⟩
  · omega
  · simp at h
    obtain ⟨rfl, rfl⟩ := h
    rw [enc_len hs] at hl
    have hkl : k < l.length := Nat.lt_of_mul_lt_mul_right (a := s) (by rw [hl]; exact Nat.mul_lt_mul_of_pos_right hk h0)
    have h0l : 0 < l.length := by omega
    obtain ⟨b, off, spot⟩ := ad
    obtain ⟨u0, hu0⟩ : ∃ u, (enc l[0])[0]? = some u := by
      have : 0 < (enc l[0]).length := by rw [hs]; exact h0
      exact ⟨_, List.getElem?_eq_getElem this⟩
    have hz := h2 0 u0 (by have := enc_at hs l 0 _ (List.getElem?_eq_getElem h0l) 0 u0 hu0; simpa using this)
    have hspot : spot = none := by simpa [Addr.add] using World.cell?_spot hz
    subst hspot
    refine ⟨b, off, l[k], rfl, List.getElem?_eq_getElem hkl, fun j u hj => ?_⟩
    have := h2 _ u (enc_at hs l k _ (List.getElem?_eq_getElem hkl) j u hj)
    rw [Go.WideShapes.add_plain] at this
    rw [Nat.add_assoc]; exact this

theorem enc_src_len (hs : ∀ x, (enc x).length = s) (h0 : 0 < s) {w : World} {v : Value} {n : Nat} {l : List α} (h : Src w s v n (l.flatMap enc)) : l.length = n := by
  rcases h with ⟨_, rfl, h⟩ | ⟨_, _, _, h, _⟩
  · have hz := enc_len hs l
    rw [h, List.length_nil] at hz
    rcases Nat.eq_zero_or_pos l.length with h1 | h1
    · exact h1
    · have := Nat.mul_pos h1 h0
      rw [← hz] at this
      exact absurd this (Nat.lt_irrefl 0)
  · rw [enc_len hs] at h; exact Nat.eq_of_mul_eq_mul_right h0 h

/-- A struct in a block of its own is a slice of one. -/
theorem enc_one {W : World} {b : Nat} {p : α} {cs : Array Value} {t : TypeId} {fr : Nat × Nat} (h : W.heap[b]? = some (.cells cs t fr)) (he : enc p = cs.toList) (hs : (enc p).length = s) (h1 : ∀ u ∈ enc p, u.oneCell' = true) :
    Src W s (.slice (some ⟨b, 0, none⟩) 1 1) 1 ([p].flatMap enc) := by
  refine .inr ⟨_, _, rfl, by simp [hs], fun j u hj => ?_, fun u hu => ?_⟩
  · rw [Go.WideShapes.add_plain, Nat.zero_add, cell_of_block h]
    simpa [he] using hj
  · simp at hu
    exact h1 u hu
end Go.Proofs.YtfablbhkmddnbaaDoor
