/- Slices of three ints each in memory (points, and their like); appends as an arm of the walk. -/
import Derived.Test.YtfndeocebpoeeaaDoorRow
import Derived.Test.YtfndeocebpoeeaaDoorPt
import Derived.Test.YtfndeocebpoeeaaDoorProg
import Derived.WalkKit
import Derived.WalkSpells
import Derived.BigQuiet
import Derived.Deep.QuietTactic
namespace Go.Proofs.YtfndeocebpoeeaaDoor
open Go.RowKit Go.Sort Go.Lib

def Pt.cells (p : Pt) : List Value := [.int .i64 p.t, .int .i64 p.v, .int .i64 p.s]
def Pt.val (p : Pt) : Value := .agg #[.int .i64 p.t, .int .i64 p.v, .int .i64 p.s]
def pts (l : List Pt) : List Value := l.flatMap Pt.cells

theorem pts_len (l : List Pt) : (pts l).length = l.length * 3 := by
  induction l with
  | nil => rfl
  | cons p l ih => simp [pts, Pt.cells] at ih ⊢; omega

theorem pts_one (l : List Pt) : ∀ u ∈ pts l, u.oneCell' = true := by
  intro u hu
  simp only [pts, List.mem_flatMap, Pt.cells] at hu
  obtain ⟨p, _, hu⟩ := hu
  simp at hu
  rcases hu with rfl | rfl | rfl <;> rfl

theorem pts_append (a b : List Pt) : pts (a ++ b) = pts a ++ pts b := by simp [pts]

theorem pts_at (l : List Pt) (k : Nat) (p : Pt) (h : l[k]? = some p) : (pts l)[k * 3]? = some (.int .i64 p.t) ∧ (pts l)[k * 3 + 1]? = some (.int .i64 p.v) ∧ (pts l)[k * 3 + 2]? = some (.int .i64 p.s) := by
  induction l generalizing k with
  | nil => simp at h
  | cons q l ih =>
    cases k with
    | zero => simp at h; subst h; simp [pts, Pt.cells]
    | succ k =>
      have := ih k (by simpa using h)
      rw [show (k + 1) * 3 = k * 3 + 3 by omega]
      simpa [pts, Pt.cells] using this

/-- The cells of a point of a slice. -/
theorem pts_src {w : World} {a : Option Addr} {n c : Nat} {l : List Pt} (h : Src w 3 (.slice a n c) n (pts l)) {k : Nat} (hk : k < n) :
    ∃ b off p, a = some ⟨b, off, none⟩ ∧ l[k]? = some p ∧ w.cell? ⟨b, off + k * 3, none⟩ = some (.int .i64 p.t) ∧ w.cell? ⟨b, off + k * 3 + 1, none⟩ = some (.int .i64 p.v) ∧ w.cell? ⟨b, off + k * 3 + 2, none⟩ = some (.int .i64 p.s) := by
  rcases h with ⟨_, h, _⟩ | ⟨ad, c', h, hl, h2, _⟩
  · omega
  · simp at h
    obtain ⟨rfl, rfl⟩ := h
    rw [pts_len] at hl
    have hkl : k < l.length := by omega
    obtain ⟨e0, e1, e2⟩ := pts_at l k l[k] (List.getElem?_eq_getElem hkl)
    have c0 := h2 _ _ e0
    have c1 := h2 _ _ e1
    have c2 := h2 _ _ e2
    obtain ⟨b, off, spot⟩ := ad
    have hz := h2 0 _ (pts_at l 0 _ (List.getElem?_eq_getElem (show 0 < l.length by omega))).1
    have hspot : spot = none := by simpa [Addr.add] using World.cell?_spot hz
    subst hspot
    rw [Go.WideShapes.add_plain] at c0 c1 c2
    exact ⟨b, off, l[k], rfl, List.getElem?_eq_getElem hkl, c0, c1, c2⟩

theorem src_len {w : World} {v : Value} {n : Nat} {l : List Pt} (h : Src w 3 v n (pts l)) : l.length = n := by
  rcases h with ⟨_, rfl, h⟩ | ⟨_, _, _, h, _⟩
  · have := pts_len l; rw [h] at this; simp at this; omega
  · rw [pts_len] at h; omega

theorem src_tail {w : World} {b off n c : Nat} {l : List Pt} (h : Src w 3 (.slice (some ⟨b, off, none⟩) n c) n (pts l)) (hn : 0 < n) : Src w 3 (.slice (some ⟨b, off + 3, none⟩) (n - 1) (c - 1)) (n - 1) (pts l.tail) := by
  have hl := src_len h
  rcases h with ⟨_, h, _⟩ | ⟨ad, c', h, hl', h2, h1⟩
  · omega
  · simp at h
    obtain ⟨rfl, rfl⟩ := h
    refine .inr ⟨_, _, rfl, by rw [pts_len]; simp; omega, fun j u hj => ?_, pts_one _⟩
    cases l with
    | nil => simp at hl; omega
    | cons p l =>
      have := h2 (j + 3) u (by simpa [pts, Pt.cells] using hj)
      rw [Go.WideShapes.add_plain] at this ⊢
      rw [show off + 3 + j = off + (j + 3) by omega]; exact this
theorem row_src {w : World} {e : TypeId} {v : Value} {l : List Pt} (h : Row w e 3 v l.length (pts l)) : Src w 3 v l.length (pts l) := h.src (pts_one l)

/-! Appends, as an arm of the walk. -/
structure ElemOk (P : Program) (t e : TypeId) (size bytes : Nat) : Prop where
  und : P.underlying t = some (.slice e)
  info : ∃ i z, P.info? e = some i ∧ i.zero = some z ∧ i.size = size ∧ i.bytes = bytes ∧ z.cells.size = size
  pos : 0 < size

/-- What an append leaves. -/
structure Appended (w : World) (e : TypeId) (size : Nat) (v : Value) (k : Nat) (ys : List Value) (v' : Value) (w' : World) : Prop where
  row : Row w' e size v' k ys
  chg : Chg (fun k => v.ownBlock = some k) w w'
  loc : v'.ownBlock = v.ownBlock ∨ v'.ownBlock = some w.heap.size

theorem wpList_append_to {P : Program} {w : World} {ops : Array Oper} {rest : List Oper} {o : Oper} {a : Act} {Q : Exit → Act → World → Prop} {t e : TypeId} {size bytes : Nat} (E : ElemOk P t e size bytes) (hgd : o.guard = none) (s x : Operand)
    (ho : o.op = .call { callee := .builtin .append, args := #[s, x], argTypes := #[t, t] }) {v sv : Value} {n m : Nat} {xs news : List Value} (hs : a.eval s = v) (hx : a.eval x = sv)
    (hown : Row w e size v n xs) (hsrc : Src w size sv m news) (h63 : n + m ≤ maxLen) (hbytes : (n + m) * bytes ≤ 140737488355328)
    (h : ∀ v' w', Appended w e size v (n + m) (xs ++ news) v' w' → wpList P ops Q rest (a.put o.dst v') w') : wpList P ops Q (o :: rest) a w := by
  obtain ⟨i, z, hi, hz, h1, h2, h3⟩ := E.info
  obtain ⟨v', w', hr, r1, r2, r3⟩ := append_any (P := P) w t o.type e i z size bytes E.und hi hz h1 h2 h3 E.pos hown hsrc h63 hbytes
  exact wpList_append_run hgd s x t ho v sv v' w' hs hx hr (h v' w' ⟨r1, r2, r3⟩)

theorem Row.alloc {w : World} {e : TypeId} {size : Nat} {v : Value} {n : Nat} {xs : List Value} (h : Row w e size v n xs) (o : Obj) : Row (w.alloc o) e size v n xs := h.ext ((Ext.refl w).alloc o)

theorem src_new (w : World) (cs : Array Value) (t : TypeId) (size n : Nat) (fr : Nat × Nat) (hs : cs.size = n * size) (h1 : ∀ u ∈ cs.toList, u.oneCell' = true) : Src (w.alloc (.cells cs t fr)) size (.slice (some ⟨w.heap.size, 0, none⟩) n n) n cs.toList := by
  refine .inr ⟨_, _, rfl, by simpa using hs, fun j u hj => ?_, h1⟩
  rw [Go.WideShapes.add_plain, Nat.zero_add, cell_of_block (heap_alloc_new w _)]
  simpa using hj

theorem src_pt' {W : World} {b : Nat} {p : Pt} {t : TypeId} {fr : Nat × Nat} (h : W.heap[b]? = some (.cells #[.int .i64 p.t, .int .i64 p.v, .int .i64 p.s] t fr)) : Src W 3 (.slice (some ⟨b, 0, none⟩) 1 1) 1 (pts [p]) := by
  refine .inr ⟨_, _, rfl, rfl, fun j u hj => ?_, pts_one _⟩
  rw [Go.WideShapes.add_plain, Nat.zero_add, cell_of_block h]
  simpa [pts, Pt.cells] using hj
theorem heap_alloc2 (w : World) (o1 o2 : Obj) : ((w.alloc o1).alloc o2).heap[w.heap.size + 1]? = some o2 := by
  have := heap_alloc_new (w.alloc o1) o2; simpa using this

end Go.Proofs.YtfndeocebpoeeaaDoor
