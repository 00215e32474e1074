/- Slices of points in memory; merge.rising and merge.Cut. -/
import Derived.Test.YtabnngcaohgppaaRow
import Derived.Test.YtabnngcaohgppaaPt
import Derived.Test.YtabnngcaohgppaaProg
import Derived.WalkKit
import Derived.WalkSpells
import Derived.BigQuiet
import Derived.Deep.QuietTactic
namespace Go.Proofs.Ytabnngcaohgppaa
open Go.RowKit Go.Sort Go.Lib

def Pt.cells (p : Pt) : List Value := [.int .i64 p.t, .int .i64 p.v, .int .i64 p.s]
def Pt.val (p : Pt) : Value := .agg #[.int .i64 p.t, .int .i64 p.v, .int .i64 p.s]
def pts (l : List Pt) : List Value := l.flatMap Pt.cells

theorem pts_len (l : List Pt) : (pts l).length = l.length * 3 := by
  induction l with
  | nil => rfl
  | cons p l ih => simp [pts, Pt.cells] at ih ⊢; omega

theorem pts_one (l : List Pt) : ∀ u ∈ pts l, u.oneCell' = true := by
  intro u hu
  simp only [pts, List.mem_flatMap, Pt.cells] at hu
  obtain ⟨p, _, hu⟩ := hu
  simp at hu
  rcases hu with rfl | rfl | rfl <;> rfl

theorem pts_append (a b : List Pt) : pts (a ++ b) = pts a ++ pts b := by simp [pts]

theorem pts_at (l : List Pt) (k : Nat) (p : Pt) (h : l[k]? = some p) : (pts l)[k * 3]? = some (.int .i64 p.t) ∧ (pts l)[k * 3 + 1]? = some (.int .i64 p.v) ∧ (pts l)[k * 3 + 2]? = some (.int .i64 p.s) := by
  induction l generalizing k with
  | nil => simp at h
  | cons q l ih =>
    cases k with
    | zero => simp at h; subst h; simp [pts, Pt.cells]
    | succ k =>
      have := ih k (by simpa using h)
      rw [show (k + 1) * 3 = k * 3 + 3 by omega]
      simpa [pts, Pt.cells] using this

/-- The cells of a point of a slice. -/
theorem pts_src {w : World} {a : Option Addr} {n c : Nat} {l : List Pt} (h : Src w 3 (.slice a n c) n (pts l)) {k : Nat} (hk : k < n) :
    ∃ b off p, a = some ⟨b, off, none⟩ ∧ l[k]? = some p ∧ w.cell? ⟨b, off + k * 3, none⟩ = some (.int .i64 p.t) ∧ w.cell? ⟨b, off + k * 3 + 1, none⟩ = some (.int .i64 p.v) ∧ w.cell? ⟨b, off + k * 3 + 2, none⟩ = some (.int .i64 p.s) := by
  rcases h with ⟨_, h, _⟩ | ⟨ad, c', h, hl, h2, _⟩
  · omega
  · simp at h
    obtain ⟨rfl, rfl⟩ := h
    rw [pts_len] at hl
    have hkl : k < l.length := by omega
    obtain ⟨e0, e1, e2⟩ := pts_at l k l[k] (List.getElem?_eq_getElem hkl)
    have c0 := h2 _ _ e0
    have c1 := h2 _ _ e1
    have c2 := h2 _ _ e2
    obtain ⟨b, off, spot⟩ := ad
    have hz := h2 0 _ (pts_at l 0 _ (List.getElem?_eq_getElem (show 0 < l.length by omega))).1
    have hspot : spot = none := by simpa [Addr.add] using World.cell?_spot hz
    subst hspot
    rw [Go.WideShapes.add_plain] at c0 c1 c2
    exact ⟨b, off, l[k], rfl, List.getElem?_eq_getElem hkl, c0, c1, c2⟩

theorem src_len {w : World} {v : Value} {n : Nat} {l : List Pt} (h : Src w 3 v n (pts l)) : l.length = n := by
  rcases h with ⟨_, rfl, h⟩ | ⟨_, _, _, h, _⟩
  · have := pts_len l; rw [h] at this; simp at this; omega
  · rw [pts_len] at h; omega

theorem src_tail {w : World} {b off n c : Nat} {l : List Pt} (h : Src w 3 (.slice (some ⟨b, off, none⟩) n c) n (pts l)) (hn : 0 < n) : Src w 3 (.slice (some ⟨b, off + 3, none⟩) (n - 1) (c - 1)) (n - 1) (pts l.tail) := by
  have hl := src_len h
  rcases h with ⟨_, h, _⟩ | ⟨ad, c', h, hl', h2, h1⟩
  · omega
  · simp at h
    obtain ⟨rfl, rfl⟩ := h
    refine .inr ⟨_, _, rfl, by rw [pts_len]; simp; omega, fun j u hj => ?_, pts_one _⟩
    cases l with
    | nil => simp at hl; omega
    | cons p l =>
      have := h2 (j + 3) u (by simpa [pts, Pt.cells] using hj)
      rw [Go.WideShapes.add_plain] at this ⊢
      rw [show off + 3 + j = off + (j + 3) by omega]; exact this
theorem row_src {w : World} {e : TypeId} {v : Value} {l : List Pt} (h : Row w e 3 v l.length (pts l)) : Src w 3 v l.length (pts l) := h.src (pts_one l)

/-! Appends, as an arm of the walk. -/
structure ElemOk (P : Program) (t e : TypeId) (size bytes : Nat) : Prop where
  und : P.underlying t = some (.slice e)
  info : ∃ i z, P.info? e = some i ∧ i.zero = some z ∧ i.size = size ∧ i.bytes = bytes ∧ z.cells.size = size
  pos : 0 < size

/-- What an append leaves. -/
structure Appended (w : World) (e : TypeId) (size : Nat) (v : Value) (k : Nat) (ys : List Value) (v' : Value) (w' : World) : Prop where
  row : Row w' e size v' k ys
  chg : Chg (fun k => v.ownBlock = some k) w w'
  loc : v'.ownBlock = v.ownBlock ∨ v'.ownBlock = some w.heap.size

theorem wpList_append_to {P : Program} {w : World} {ops : Array Oper} {rest : List Oper} {o : Oper} {a : Act} {Q : Exit → Act → World → Prop} {t e : TypeId} {size bytes : Nat} (E : ElemOk P t e size bytes) (hgd : o.guard = none) (s x : Operand)
    (ho : o.op = .call { callee := .builtin .append, args := #[s, x], argTypes := #[t, t] }) {v sv : Value} {n m : Nat} {xs news : List Value} (hs : a.eval s = v) (hx : a.eval x = sv)
    (hown : Row w e size v n xs) (hsrc : Src w size sv m news) (h63 : n + m ≤ maxLen) (hbytes : (n + m) * bytes ≤ 140737488355328)
    (h : ∀ v' w', Appended w e size v (n + m) (xs ++ news) v' w' → wpList P ops Q rest (a.put o.dst v') w') : wpList P ops Q (o :: rest) a w := by
  obtain ⟨i, z, hi, hz, h1, h2, h3⟩ := E.info
  obtain ⟨v', w', hr, r1, r2, r3⟩ := append_any (P := P) w t o.type e i z size bytes E.und hi hz h1 h2 h3 E.pos hown hsrc h63 hbytes
  exact wpList_append_run hgd s x t ho v sv v' w' hs hx hr (h v' w' ⟨r1, r2, r3⟩)

theorem Row.alloc {w : World} {e : TypeId} {size : Nat} {v : Value} {n : Nat} {xs : List Value} (h : Row w e size v n xs) (o : Obj) : Row (w.alloc o) e size v n xs := h.ext ((Ext.refl w).alloc o)

theorem src_new (w : World) (cs : Array Value) (t : TypeId) (size n : Nat) (fr : Nat × Nat) (hs : cs.size = n * size) (h1 : ∀ u ∈ cs.toList, u.oneCell' = true) : Src (w.alloc (.cells cs t fr)) size (.slice (some ⟨w.heap.size, 0, none⟩) n n) n cs.toList := by
  refine .inr ⟨_, _, rfl, by simpa using hs, fun j u hj => ?_, h1⟩
  rw [Go.WideShapes.add_plain, Nat.zero_add, cell_of_block (heap_alloc_new w _)]
  simpa using hj

theorem src_pt' {W : World} {b : Nat} {p : Pt} {t : TypeId} {fr : Nat × Nat} (h : W.heap[b]? = some (.cells #[.int .i64 p.t, .int .i64 p.v, .int .i64 p.s] t fr)) : Src W 3 (.slice (some ⟨b, 0, none⟩) 1 1) 1 (pts [p]) := by
  refine .inr ⟨_, _, rfl, rfl, fun j u hj => ?_, pts_one _⟩
  rw [Go.WideShapes.add_plain, Nat.zero_add, cell_of_block h]
  simpa [pts, Pt.cells] using hj
theorem heap_alloc2 (w : World) (o1 o2 : Obj) : ((w.alloc o1).alloc o2).heap[w.heap.size + 1]? = some o2 := by
  have := heap_alloc_new (w.alloc o1) o2; simpa using this

theorem elem_pt : ElemOk Try.prog 41 33 3 24 :=
  ⟨Try.underlying41, by
    obtain ⟨i0, hi, hz0, hz1, hz2⟩ := info_parts (show (Try.prog.info? 33).map (fun i => (i.zero, i.size, i.bytes)) = some (some (.agg #[.int .i64 0, .int .i64 0, .int .i64 0]), 3, 24) from by kernel_rfl)
    exact ⟨i0, _, hi, hz0, hz1, hz2, rfl⟩, by decide⟩
theorem src_pt (w : World) (p : Pt) (fr : Nat × Nat) : Src (w.alloc (.cells #[.int .i64 p.t, .int .i64 p.v, .int .i64 p.s] 33 fr)) 3 (.slice (some ⟨w.heap.size, 0, none⟩) 1 1) 1 (pts [p]) :=
  src_new w #[.int .i64 p.t, .int .i64 p.v, .int .i64 p.s] 33 3 1 fr rfl (pts_one [p])

set_option maxHeartbeats 2000000 in
theorem rising_any (w : World) (a : Option Addr) (n c : Nat) (l : List Pt) (hs : Src w 3 (.slice a n c) n (pts l)) (hn : n ≤ maxLen) :
    Calls Try.prog 37 #[.slice a n c] w fun e w' => e = .returned (.bool (risesB l)) ∧ Ext w w' := by
  have HS := Lib.hid hs
  have hlen := src_len hs; clear hs
  have hn' : n ≤ 9223372036854775807 := hn
  clear hn
  go_enter Try.func37, Try.ntmps37
  go_wp2_with fail
  go_loopw [7] (fun i wr => ∃ k : Nat, k ≤ n ∧ i = .int .i64 k ∧ Hid (Ext w wr) ∧ Hid (∀ (i : Nat) (p q : Pt), i + 1 < k → l[i]? = some p → l[i + 1]? = some q → p.t < q.t)) (fun i _ => n - (intOf i).toNat)
  case atStart => exact ⟨0, by omega, rfl, Lib.hid (Ext.refl _), Lib.hid (fun i p q h => by omega)⟩
  case round =>
    obtain ⟨k, hk, rfl, hx, I⟩ := hrel
    by_cases hlt : k < n
    · obtain ⟨b, off, p, rfl, hp, c0, c1, c2⟩ := pts_src (HS.out.ext hx.out) hlt
      have Hp := Lib.hid hp; clear hp
      have hb := World.block_lt_of_cell? _ _ c0
      rcases Nat.eq_zero_or_pos k with rfl | hk0
      · simp only [Nat.zero_mul, Nat.add_zero] at c0 c1 c2
        go_wp2_with fail
        generalize hW : World.alloc _ _ = W
        have HX : Hid (Ext wr W) := Lib.hid (by subst hW; exact (Ext.refl _).alloc _)
        have e0 : W.cell? ⟨wr.heap.size, 0, none⟩ = some (.int .i64 p.t) := by subst hW; simp [go_sem]
        clear hW c0 c1 c2
        go_quiet (fail)
        go_wp2_with fail
        go_roundw
        case rel => exact ⟨1, by omega, by go_num, Lib.hid ((hx.out.trans HX.out).trans (Ext.drewN _ _)), Lib.hid (fun i p q h => by omega)⟩
        case measure => simp [intOf]; omega
      · obtain ⟨j, rfl⟩ : ∃ j, k = j + 1 := ⟨k - 1, by omega⟩
        obtain ⟨b', off', p', hbb, hp', d0, d1, d2⟩ := pts_src (HS.out.ext hx.out) (show j < n by omega)
        have Hp' := Lib.hid hp'; clear hp'
        simp at hbb
        obtain ⟨rfl, rfl⟩ := hbb
        have hb' := World.block_lt_of_cell? _ _ d0
        go_wp2_with fail
        generalize hW : World.alloc _ _ = W
        have HX : Hid (Ext wr W) := Lib.hid (by subst hW; exact (Ext.refl _).alloc _)
        have e0 : W.cell? ⟨wr.heap.size, 0, none⟩ = some (.int .i64 p.t) := by subst hW; simp [go_sem]
        have e1 : W.cell? ⟨b, off + j * 3, none⟩ = some (.int .i64 p'.t) := (HX.out.cell (p := ⟨b, off + j * 3, none⟩) hb').trans d0
        clear hW c0 c1 c2 d0 d1 d2
        by_cases hle : p.t ≤ p'.t
        · have HF : Hid (risesB l = false) := Lib.hid (by
            rw [← Bool.not_eq_true, risesB_iff]
            intro h; have := h j p' p Hp'.out Hp.out; omega)
          go_quiet (fail)
          go_wp2_with fail
          go_ret
          rw [HF.out]
          exact ⟨rfl, (hx.out.trans HX.out).trans (Ext.drewN _ _)⟩
        · go_quiet (fail)
          go_wp2_with fail
          go_roundw
          case rel =>
            refine ⟨j + 1 + 1, by omega, by go_num, Lib.hid ((hx.out.trans HX.out).trans (Ext.drewN _ _)), Lib.hid (fun i x y h hx hy => ?_)⟩
            by_cases hij : i = j
            · subst hij
              rw [Hp'.out] at hx; rw [Hp.out] at hy
              cases hx; cases hy; omega
            · exact I.out i x y (by omega) hx hy
          case measure => simp [intOf]; omega
    · have HF : Hid (risesB l = true) := Lib.hid (by
        rw [risesB_iff]
        intro i p q hp hq
        exact I.out i p q (by have := (List.getElem?_eq_some_iff.1 hq).1; omega) hp hq)
      go_wp2_with fail
      go_ret
      rw [HF.out]
      exact ⟨rfl, hx.out⟩

end Go.Proofs.Ytabnngcaohgppaa
