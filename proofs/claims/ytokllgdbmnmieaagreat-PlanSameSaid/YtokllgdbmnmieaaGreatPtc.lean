/- Slices of three ints each in memory (points, and their like); appends as an arm of the walk. -/
import Derived.Test.YtokllgdbmnmieaaGreatU8
import Derived.Test.YtokllgdbmnmieaaGreatPt
import Derived.Test.YtokllgdbmnmieaaGreatProg
import Derived.WalkKit
import Derived.WalkSpells
import Derived.BigQuiet
import Derived.Deep.QuietTactic
import Derived.Test.YtokllgdbmnmieaaGreatGpp
import Derived.Laws.Externs
import Derived.Lib.QuietBelow
import Derived.Test.YtokllgdbmnmieaaGreatWin
import Derived.Test.YtokllgdbmnmieaaGreatRfv
import Derived.Laws.StructEq
namespace Go.Proofs.YtokllgdbmnmieaaGreat
open Go.RowKit Go.Sort Go.Lib

def Pt.cells (p : Pt) : List Value := [.int .i64 p.t, .int .i64 p.v, .int .i64 p.s]
def Pt.val (p : Pt) : Value := .agg #[.int .i64 p.t, .int .i64 p.v, .int .i64 p.s]
def pts (l : List Pt) : List Value := l.flatMap Pt.cells

theorem pts_len (l : List Pt) : (pts l).length = l.length * 3 := by
  induction l with
  | nil => rfl
  | cons p l ih => simp [pts, Pt.cells] at ih ⊢; omega

theorem pts_one (l : List Pt) : ∀ u ∈ pts l, u.oneCell' = true := by
  intro u hu
  simp only [pts, List.mem_flatMap, Pt.cells] at hu
  obtain ⟨p, _, hu⟩ := hu
  simp at hu
  rcases hu with rfl | rfl | rfl <;> rfl

theorem pts_append (a b : List Pt) : pts (a ++ b) = pts a ++ pts b := by simp [pts]

theorem pts_at (l : List Pt) (k : Nat) (p : Pt) (h : l[k]? = some p) : (pts l)[k * 3]? = some (.int .i64 p.t) ∧ (pts l)[k * 3 + 1]? = some (.int .i64 p.v) ∧ (pts l)[k * 3 + 2]? = some (.int .i64 p.s) := by
  induction l generalizing k with
  | nil => simp at h
  | cons q l ih =>
    cases k with
    | zero => simp at h; subst h; simp [pts, Pt.cells]
    | succ k =>
      have := ih k (by simpa using h)
      rw [show (k + 1) * 3 = k * 3 + 3 by omega]
      simpa [pts, Pt.cells] using this

/-- The cells of a point of a slice. -/
theorem pts_src {w : World} {a : Option Addr} {n c : Nat} {l : List Pt} (h : Src w 3 (.slice a n c) n (pts l)) {k : Nat} (hk : k < n) :
    ∃ b off p, a = some ⟨b, off, none⟩ ∧ l[k]? = some p ∧ w.cell? ⟨b, off + k * 3, none⟩ = some (.int .i64 p.t) ∧ w.cell? ⟨b, off + k * 3 + 1, none⟩ = some (.int .i64 p.v) ∧ w.cell? ⟨b, off + k * 3 + 2, none⟩ = some (.int .i64 p.s) := by
  rcases h with ⟨_, h, _⟩ | ⟨ad, c', h, hl, h2, _⟩
  · omega
  · simp at h
    obtain ⟨rfl, rfl⟩ := h
    rw [pts_len] at hl
    have hkl : k < l.length := by omega
    obtain ⟨e0, e1, e2⟩ := pts_at l k l[k] (List.getElem?_eq_getElem hkl)
    have c0 := h2 _ _ e0
    have c1 := h2 _ _ e1
    have c2 := h2 _ _ e2
    obtain ⟨b, off, spot⟩ := ad
    have hz := h2 0 _ (pts_at l 0 _ (List.getElem?_eq_getElem (show 0 < l.length by omega))).1
    have hspot : spot = none := by simpa [Addr.add] using World.cell?_spot hz
    subst hspot
    rw [Go.WideShapes.add_plain] at c0 c1 c2
    exact ⟨b, off, l[k], rfl, List.getElem?_eq_getElem hkl, c0, c1, c2⟩

theorem src_len {w : World} {v : Value} {n : Nat} {l : List Pt} (h : Src w 3 v n (pts l)) : l.length = n := by
  rcases h with ⟨_, rfl, h⟩ | ⟨_, _, _, h, _⟩
  · have := pts_len l; rw [h] at this; simp at this; omega
  · rw [pts_len] at h; omega

theorem src_tail {w : World} {b off n c : Nat} {l : List Pt} (h : Src w 3 (.slice (some ⟨b, off, none⟩) n c) n (pts l)) (hn : 0 < n) : Src w 3 (.slice (some ⟨b, off + 3, none⟩) (n - 1) (c - 1)) (n - 1) (pts l.tail) := by
  have hl := src_len h
  rcases h with ⟨_, h, _⟩ | ⟨ad, c', h, hl', h2, h1⟩
  · omega
  · simp at h
    obtain ⟨rfl, rfl⟩ := h
    refine .inr ⟨_, _, rfl, by rw [pts_len]; simp; omega, fun j u hj => ?_, pts_one _⟩
    cases l with
    | nil => simp at hl; omega
    | cons p l =>
      have := h2 (j + 3) u (by simpa [pts, Pt.cells] using hj)
      rw [Go.WideShapes.add_plain] at this ⊢
      rw [show off + 3 + j = off + (j + 3) by omega]; exact this
theorem row_src {w : World} {e : TypeId} {v : Value} {l : List Pt} (h : Row w e 3 v l.length (pts l)) : Src w 3 v l.length (pts l) := h.src (pts_one l)

/-! Appends, as an arm of the walk. -/
structure ElemOk (P : Program) (t e : TypeId) (size bytes : Nat) : Prop where
  und : P.underlying t = some (.slice e)
  info : ∃ i z, P.info? e = some i ∧ i.zero = some z ∧ i.size = size ∧ i.bytes = bytes ∧ z.cells.size = size
  pos : 0 < size

/-- What an append leaves. -/
structure Appended (w : World) (e : TypeId) (size : Nat) (v : Value) (k : Nat) (ys : List Value) (v' : Value) (w' : World) : Prop where
  row : Row w' e size v' k ys
  chg : Chg (fun k => v.ownBlock = some k) w w'
  loc : v'.ownBlock = v.ownBlock ∨ v'.ownBlock = some w.heap.size

theorem wpList_append_to {P : Program} {w : World} {ops : Array Oper} {rest : List Oper} {o : Oper} {a : Act} {Q : Exit → Act → World → Prop} {t e : TypeId} {size bytes : Nat} (E : ElemOk P t e size bytes) (hgd : o.guard = none) (s x : Operand)
    (ho : o.op = .call { callee := .builtin .append, args := #[s, x], argTypes := #[t, t] }) {v sv : Value} {n m : Nat} {xs news : List Value} (hs : a.eval s = v) (hx : a.eval x = sv)
    (hown : Row w e size v n xs) (hsrc : Src w size sv m news) (h63 : n + m ≤ maxLen) (hbytes : (n + m) * bytes ≤ 140737488355328)
    (h : ∀ v' w', Appended w e size v (n + m) (xs ++ news) v' w' → wpList P ops Q rest (a.put o.dst v') w') : wpList P ops Q (o :: rest) a w := by
  obtain ⟨i, z, hi, hz, h1, h2, h3⟩ := E.info
  obtain ⟨v', w', hr, r1, r2, r3⟩ := append_any (P := P) w t o.type e i z size bytes E.und hi hz h1 h2 h3 E.pos hown hsrc h63 hbytes
  exact wpList_append_run hgd s x t ho v sv v' w' hs hx hr (h v' w' ⟨r1, r2, r3⟩)

theorem Row.alloc {w : World} {e : TypeId} {size : Nat} {v : Value} {n : Nat} {xs : List Value} (h : Row w e size v n xs) (o : Obj) : Row (w.alloc o) e size v n xs := h.ext ((Ext.refl w).alloc o)

theorem src_new (w : World) (cs : Array Value) (t : TypeId) (size n : Nat) (fr : Nat × Nat) (hs : cs.size = n * size) (h1 : ∀ u ∈ cs.toList, u.oneCell' = true) : Src (w.alloc (.cells cs t fr)) size (.slice (some ⟨w.heap.size, 0, none⟩) n n) n cs.toList := by
  refine .inr ⟨_, _, rfl, by simpa using hs, fun j u hj => ?_, h1⟩
  rw [Go.WideShapes.add_plain, Nat.zero_add, cell_of_block (heap_alloc_new w _)]
  simpa using hj

theorem src_pt' {W : World} {b : Nat} {p : Pt} {t : TypeId} {fr : Nat × Nat} (h : W.heap[b]? = some (.cells #[.int .i64 p.t, .int .i64 p.v, .int .i64 p.s] t fr)) : Src W 3 (.slice (some ⟨b, 0, none⟩) 1 1) 1 (pts [p]) := by
  refine .inr ⟨_, _, rfl, rfl, fun j u hj => ?_, pts_one _⟩
  rw [Go.WideShapes.add_plain, Nat.zero_add, cell_of_block h]
  simpa [pts, Pt.cells] using hj
theorem heap_alloc2 (w : World) (o1 o2 : Obj) : ((w.alloc o1).alloc o2).heap[w.heap.size + 1]? = some o2 := by
  have := heap_alloc_new (w.alloc o1) o2; simpa using this

end Go.Proofs.YtokllgdbmnmieaaGreat

/-! wide: plus, below: sums as whole numbers. -/

namespace Go.Proofs.YtokllgdbmnmieaaGreat
open Go.RowKit Go.Lib Go.Sort

abbrev M64 : Int := 18446744073709551616
/-- A sum as a value, its two cells. -/
def sumV (s : Int) : Value := .agg #[.int .i64 (s / 18446744073709551616), .int .u64 (s % 18446744073709551616)]
def sumOk (s : Int) : Prop := -170141183460469231731687303715884105728 ≤ s ∧ s < 170141183460469231731687303715884105728

theorem heap_alloc3 (w : World) (o1 o2 o3 : Obj) : (((w.alloc o1).alloc o2).alloc o3).heap[w.heap.size + 1 + 1]? = some o3 := by
  have := heap_alloc_new ((w.alloc o1).alloc o2) o3
  simpa using this
theorem add64_run (x y c : Int) (hx : 0 ≤ x) (hy : 0 ≤ y) (c0 : 0 ≤ c) (c1 : c ≤ 1) (w : World) :
    (callFunc 108 #[.int .u64 x, .int .u64 y, .int .u64 c]).run Tryz.prog w = .ok (.value (.tuple #[.int .u64 ((x + y + c) % 18446744073709551616), .int .u64 ((x + y + c) / 18446744073709551616)])) w := by
  rw [run_callFunc_extern Tryz.func108 (by kernel_rfl) (by kernel_rfl) (by kernel_rfl) (e := add64Entry) (by kernel_rfl), run_add64 x y c hx hy c0 c1]
  rfl
theorem add64_run0 (x y : Int) (hx : 0 ≤ x) (hy : 0 ≤ y) (w : World) :
    (callFunc 108 #[.int .u64 x, .int .u64 y, .int .u64 0]).run Tryz.prog w = .ok (.value (.tuple #[.int .u64 ((x + y) % 18446744073709551616), .int .u64 ((x + y) / 18446744073709551616)])) w := by
  have := add64_run x y 0 hx hy (Int.le_refl 0) (by decide) w
  simpa using this

set_option maxHeartbeats 1000000 in
theorem below_any (hi lo : Int) (w : World) :
    Calls Tryz.prog 81 #[.agg #[.int .i64 hi, .int .u64 lo]] w fun e w' => e = .returned (.bool (decide (hi < 0))) ∧ Ext w w' := by
  go_enter Tryz.func81, Tryz.ntmps81
  go_wp2_with fail
  go_ret
  exact ⟨rfl, (Ext.refl w).alloc _⟩

set_option maxHeartbeats 1000000 in
set_option maxRecDepth 100000 in
theorem plus_any (ah al bh bl : Int) (w : World) (a0 : 0 ≤ al) (a1 : al < 18446744073709551616) (b0 : 0 ≤ bl) (b1 : bl < 18446744073709551616) 
    (c0 : -9223372036854775808 ≤ ah) (c1 : ah ≤ 9223372036854775807) (d0 : -9223372036854775808 ≤ bh) (d1 : bh ≤ 9223372036854775807) (hfit : sumOk ((ah + bh) * 18446744073709551616 + al + bl)) :
    Calls Tryz.prog 83 #[.agg #[.int .i64 ah, .int .u64 al], .agg #[.int .i64 bh, .int .u64 bl]] w fun e w' => e = .returned (sumV ((ah + bh) * 18446744073709551616 + al + bl)) ∧ Ext w w' := by
  go_enter Tryz.func83, Tryz.ntmps83
  have HFIT := Lib.hid hfit
  clear hfit
  obtain ⟨c, hc⟩ : ∃ c, c = (al + bl) / 18446744073709551616 := ⟨_, rfl⟩
  have k0 : 0 ≤ c := by omega
  have k1 : c ≤ 1 := by omega
  obtain ⟨ua, hua⟩ : ∃ ua, ua = IntKind.u64.wrap ah := ⟨_, rfl⟩
  obtain ⟨ub, hub⟩ : ∃ ub, ub = IntKind.u64.wrap bh := ⟨_, rfl⟩
  have va : 0 ≤ ua := by rw [hua, IntKind.wrap_u64]; omega
  have vb : 0 ≤ ub := by rw [hub, IntKind.wrap_u64]; omega
  have q1 := add64_run ua ub c va vb k0 k1
  rw [hua, hub, hc] at q1
  have q0 := add64_run0 al bl a0 b0
  have HC := Lib.hid hc
  have HUA := Lib.hid hua
  have HUB := Lib.hid hub
  clear hc hua hub
  go_wp2_with (first | simp only [q0] | simp only [q1])
  refine bodyPost_ret (v := .agg #[.int .i64 (wrap64 ((IntKind.u64.wrap ah + IntKind.u64.wrap bh + (al + bl) / 18446744073709551616) % 18446744073709551616)), .int .u64 ((al + bl) % 18446744073709551616)]) (by simp [results, Tryz.results83, go_sem]) rfl ⟨?_, (((Ext.refl w).alloc _).alloc _).alloc _⟩
  unfold sumV
  have e2 : (al + bl) % 18446744073709551616 = ((ah + bh) * 18446744073709551616 + al + bl) % 18446744073709551616 := by omega
  have e1 : wrap64 ((IntKind.u64.wrap ah + IntKind.u64.wrap bh + (al + bl) / 18446744073709551616) % 18446744073709551616) = ((ah + bh) * 18446744073709551616 + al + bl) / 18446744073709551616 := by
    have hf := HFIT.out
    unfold sumOk at hf
    rw [IntKind.wrap_u64, IntKind.wrap_u64]
    unfold wrap64
    omega
  rw [e1, ← e2]

theorem sum_parts {s : Int} (h : sumOk s) : -9223372036854775808 ≤ s / 18446744073709551616 ∧ s / 18446744073709551616 ≤ 9223372036854775807 ∧ 0 ≤ s % 18446744073709551616 ∧ s % 18446744073709551616 < 18446744073709551616 := by
  unfold sumOk at h
  omega

/-- What plus tells of whole numbers. -/
theorem plus_sum (a b : Int) (w : World) (ha : sumOk a) (hb : sumOk b) (hs : sumOk (a + b)) :
    Calls Tryz.prog 83 #[sumV a, sumV b] w fun e w' => e = .returned (sumV (a + b)) ∧ Ext w w' := by
  have h1 := sum_parts ha
  have h2 := sum_parts hb
  have e : (a / 18446744073709551616 + b / 18446744073709551616) * 18446744073709551616 + a % 18446744073709551616 + b % 18446744073709551616 = a + b := by omega
  have := plus_any (a / 18446744073709551616) (a % 18446744073709551616) (b / 18446744073709551616) (b % 18446744073709551616) w h1.2.2.1 h1.2.2.2 h2.2.2.1 h2.2.2.2 h1.1 h1.2.1 h2.1 h2.2.1 (by rw [e]; exact hs)
  rw [e] at this
  exact this

end Go.Proofs.YtokllgdbmnmieaaGreat

/-! wide: Of, Add. -/

namespace Go.Proofs.YtokllgdbmnmieaaGreat
open Go.RowKit Go.Lib Go.Sort

set_option maxHeartbeats 1000000 in
theorem wideOf_any (n : Int) (w : World) (h1 : -9223372036854775808 ≤ n) (h2 : n ≤ 9223372036854775807) :
    Calls Tryz.prog 38 #[.int .i64 n] w fun e w' => e = .returned (sumV n) ∧ Ext w w' := by
  go_enter Tryz.func38, Tryz.ntmps38
  go_wp2_with fail
  refine bodyPost_ret (v := .agg #[.int .i64 (n / 9223372036854775808), .int .u64 (IntKind.u64.wrap n)]) (by simp [results, Tryz.results38, go_sem]) rfl ⟨?_, (Ext.refl w).alloc _⟩
  unfold sumV
  have e1 : n / 9223372036854775808 = n / 18446744073709551616 := by omega
  have e2 : IntKind.u64.wrap n = n % 18446744073709551616 := by rw [IntKind.wrap_u64]
  rw [e1, e2]

set_option maxHeartbeats 2000000 in
set_option maxRecDepth 100000 in
theorem wideAdd_ok (a b : Int) (w : World) (ha : sumOk a) (hb : sumOk b) (hs : sumOk (a + b)) :
    Calls Tryz.prog 90 #[sumV a, sumV b] w fun e w' => e = .returned (.tuple #[sumV (a + b), .bool true]) ∧ Ext w w' := by
  have HP := Lib.hid (fun W => plus_sum a b W ha hb hs)
  have HA := Lib.hid ha
  have HB := Lib.hid hb
  have HS := Lib.hid hs
  clear ha hb hs
  unfold sumV at HP ⊢
  obtain ⟨ah, hah⟩ : ∃ x, x = a / 18446744073709551616 := ⟨_, rfl⟩
  obtain ⟨al, hal⟩ : ∃ x, x = a % 18446744073709551616 := ⟨_, rfl⟩
  obtain ⟨bh, hbh⟩ : ∃ x, x = b / 18446744073709551616 := ⟨_, rfl⟩
  obtain ⟨bl, hbl⟩ : ∃ x, x = b % 18446744073709551616 := ⟨_, rfl⟩
  obtain ⟨sh, hsh⟩ : ∃ x, x = (a + b) / 18446744073709551616 := ⟨_, rfl⟩
  obtain ⟨sl, hsl⟩ : ∃ x, x = (a + b) % 18446744073709551616 := ⟨_, rfl⟩
  rw [← hah, ← hal, ← hbh, ← hbl, ← hsh, ← hsl] at HP
  rw [← hah, ← hal, ← hbh, ← hbl, ← hsh, ← hsl]
  have HE := Lib.hid (And.intro hah (And.intro hbh hsh))
  clear hah hal hbh hbl hsh hsl
  go_enter Tryz.func90, Tryz.ntmps90
  go_wp2_with fail
  refine (HP.out _).mono ?_
  rintro e w1 ⟨rfl, hx1⟩
  have HX1 := Lib.hid hx1
  clear hx1
  go_wp2_with fail
  generalize hW : World.alloc _ _ = W
  have b0 : W.heap[w.heap.size]? = some (.cells #[.int .i64 ah, .int .u64 al] 73 (0, 0)) := by
    subst hW
    have h0 := heap_alloc_new w (.cells #[.int .i64 ah, .int .u64 al] 73 (0, 0))
    have h1 := (((Ext.refl _).alloc _).alloc _).trans (HX1.out.alloc (.cells #[.int .i64 sh, .int .u64 sl] 73 (0, 0)))
    exact (h1.block (block_lt h0)).trans h0
  have b1 : W.heap[w.heap.size + 1]? = some (.cells #[.int .i64 bh, .int .u64 bl] 73 (0, 0)) := by
    subst hW
    have h0 := heap_alloc2 w (.cells #[.int .i64 ah, .int .u64 al] 73 (0, 0)) (.cells #[.int .i64 bh, .int .u64 bl] 73 (0, 0))
    have h1 := ((Ext.refl _).alloc _).trans (HX1.out.alloc (.cells #[.int .i64 sh, .int .u64 sl] 73 (0, 0)))
    exact (h1.block (block_lt h0)).trans h0
  have b2 : W.heap[w1.heap.size]? = some (.cells #[.int .i64 sh, .int .u64 sl] 73 (0, 0)) := by
    subst hW
    exact heap_alloc_new w1 _
  have b3 : W.heap[w.heap.size + 1 + 1]? = some (.cells #[.int .i64 0, .int .u64 0] 73 (0, 0)) := by
    subst hW
    have h0 := heap_alloc3 w (.cells #[.int .i64 ah, .int .u64 al] 73 (0, 0)) (.cells #[.int .i64 bh, .int .u64 bl] 73 (0, 0)) (.cells #[.int .i64 0, .int .u64 0] 73 (0, 0))
    have h1 := HX1.out.alloc (.cells #[.int .i64 sh, .int .u64 sl] 73 (0, 0))
    exact (h1.block (block_lt h0)).trans h0
  have HXW : Hid (Ext w W) := Lib.hid (by subst hW; exact (((((Ext.refl w).alloc _).alloc _).alloc _).trans HX1.out).alloc _)
  clear hW HX1 HP
  have r0 := cell_regrown (show W.cell? ⟨w.heap.size, 0, none⟩ = some (.int .i64 ah) by have := cell_of_block b0 0; simpa using this)
  have r1 := cell_regrown (show W.cell? ⟨w.heap.size, 1, none⟩ = some (.int .u64 al) by have := cell_of_block b0 1; simpa using this)
  have r2 := cell_regrown (show W.cell? ⟨w.heap.size + 1, 0, none⟩ = some (.int .i64 bh) by have := cell_of_block b1 0; simpa using this)
  have r3 := cell_regrown (show W.cell? ⟨w.heap.size + 1, 1, none⟩ = some (.int .u64 bl) by have := cell_of_block b1 1; simpa using this)
  have r4 := cell_regrown (show W.cell? ⟨w1.heap.size, 0, none⟩ = some (.int .i64 sh) by have := cell_of_block b2 0; simpa using this)
  have r5 := cell_regrown (show W.cell? ⟨w1.heap.size, 1, none⟩ = some (.int .u64 sl) by have := cell_of_block b2 1; simpa using this)
  obtain ⟨pa, hpa⟩ : ∃ x, x = decide (ah < 0) := ⟨_, rfl⟩
  obtain ⟨pb, hpb⟩ : ∃ x, x = decide (bh < 0) := ⟨_, rfl⟩
  obtain ⟨ps, hps⟩ : ∃ x, x = decide (sh < 0) := ⟨_, rfl⟩
  have HCa : Hid (∀ (d : Nat) (os : Array Obj), Calls Tryz.prog 81 #[.agg #[.int .i64 ah, .int .u64 al]] (grow (redrawn W d) os) fun e w'' => e = .returned (.bool pa) ∧ ∃ p : Regrown, w'' = grow (redrawn W p.d) p.os) := Lib.hid (fun d os => Calls.grown_of (by rw [hpa]; exact below_any ah al _))
  have HCb : Hid (∀ (d : Nat) (os : Array Obj), Calls Tryz.prog 81 #[.agg #[.int .i64 bh, .int .u64 bl]] (grow (redrawn W d) os) fun e w'' => e = .returned (.bool pb) ∧ ∃ p : Regrown, w'' = grow (redrawn W p.d) p.os) := Lib.hid (fun d os => Calls.grown_of (by rw [hpb]; exact below_any bh bl _))
  have HCs : Hid (∀ (d : Nat) (os : Array Obj), Calls Tryz.prog 81 #[.agg #[.int .i64 sh, .int .u64 sl]] (grow (redrawn W d) os) fun e w'' => e = .returned (.bool ps) ∧ ∃ p : Regrown, w'' = grow (redrawn W p.d) p.os) := Lib.hid (fun d os => Calls.grown_of (by rw [hps]; exact below_any sh sl _))
  have HBB := Lib.hid (And.intro b2 b3)
  have HPP : Hid (pa = pb → ps = pa) := Lib.hid (by
    rw [hpa, hpb, hps, HE.out.1, HE.out.2.1, HE.out.2.2]
    have h1 := HA.out
    have h2 := HB.out
    unfold sumOk at h1 h2
    intro h
    simp only [decide_eq_decide] at h ⊢
    omega)
  clear hpa hpb hps b0 b1 b2 b3
  cases pa <;> cases pb <;> cases ps <;> first
    | (exfalso; exact absurd (HPP.out rfl) (by decide))
    | skip
  all_goals
    refine wp_region_quiet_below (by kernel_rfl) (by kernel_rfl) ?_
    repeat (go_big_quiet_step (first | (go_at_call 81; exact HCa.out _ _) | (go_at_call 81; exact HCb.out _ _) | (go_at_call 81; exact HCs.out _ _)))
    refine wpQuiet_nil ?_
    intro _ hw'
    obtain ⟨pr, rfl⟩ := hw'
    generalize hW4 : grow _ _ = W4
    have HX4 : Hid (Ext W W4) := Lib.hid (by subst hW4; exact Ext.regrown _ _ _)
    clear hW4 r0 r1 r2 r3 r4 r5 HCa HCb HCs
    have b4 := (HX4.out.block (block_lt HBB.out.1)).trans HBB.out.1
    have b5 := (HX4.out.block (block_lt HBB.out.2)).trans HBB.out.2
    have c0 : W4.cell? ⟨w1.heap.size, 0, none⟩ = some (.int .i64 sh) := by have := cell_of_block b4 0; simpa using this
    have c1 : W4.cell? ⟨w1.heap.size, 1, none⟩ = some (.int .u64 sl) := by have := cell_of_block b4 1; simpa using this
    have c2 : W4.cell? ⟨w.heap.size + 1 + 1, 0, none⟩ = some (.int .i64 0) := by have := cell_of_block b5 0; simpa using this
    have c3 : W4.cell? ⟨w.heap.size + 1 + 1, 1, none⟩ = some (.int .u64 0) := by have := cell_of_block b5 1; simpa using this
    have f2 : W4.frozen? ⟨w.heap.size + 1 + 1, 0, none⟩ = false := free_of_block b5 0
    have f3 : W4.frozen? ⟨w.heap.size + 1 + 1, 1, none⟩ = false := free_of_block b5 1
    have B5 := Lib.hid b5
    clear b4 b5
    go_wp2_with fail
    have b6 := setCell_block (i := 1) (setCell_block (i := 0) B5.out (.int .i64 sh)) (.int .u64 sl)
    have HX6 := Lib.hid ((((HXW.out.trans HX4.out).setCell (p := ⟨w.heap.size + 1 + 1, 0, none⟩) (by simp; omega) (.int .i64 sh)).setCell (p := ⟨w.heap.size + 1 + 1, 1, none⟩) (by simp; omega) (.int .u64 sl)))
    generalize World.setCell _ _ _ = W6 at *
    have y0 : W6.cell? ⟨w.heap.size + 1 + 1, 0, none⟩ = some (.int .i64 sh) := by have := cell_of_block b6 0; simpa using this
    have y1 : W6.cell? ⟨w.heap.size + 1 + 1, 1, none⟩ = some (.int .u64 sl) := by have := cell_of_block b6 1; simpa using this
    clear b6
    exact bodyPost_ret (v := .tuple #[.agg #[.int .i64 sh, .int .u64 sl], .bool true]) (by simp [results, Tryz.results90, go_sem, y0, y1]) rfl ⟨rfl, HX6.out⟩
end Go.Proofs.YtokllgdbmnmieaaGreat

/-! window: last, first. -/

namespace Go.Proofs.YtokllgdbmnmieaaGreat
open Go.RowKit Go.Lib Go.Sort

/-- The From of the last window that has a time, of the first one. -/
def lastF (st off t : Int) : Int := t - (t - off) % st
def firstF (wd st off t : Int) : Int := lastF st off (t - wd) + st

abbrev kV (wd st off : Int) : Value := .agg #[.int .i64 wd, .int .i64 st, .int .i64 off]

set_option maxHeartbeats 1000000 in
theorem last_any (wd st off t : Int) (w : World) (h1 : 1 ≤ st) (h2 : st ≤ 1099511627776) (h3 : 0 ≤ off) (h4 : off < st) (t1 : -2305843009213693952 ≤ t) (t2 : t ≤ 2305843009213693952) :
    Calls Tryz.prog 86 #[.agg #[.int .i64 wd, .int .i64 st, .int .i64 off], .int .i64 t] w fun e w' => e = .returned (.int .i64 (lastF st off t)) ∧ Ext w w' := by
  have hm0 := Int.emod_nonneg (t - off) (show st ≠ 0 by omega)
  have hm1 := Int.emod_lt_of_pos (t - off) (show 0 < st by omega)
  go_enter Tryz.func86, Tryz.ntmps86
  go_wp2_with fail
  refine (mod_any (t - off) st _ h1 h2 (by omega) (by omega)).mono ?_
  rintro e w1 ⟨rfl, rfl⟩
  obtain ⟨m, hm⟩ : ∃ m, m = (t - off) % st := ⟨_, rfl⟩
  rw [← hm] at hm0 hm1 ⊢
  have HM := Lib.hid hm
  clear hm
  go_wp2_with fail
  go_ret
  exact ⟨by unfold lastF; rw [← HM.out]; rfl, (Ext.refl _).alloc _⟩

set_option maxHeartbeats 2000000 in
set_option maxRecDepth 100000 in
theorem first_any (wd st off t : Int) (w : World) (h0 : 1 ≤ wd) (h0' : wd ≤ 1099511627776) (h1 : 1 ≤ st) (h2 : st ≤ 1099511627776) (h3 : 0 ≤ off) (h4 : off < st) (t1 : -1152921504606846976 ≤ t) (t2 : t ≤ 1152921504606846976) :
    Calls Tryz.prog 85 #[.agg #[.int .i64 wd, .int .i64 st, .int .i64 off], .int .i64 t] w fun e w' => e = .returned (.int .i64 (firstF wd st off t)) ∧ Ext w w' := by
  have hm0 := Int.emod_nonneg (t - wd - off) (show st ≠ 0 by omega)
  have hm1 := Int.emod_lt_of_pos (t - wd - off) (show 0 < st by omega)
  obtain ⟨L, hL, hL1, hL2⟩ : ∃ L, L = lastF st off (t - wd) ∧ -2305843009213693952 ≤ L ∧ L ≤ 2305843009213693952 := ⟨_, rfl, by unfold lastF; omega, by unfold lastF; omega⟩
  have HL := Lib.hid hL
  clear hL hm0 hm1
  go_enter Tryz.func85, Tryz.ntmps85
  go_wp2_with fail
  generalize hW : World.alloc _ _ = W
  have HXW : Hid (Ext w W) := Lib.hid (by subst hW; exact (Ext.refl w).alloc _)
  have HB : Hid (W.heap[w.heap.size]? = some (.cells #[.int .i64 wd, .int .i64 st, .int .i64 off] 67 (0, 0))) := Lib.hid (by subst hW; exact heap_alloc_new w _)
  clear hW
  have r0 := cell_regrown (show W.cell? ⟨w.heap.size, 0, none⟩ = some (.int .i64 wd) by have := cell_of_block HB.out 0; simpa using this)
  have r1 := cell_regrown (show W.cell? ⟨w.heap.size, 1, none⟩ = some (.int .i64 st) by have := cell_of_block HB.out 1; simpa using this)
  have r2 := cell_regrown (show W.cell? ⟨w.heap.size, 2, none⟩ = some (.int .i64 off) by have := cell_of_block HB.out 2; simpa using this)
  have HC : Hid (∀ (d : Nat) (os : Array Obj), Calls Tryz.prog 86 #[.agg #[.int .i64 wd, .int .i64 st, .int .i64 off], .int .i64 (t - wd)] (grow (redrawn W d) os) fun e w'' => e = .returned (.int .i64 L) ∧ ∃ p : Regrown, w'' = grow (redrawn W p.d) p.os) := Lib.hid (fun d os => Calls.grown_of (by
    rw [HL.out]
    exact last_any wd st off (t - wd) _ h1 h2 h3 h4 (by omega) (by omega)))
  refine wp_region_quiet_below (by kernel_rfl) (by kernel_rfl) ?_
  repeat (go_big_quiet_step (first | (go_at_call 86; exact HC.out _ _)))
  refine wpQuiet_nil ?_
  intro _ hw'
  obtain ⟨pr, rfl⟩ := hw'
  generalize hW4 : grow _ _ = W4
  have HX4 : Hid (Ext W W4) := Lib.hid (by subst hW4; exact Ext.regrown _ _ _)
  clear hW4 r0 r1 r2
  go_wp2_with fail
  go_ret
  exact ⟨by unfold firstF; rw [← HL.out]; rfl, HXW.out.trans HX4.out⟩
end Go.Proofs.YtokllgdbmnmieaaGreat

/-! Tiers in memory; tidemilllaw26.own, tidemillref18.Right, tidemilllaw26.fine. -/

namespace Go.Proofs.YtokllgdbmnmieaaGreat
open Go.RowKit Go.Sort Go.Lib

structure Ti where
  w : Int
  o : Int
  u : Int
  m : Bool
  f : ByteArray
def Ti.cells (p : Ti) : List Value := [.int .i64 p.w, .int .i64 p.o, .int .i64 p.u, .bool p.m, .string p.f]
abbrev Ti.val (p : Ti) : Value := .agg #[.int .i64 p.w, .int .i64 p.o, .int .i64 p.u, .bool p.m, .string p.f]
def tis (l : List Ti) : List Value := l.flatMap Ti.cells
theorem tis_len (l : List Ti) : (tis l).length = l.length * 5 := by
  induction l with
  | nil => rfl
  | cons p l ih => simp [tis, Ti.cells] at ih ⊢; omega
theorem tis_one (l : List Ti) : ∀ u ∈ tis l, u.oneCell' = true := by
  intro u hu
  simp only [tis, List.mem_flatMap, Ti.cells] at hu
  obtain ⟨p, _, hu⟩ := hu
  simp at hu
  rcases hu with rfl | rfl | rfl | rfl | rfl <;> rfl
theorem tis_append (a b : List Ti) : tis (a ++ b) = tis a ++ tis b := by simp [tis]
theorem tis_at (l : List Ti) (k : Nat) (p : Ti) (h : l[k]? = some p) : (tis l)[k * 5]? = some (.int .i64 p.w) ∧ (tis l)[k * 5 + 1]? = some (.int .i64 p.o) ∧ (tis l)[k * 5 + 2]? = some (.int .i64 p.u) ∧ (tis l)[k * 5 + 3]? = some (.bool p.m) ∧ (tis l)[k * 5 + 4]? = some (.string p.f) := by
  induction l generalizing k with
  | nil => simp at h
  | cons q l ih =>
    cases k with
    | zero => simp at h; subst h; simp [tis, Ti.cells]
    | succ k =>
      simp at h
      have := ih k h
      rw [show (k + 1) * 5 = k * 5 + 5 by omega]
      simpa [tis, Ti.cells] using this
theorem tis_src {w : World} {a : Option Addr} {n c : Nat} {l : List Ti} (h : Src w 5 (.slice a n c) n (tis l)) {k : Nat} (hk : k < n) :
    ∃ b off p, a = some ⟨b, off, none⟩ ∧ l[k]? = some p ∧ w.cell? ⟨b, off + k * 5, none⟩ = some (.int .i64 p.w) ∧ w.cell? ⟨b, off + k * 5 + 1, none⟩ = some (.int .i64 p.o) ∧ w.cell? ⟨b, off + k * 5 + 2, none⟩ = some (.int .i64 p.u) ∧ w.cell? ⟨b, off + k * 5 + 3, none⟩ = some (.bool p.m) ∧ w.cell? ⟨b, off + k * 5 + 4, none⟩ = some (.string p.f) := by
  rcases h with ⟨_, h, _⟩ | ⟨ad, c', h, hl, h2, _⟩
  · omega
  · simp at h
    obtain ⟨rfl, rfl⟩ := h
    rw [tis_len] at hl
    have hkl : k < l.length := by omega
    obtain ⟨e0, e1, e2, e3, e4⟩ := tis_at l k l[k] (List.getElem?_eq_getElem hkl)
    have c0 := h2 _ _ e0
    have c1 := h2 _ _ e1
    have c2 := h2 _ _ e2
    have c3 := h2 _ _ e3
    have c4 := h2 _ _ e4
    obtain ⟨b, off, spot⟩ := ad
    have hz := h2 0 _ (tis_at l 0 _ (List.getElem?_eq_getElem (show 0 < l.length by omega))).1
    have hspot : spot = none := by simpa [Addr.add] using World.cell?_spot hz
    subst hspot
    rw [Go.WideShapes.add_plain] at c0 c1 c2 c3 c4
    exact ⟨b, off, l[k], rfl, List.getElem?_eq_getElem hkl, c0, c1, c2, c3, c4⟩
theorem tis_src_len {w : World} {v : Value} {n : Nat} {l : List Ti} (h : Src w 5 v n (tis l)) : l.length = n := by
  rcases h with ⟨_, rfl, h⟩ | ⟨_, _, _, h, _⟩
  · have := tis_len l; rw [h] at this; simp at this; omega
  · rw [tis_len] at h; omega
theorem src_ti' {W : World} {b : Nat} {p : Ti} {t : TypeId} {fr : Nat × Nat} (h : W.heap[b]? = some (.cells #[.int .i64 p.w, .int .i64 p.o, .int .i64 p.u, .bool p.m, .string p.f] t fr)) : Src W 5 (.slice (some ⟨b, 0, none⟩) 1 1) 1 (tis [p]) := by
  refine .inr ⟨_, _, rfl, rfl, fun j u hj => ?_, tis_one _⟩
  rw [Go.WideShapes.add_plain, Nat.zero_add, cell_of_block h]
  simpa [tis, Ti.cells] using hj
theorem take_snoc5 {α : Type} {l : List α} {j : Nat} {q : α} (h : l[j]? = some q) : l.take (j + 1) = l.take j ++ [q] := by
  rw [List.take_add_one, h]; rfl

theorem elem_ti : ElemOk Tryz.prog 56 106 5 48 :=
  ⟨Tryz.underlying56, by
    obtain ⟨i0, hi, hz0, hz1, hz2⟩ := info_parts (show (Tryz.prog.info? 106).map (fun i => (i.zero, i.size, i.bytes)) = some (some (.agg #[.int .i64 0, .int .i64 0, .int .i64 0, .bool false, .string ByteArray.empty]), 5, 48) from by kernel_rfl)
    exact ⟨i0, _, hi, hz0, hz1, hz2, rfl⟩, by decide⟩

structure TiTo (w : World) (out : List Ti) (v : Value) (w' : World) : Prop where
  row : Row w' 106 5 v out.length (tis out)
  own : ∀ g, v.ownBlock = some g → w.heap.size ≤ g
  ext : Ext w w'
theorem TiTo.snoc {w W w3 : World} {out : List Ti} {v v' : Value} {p : Ti} (h : TiTo w out v W) {W' : World} (hx : Ext W W') (ha : Appended W' 106 5 v (out.length + 1) (tis out ++ tis [p]) v' w3) : TiTo w (out ++ [p]) v' w3 := by
  have hs := h.ext.size
  have hs2 := hx.size
  refine ⟨by rw [List.length_append, tis_append]; exact ha.row, fun g hg => ?_, Chg.ext ((Chg.of_ext (h.ext.trans hx)).trans ha.chg (fun _ _ h => h)) (fun i hi e => ?_)⟩
  · rcases ha.loc with e | e
    · exact h.own g (e ▸ hg)
    · rw [e] at hg; cases hg; omega
  · have := h.own i e; omega
theorem TiTo.nil (w : World) : TiTo w [] (.slice none 0 0) w := ⟨Row.nil _ _ _, fun g hg => by simp [Value.ownBlock] at hg, Ext.refl _⟩

set_option maxHeartbeats 4000000 in
set_option maxRecDepth 100000 in
theorem own_any (w : World) (a : Option Addr) (n c : Nat) (l : List Ti) (hs : Src w 5 (.slice a n c) n (tis l)) (hn : n ≤ 1099511627776) :
    Calls Tryz.prog 12 #[.slice a n c] w fun e w' => ∃ oa oc, e = .returned (.slice oa n oc) ∧ Src w' 5 (.slice oa n oc) n (tis l) ∧ Ext w w' := by
  have HS := Lib.hid hs
  have Ln := Lib.hid (tis_src_len hs)
  clear hs
  go_enter Tryz.func12, Tryz.ntmps12
  go_wp2_with fail
  go_loopw [4, 3] (fun i s wr => ∃ (j : Nat) (oa : Option Addr) (oc : Nat), j ≤ n ∧ i = .int .i64 j ∧ s = .slice oa j oc ∧ Hid (TiTo w (l.take j) (.slice oa j oc) wr)) (fun i _ _ => n - (RowKit.intOf i).toNat)
  case atStart => exact ⟨0, none, 0, by omega, rfl, rfl, Lib.hid (by simpa using TiTo.nil w)⟩
  case round =>
    obtain ⟨j, oa, oc, hj, rfl, rfl, I⟩ := hrel
    have HLEN : Hid ((l.take j).length = j) := Lib.hid (by rw [List.length_take, Nat.min_eq_left (by rw [Ln.out]; exact hj)])
    have HR : Hid (Row wr 106 5 (.slice oa j oc) j (tis (l.take j))) := Lib.hid (by have h1 := I.out.row; rw [HLEN.out] at h1; exact h1)
    by_cases hlt : j < n
    · obtain ⟨qb, qo, q, rfl, hq, q0, q1, q2, q3, q4⟩ := tis_src (HS.out.ext I.out.ext) hlt
      have HTK := Lib.hid (take_snoc5 hq)
      clear hq
      go_wp2_with (at_builtin; go_must (refine wpList_append_to (m := 1) elem_ti rfl _ _ rfl (v := .slice _ _ _) rfl rfl (HR.out.alloc _) (src_ti' (p := q) (heap_alloc_new _ _)) (by unfold maxLen; omega) (by omega) ?_; intro v' w3 happ); have K := Lib.hid (I.out.snoc ((Ext.refl _).alloc _) (p := q) (by rw [HLEN.out]; exact happ)); obtain ⟨oa', oc', rfl⟩ := happ.row.shape; clear happ)
      go_roundw
      case rel => exact ⟨j + 1, oa', oc', by omega, by go_num, rfl, Lib.hid (by rw [HTK.out]; exact K.out)⟩
      case measure => simp [RowKit.intOf]; omega
    · obtain rfl : j = n := by omega
      have HT : Hid (l.take j = l) := Lib.hid (List.take_of_length_le (by have := Ln.out; omega))
      have HRS : Hid (Src wr 5 (.slice oa j oc) j (tis l)) := Lib.hid (by have h1 := HR.out; rw [HT.out] at h1; exact h1.src (tis_one _))
      have HE := Lib.hid I.out.ext
      clear HR I
      go_wp2_with fail
      go_ret
      exact ⟨oa, oc, rfl, HRS.out, HE.out⟩

end Go.Proofs.YtokllgdbmnmieaaGreat

/-! Points as elements of a slice. -/

namespace Go.Proofs.YtokllgdbmnmieaaGreat
open Go.RowKit Go.Sort Go.Lib

theorem elem_pt : ElemOk Tryz.prog 25 37 3 24 :=
  ⟨Tryz.underlying25, by
    obtain ⟨i0, hi, hz0, hz1, hz2⟩ := info_parts (show (Tryz.prog.info? 37).map (fun i => (i.zero, i.size, i.bytes)) = some (some (.agg #[.int .i64 0, .int .i64 0, .int .i64 0]), 3, 24) from by kernel_rfl)
    exact ⟨i0, _, hi, hz0, hz1, hz2, rfl⟩, by decide⟩
theorem src_pt (w : World) (p : Pt) (fr : Nat × Nat) : Src (w.alloc (.cells #[.int .i64 p.t, .int .i64 p.v, .int .i64 p.s] 37 fr)) 3 (.slice (some ⟨w.heap.size, 0, none⟩) 1 1) 1 (pts [p]) :=
  src_new w #[.int .i64 p.t, .int .i64 p.v, .int .i64 p.s] 37 3 1 fr rfl (pts_one [p])

end Go.Proofs.YtokllgdbmnmieaaGreat

/-! Slices of points in memory; merge.rising and merge.Cut. -/

namespace Go.Proofs.YtokllgdbmnmieaaGreat
open Go.RowKit Go.Sort Go.Lib

end Go.Proofs.YtokllgdbmnmieaaGreat

/-! tidemillref13.Same and merge.Cut. -/

namespace Go.Proofs.YtokllgdbmnmieaaGreat
open Go.RowKit Go.Sort Go.Lib

theorem Ext.drewN' {a w : World} (h : Ext a w) (k : Nat) : Ext a (w.drewN k) := h.trans (Ext.drewN _ _)

theorem take_snoc' {α : Type} {l : List α} {k : Nat} {x : α} (h : l[k]? = some x) : l.take (k + 1) = l.take k ++ [x] := by
  obtain ⟨h1, h2⟩ := List.getElem?_eq_some_iff.1 h
  rw [← h2, List.take_succ_eq_append_getElem h1]

/-- What Cut leaves: a row of its own. -/
structure CutTo (w : World) (out : List Pt) (v : Value) (w' : World) : Prop where
  row : Row w' 37 3 v out.length (pts out)
  own : ∀ g, v.ownBlock = some g → w.heap.size ≤ g
  ext : Ext w w'

theorem CutTo.snoc {w W w3 : World} {out : List Pt} {v v' : Value} {p : Pt} (h : CutTo w out v W) {W' : World} (hx : Ext W W') (ha : Appended W' 37 3 v (out.length + 1) (pts out ++ pts [p]) v' w3) : CutTo w (out ++ [p]) v' w3 := by
  have hs := h.ext.size
  have hs2 := hx.size
  refine ⟨by rw [List.length_append, pts_append]; exact ha.row, fun g hg => ?_, Chg.ext ((Chg.of_ext (h.ext.trans hx)).trans ha.chg (fun _ _ h => h)) (fun i hi e => ?_)⟩
  · rcases ha.loc with e | e
    · exact h.own g (e ▸ hg)
    · rw [e] at hg; cases hg; omega
  · have := h.own i e; omega
theorem CutTo.next {w W W' : World} {out : List Pt} {v : Value} (h : CutTo w out v W) (hx : Ext W W') : CutTo w out v W' := ⟨h.row.ext hx, h.own, h.ext.trans hx⟩
theorem CutTo.nil (w : World) : CutTo w [] (.slice none 0 0) w := ⟨Row.nil _ _ _, fun g hg => by simp [Value.ownBlock] at hg, Ext.refl _⟩

theorem cutL_snoc (f t : Int) (l : List Pt) (p : Pt) : cutL f t (l ++ [p]) = if f ≤ p.t ∧ p.t < t then cutL f t l ++ [p] else cutL f t l := by
  by_cases h : f ≤ p.t ∧ p.t < t
  · rw [if_pos h]; simp [cutL, List.filter_append, h.1, h.2]
  · rw [if_neg h]
    have : (decide (f ≤ p.t) && decide (p.t < t)) = false := by rw [Bool.eq_false_iff]; simpa using h
    simp [cutL, List.filter_append, this]
theorem cutL_len (f t : Int) (l : List Pt) : (cutL f t l).length ≤ l.length := List.length_filter_le _ _

end Go.Proofs.YtokllgdbmnmieaaGreat
