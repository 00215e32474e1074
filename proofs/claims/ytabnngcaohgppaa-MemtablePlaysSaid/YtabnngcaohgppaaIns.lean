/- merge.Insert. -/
import Derived.Test.YtabnngcaohgppaaRef15
import Derived.Test.YtabnngcaohgppaaFind
import Derived.Test.YtabnngcaohgppaaPlan
namespace Go.Proofs.Ytabnngcaohgppaa
open Go.RowKit Go.Sort Go.Lib

/-- A point is put in at its place: ahead of it the earlier ones, behind it the later ones. -/
theorem insert_two {l : List Pt} {p z : Pt} {k k' : Nat} (hr : Rises l) (hlo : ∀ q ∈ l.take k, q.t < p.t) (hhi : ∀ q ∈ l.drop k', p.t < q.t) (hk : k ≤ k')
    (hmid : ∀ q ∈ (l.drop k).take (k' - k), q.t = p.t) (hz : (z = p ∧ ∀ q ∈ (l.drop k).take (k' - k), q.s ≤ p.s) ∨ (z ∈ (l.drop k).take (k' - k) ∧ p.s < z.s)) : Two l [p] (l.take k ++ [z] ++ l.drop k') := by
  have hzt : z.t = p.t := by
    rcases hz with ⟨rfl, _⟩ | ⟨hm, _⟩
    · rfl
    · exact hmid z hm
  have hsplit : ∀ q, q ∈ l → q ∈ l.take k ∨ q ∈ (l.drop k).take (k' - k) ∨ q ∈ l.drop k' := by
    intro q hq
    rw [← List.take_append_drop k l] at hq
    rcases List.mem_append.1 hq with h | h
    · exact .inl h
    · right
      rw [← List.take_append_drop (k' - k) (l.drop k), List.drop_drop, show k + (k' - k) = k' by omega] at h
      exact List.mem_append.1 h
  refine ⟨?_, fun u hu => ?_, fun q hq => ?_⟩
  · unfold Rises
    rw [List.pairwise_append, List.pairwise_append]
    refine ⟨⟨hr.sub (List.take_sublist _ _), by simp, fun a ha b hb => by simp at hb; subst hb; have := hlo a ha; omega⟩, hr.sub (List.drop_sublist _ _), fun a ha b hb => ?_⟩
    have hb' := hhi b hb
    rcases List.mem_append.1 ha with ha | ha
    · have := hlo a ha; omega
    · simp at ha; subst ha; omega
  · rcases List.mem_append.1 hu with hu | hu
    · rcases List.mem_append.1 hu with hu | hu
      · refine .inl ⟨List.mem_of_mem_take hu, fun q hq ht => ?_⟩
        simp at hq; subst hq; have := hlo u hu; omega
      · simp at hu; subst hu
        rcases hz with ⟨rfl, h⟩ | ⟨hm, hs⟩
        · refine .inr ⟨by simp, fun q hq ht => ?_⟩
          rcases hsplit q hq with h1 | h1 | h1
          · have := hlo q h1; omega
          · exact h q h1
          · have := hhi q h1; omega
        · refine .inl ⟨List.mem_of_mem_drop (List.mem_of_mem_take hm), fun q hq ht => ?_⟩
          simp at hq; subst hq; exact hs
    · refine .inl ⟨List.mem_of_mem_drop hu, fun q hq ht => ?_⟩
      simp at hq; subst hq; have := hhi u hu; omega
  · rcases hq with hq | hq
    · rcases hsplit q hq with h1 | h1 | h1
      · exact ⟨q, by simp [h1], rfl⟩
      · exact ⟨z, by simp, by rw [hzt, hmid q h1]⟩
      · exact ⟨q, by simp [h1], rfl⟩
    · simp at hq; subst hq; exact ⟨z, by simp, hzt⟩

theorem drop_gt {l : List Pt} (hr : Rises l) {k : Nat} {x q : Pt} (hx : l[k]? = some x) (hq : q ∈ l.drop (k + 1)) : x.t < q.t := by
  obtain ⟨j, hj⟩ := List.mem_iff_getElem?.1 hq
  rw [List.getElem?_drop] at hj
  exact hr.at hx hj (by omega)

def insPred (p : Pt) (l : List Pt) (i : Nat) : Bool := decide (p.t ≤ (l[i]?.getD default).t)

theorem ins_lo {l : List Pt} {p : Pt} {n k : Nat} (hl : l.length = n) (h : FirstAt (insPred p l) n k) : ∀ q ∈ l.take k, q.t < p.t := by
  intro q hq
  obtain ⟨j, hj⟩ := List.mem_iff_getElem?.1 hq
  rw [List.getElem?_take] at hj
  split at hj
  · rename_i hjk
    have := h.no j hjk
    simp only [insPred, hj, Option.getD_some, decide_eq_false_iff_not] at this
    omega
  · simp at hj
theorem ins_ge {l : List Pt} {p x : Pt} {n k : Nat} (hl : l.length = n) (h : FirstAt (insPred p l) n k) (hx : l[k]? = some x) : p.t ≤ x.t := by
  have := h.yes k (Nat.le_refl _) (by rw [← hl]; exact (List.getElem?_eq_some_iff.1 hx).1)
  simpa [insPred, hx] using this
theorem ins_A {l : List Pt} {p x z : Pt} {n k : Nat} (hr : Rises l) (hl : l.length = n) (h : FirstAt (insPred p l) n k) (hx : l[k]? = some x) (hxt : x.t = p.t) (hz : (z = p ∧ x.s ≤ p.s) ∨ (z = x ∧ p.s < x.s)) : Two l [p] (l.take k ++ [z] ++ l.drop (k + 1)) := by
  have hm : (l.drop k).take (k + 1 - k) = [x] := by
    obtain ⟨h1, h2⟩ := List.getElem?_eq_some_iff.1 hx
    rw [List.drop_eq_getElem_cons h1, h2, show k + 1 - k = 1 by omega]; simp
  refine insert_two hr (ins_lo hl h) (fun q hq => by have := drop_gt hr hx hq; omega) (by omega) (fun q hq => ?_) ?_
  · rw [hm] at hq; simp at hq; subst hq; exact hxt
  · rcases hz with ⟨rfl, hs⟩ | ⟨rfl, hs⟩
    · exact .inl ⟨rfl, fun q hq => by rw [hm] at hq; simp at hq; subst hq; exact hs⟩
    · exact .inr ⟨by rw [hm]; simp, hs⟩
theorem ins_B {l : List Pt} {p : Pt} {n k : Nat} (hr : Rises l) (hl : l.length = n) (h : FirstAt (insPred p l) n k) (hne : ∀ x, l[k]? = some x → x.t ≠ p.t) : Two l [p] (l.take k ++ [p] ++ l.drop k) := by
  refine insert_two hr (ins_lo hl h) (fun q hq => ?_) (Nat.le_refl _) (fun q hq => by simp at hq) (.inl ⟨rfl, fun q hq => by simp at hq⟩)
  rcases Nat.lt_or_ge k l.length with hk | hk
  · have hx : l[k]? = some l[k] := List.getElem?_eq_getElem hk
    have h1 := ins_ge hl h hx
    have h2 := hne _ hx
    rw [List.drop_eq_getElem_cons hk] at hq
    rcases List.mem_cons.1 hq with rfl | hq
    · omega
    · have := drop_gt hr hx hq; omega
  · rw [List.drop_of_length_le hk] at hq; cases hq

/-- What holds ahead of the last two appends. -/
structure InsAt (w w4 : World) (M : List Pt) (k : Nat) (sv : Value) (z : Pt) (a : Option Addr) (n c : Nat) : Prop where
  row : Row w4 33 3 sv k (pts M)
  own : ∀ g, sv.ownBlock = some g → w.heap.size + 1 < g
  ext : Ext w w4
  b2 : w4.cell? ⟨w.heap.size, 0, none⟩ = some (.slice a n c)
  b3 : w4.heap[w.heap.size + 1]? = some (.cells #[.int .i64 z.t, .int .i64 z.v, .int .i64 z.s] 33 (0, 0))
theorem InsAt.next {w w4 w5 : World} {M : List Pt} {k : Nat} {sv : Value} {z : Pt} {a : Option Addr} {n c : Nat} (h : InsAt w w4 M k sv z a n c) (hx : Ext w4 w5) : InsAt w w5 M k sv z a n c :=
  ⟨h.row.ext hx, h.own, h.ext.trans hx, (hx.cell (p := ⟨w.heap.size, 0, none⟩) (World.block_lt_of_cell? w4 _ h.b2)).trans h.b2, (hx.block (block_lt h.b3)).trans h.b3⟩

theorem InsAt.set {w w3 : World} {M : List Pt} {k : Nat} {sv : Value} {p x : Pt} {a : Option Addr} {n c : Nat} (h : InsAt w w3 M k sv p a n c) :
    InsAt w (((w3.setCell ⟨w.heap.size + 1, 0, none⟩ (.int .i64 x.t)).setCell ⟨w.heap.size + 1, 1, none⟩ (.int .i64 x.v)).setCell ⟨w.heap.size + 1, 2, none⟩ (.int .i64 x.s)) M k sv x a n c := by
  have hc : Chg (· = w.heap.size + 1) w3 (((w3.setCell ⟨w.heap.size + 1, 0, none⟩ (.int .i64 x.t)).setCell ⟨w.heap.size + 1, 1, none⟩ (.int .i64 x.v)).setCell ⟨w.heap.size + 1, 2, none⟩ (.int .i64 x.s)) :=
    ((setCell_chg _ _ _ _).trans (setCell_chg _ _ _ _) (fun _ _ e => e)).trans (setCell_chg _ _ _ _) (fun _ _ e => e)
  exact ⟨h.row.chg hc (fun g hg e => by have := h.own g hg; omega), h.own, Chg.ext ((Chg.of_ext h.ext).trans hc (fun _ _ e => e)) (fun i hi e => by omega),
    (hc.cell (p := ⟨w.heap.size, 0, none⟩) (World.block_lt_of_cell? w3 _ h.b2) (by show ¬ w.heap.size = w.heap.size + 1; omega)).trans h.b2, setCell_block (setCell_block (setCell_block h.b3 _) _) _⟩

set_option maxHeartbeats 2000000 in
set_option maxRecDepth 100000 in
theorem insert1_any (w : World) (b2 b3 i n c : Nat) (a : Option Addr) (l : List Pt) (p : Pt) (h2 : w.cell? ⟨b2, 0, none⟩ = some (.slice a n c)) (h3 : w.cell? ⟨b3, 0, none⟩ = some (.int .i64 p.t)) (hs : Src w 3 (.slice a n c) n (pts l)) (hi : i < n) (hn : n < 4398046511104) :
    Calls Try.prog 38 #[.int .i64 i, .pointer (some ⟨b2, 0, none⟩), .pointer (some ⟨b3, 0, none⟩)] w fun e w' => e = .returned (.bool (insPred p l i)) ∧ Ext w w' := by
  obtain ⟨xb, xo, x, rfl, hx, x0, x1, x2⟩ := pts_src hs hi
  have HF : Hid (insPred p l i = decide (p.t ≤ x.t)) := Lib.hid (by simp [insPred, hx])
  clear hx x1 x2 hs
  by_cases hle : p.t ≤ x.t
  · go_enter Try.func38, Try.ntmps38
    go_wp2_with fail
    go_quiet (fail)
    go_wp2_with fail
    go_ret
    rw [HF.out, decide_eq_true hle]
    exact ⟨rfl, Ext.drewN _ _⟩
  · go_enter Try.func38, Try.ntmps38
    go_wp2_with fail
    go_quiet (fail)
    go_wp2_with fail
    go_ret
    rw [HF.out, decide_eq_false (by omega)]
    exact ⟨rfl, Ext.drewN _ _⟩

/-- A beginning, and an end, of a slice of points. -/
theorem pts_take (l : List Pt) (k : Nat) : pts (l.take k) = (pts l).take (k * 3) := by
  induction l generalizing k with
  | nil => simp [pts]
  | cons q l ih =>
    cases k with
    | zero => simp [pts]
    | succ k =>
      rw [show (k + 1) * 3 = k * 3 + 3 by omega]
      have := ih k
      simp only [pts] at this ⊢
      simp [Pt.cells, this]
theorem pts_drop (l : List Pt) (k : Nat) : pts (l.drop k) = (pts l).drop (k * 3) := by
  induction l generalizing k with
  | nil => simp [pts]
  | cons q l ih =>
    cases k with
    | zero => simp
    | succ k =>
      rw [show (k + 1) * 3 = k * 3 + 3 by omega]
      have := ih k
      simp only [pts] at this ⊢
      simp [Pt.cells, this]
theorem psrc_take {w : World} {a : Option Addr} {n c : Nat} {l : List Pt} (h : Src w 3 (.slice a n c) n (pts l)) {k : Nat} (hk : k ≤ n) : Src w 3 (.slice a k c) k (pts (l.take k)) := by
  rcases h with ⟨e, e2, e3⟩ | ⟨ad, c', e, hl, h2, h1⟩
  · simp at e
    obtain ⟨rfl, _, rfl⟩ := e
    obtain rfl : k = 0 := by omega
    left; exact ⟨rfl, rfl, by simp [pts]⟩
  · simp at e
    obtain ⟨rfl, rfl⟩ := e
    refine .inr ⟨ad, c, rfl, by rw [pts_len] at hl ⊢; simp; omega, fun j u hj => ?_, pts_one _⟩
    rw [pts_take, List.getElem?_take] at hj
    split at hj
    · exact h2 j u hj
    · simp at hj
theorem psrc_drop {w : World} {b off : Nat} {n c : Nat} {l : List Pt} (h : Src w 3 (.slice (some ⟨b, off, none⟩) n c) n (pts l)) {k : Nat} (hk : k ≤ n) (c' : Nat) : Src w 3 (.slice (some ⟨b, off + k * 3, none⟩) (n - k) c') (n - k) (pts (l.drop k)) := by
  rcases h with ⟨e, _, _⟩ | ⟨ad, c'', e, hl, h2, h1⟩
  · simp at e
  · simp at e
    obtain ⟨rfl, rfl⟩ := e
    refine .inr ⟨_, c', rfl, by rw [pts_len] at hl ⊢; simp; omega, fun j u hj => ?_, pts_one _⟩
    rw [pts_drop, List.getElem?_drop] at hj
    have := h2 (k * 3 + j) u hj
    rw [Go.WideShapes.add_plain] at this ⊢
    rw [show off + k * 3 + j = off + (k * 3 + j) by omega]; exact this
theorem psrc_none (w : World) (ad : Addr) (c : Nat) : Src w 3 (.slice (some ad) 0 c) 0 (pts []) := .inr ⟨ad, c, rfl, rfl, fun j u hj => by simp [pts] at hj, by simp [pts]⟩

theorem row_empty (w : World) : Row (w.alloc (.cells #[] 33 (0, 0))) 33 3 (.slice (some ⟨w.heap.size, 0, none⟩) 0 0) 0 (pts []) :=
  ⟨rfl, .inr ⟨w.heap.size, 0, #[], rfl, Nat.zero_le _, heap_alloc_new w _, Nat.le_refl _, Nat.zero_le _, rfl, rfl⟩⟩

theorem cut_of_empty {w w3 : World} {M : List Pt} {k : Nat} {v' : Value} (hk : M.length = k) (ha : Appended (w.alloc (.cells #[] 33 (0, 0))) 33 3 (.slice (some ⟨w.heap.size, 0, none⟩) 0 0) (0 + k) (pts [] ++ pts M) v' w3) : CutTo w M v' w3 := by
  refine ⟨by have := ha.row; rw [Nat.zero_add, ← hk] at this; simpa [pts] using this, fun g hg => ?_, Chg.ext ((Chg.of_ext ((Ext.refl w).alloc _)).trans ha.chg (fun _ _ h => h)) (fun i hi e => by simp [Value.ownBlock] at e; omega)⟩
  rcases ha.loc with e | e
  · rw [e] at hg; simp [Value.ownBlock] at hg; omega
  · rw [e] at hg; simp at hg; omega

/-- What Insert leaves. -/
def Inserted (w : World) (l : List Pt) (p : Pt) (e : Ending) (w' : World) : Prop :=
  Ext w w' ∧ ((Rises l ∧ ∃ (va : Option Addr) (vc : Nat) (out : List Pt), e = .returned (.tuple #[.slice va out.length vc, .int .i64 0]) ∧ CutTo w out (.slice va out.length vc) w' ∧ IsMerge [l, [p]] out ∧ out.length ≤ l.length + 1) ∨
    (¬ Rises l ∧ e = .returned (.tuple #[.slice none 0 0, .int .i64 2])))

/-- Behind the last two appends. -/
theorem ins_end {w w4 W5 w5 W6 w6 : World} {l M D : List Pt} {p z : Pt} {a oa : Option Addr} {k n c oc : Nat} {v5 v6 : Value} {m : Nat} (hr : Rises l) (J : InsAt w w4 M k (.slice oa k oc) z a n c) (hM : M.length = k) (hx5 : Ext w4 W5) (hD : D.length = m)
    (h1 : Appended W5 33 3 (.slice oa k oc) (k + 1) (pts M ++ pts [z]) v5 w5) (hx6 : Ext w5 W6) (h2 : Appended W6 33 3 v5 (k + 1 + m) (pts M ++ pts [z] ++ pts D) v6 w6) (ht : Two l [p] (M ++ [z] ++ D)) (hl : (M ++ [z] ++ D).length ≤ l.length + 1) :
    Ext w w6 ∧ ∃ (va : Option Addr) (vn vc : Nat), v6 = .slice va vn vc ∧ Inserted w l p (.returned (.tuple #[.slice va vn vc, .int .i64 0])) w6 := by
  have hs := J.ext.size
  have hs5 := hx5.size
  have hs6 := hx6.size
  have hs5' := h1.chg.size
  have own5 : ∀ g, v5.ownBlock = some g → w.heap.size ≤ g := by
    intro g hg
    rcases h1.loc with e | e
    · have := J.own g (e ▸ hg); omega
    · rw [e] at hg; cases hg; omega
  have e5 : Ext w w5 := Chg.ext ((Chg.of_ext (J.ext.trans hx5)).trans h1.chg (fun _ _ h => h)) (fun i hi e => by have := J.own i e; omega)
  have e6 : Ext w w6 := Chg.ext ((Chg.of_ext (e5.trans hx6)).trans h2.chg (fun _ _ h => h)) (fun i hi e => by have := own5 i e; omega)
  have hrow : Row w6 33 3 v6 (M ++ [z] ++ D).length (pts (M ++ [z] ++ D)) := by
    have := h2.row
    rw [pts_append, pts_append, List.length_append, List.length_append, hD, hM]; exact this
  obtain ⟨va, vc, rfl⟩ := hrow.shape
  refine ⟨e6, va, _, vc, rfl, e6, .inl ⟨hr, va, vc, _, rfl, ⟨hrow, fun g hg => ?_, e6⟩, ht.isMerge hr (Rises.one p), hl⟩⟩
  rcases h2.loc with e | e
  · exact own5 g (e ▸ hg)
  · rw [e] at hg; cases hg; omega

set_option maxHeartbeats 8000000 in
set_option maxRecDepth 100000 in
theorem insert_any (w : World) (a : Option Addr) (n c : Nat) (l : List Pt) (p : Pt) (hs : Src w 3 (.slice a n c) n (pts l)) (hnc : n ≤ c) (hn : n < 4398046511) :
    Calls Try.prog 25 #[.slice a n c, p.val] w (Inserted w l p) := by
  have HS := Lib.hid hs
  have Ln := Lib.hid (src_len hs)
  clear hs
  unfold Pt.val
  go_enter Try.func25, Try.ntmps25
  go_wp2_with fail
  generalize hW : World.alloc _ _ = W
  have HXW : Hid (Ext w W) := Lib.hid (by subst hW; exact ((Ext.refl w).alloc _).alloc _)
  have B2 : Hid (W.cell? ⟨w.heap.size, 0, none⟩ = some (.slice a n c)) := Lib.hid (by subst hW; simp [go_sem])
  have B3 : Hid (W.heap[w.heap.size + 1]? = some (.cells #[.int .i64 p.t, .int .i64 p.v, .int .i64 p.s] 33 (0, 0))) := Lib.hid (by subst hW; exact heap_alloc2 w _ _)
  clear hW
  refine (rising_any W a n c l (HS.out.ext HXW.out) (by unfold maxLen; omega)).mono ?_
  rintro e w1 ⟨rfl, hx1⟩
  have HX1 := Lib.hid hx1; clear hx1
  have w2lt : w.heap.size < W.heap.size := World.block_lt_of_cell? W _ B2.out
  have b2 := (HX1.out.cell (p := ⟨w.heap.size, 0, none⟩) w2lt).trans B2.out
  cases hr : risesB l
  · have HR : Hid (¬ Rises l) := Lib.hid (fun h => by rw [← rises_iff, hr] at h; cases h)
    clear hr
    go_wp2_with fail
    go_ret2
    exact ⟨HXW.out.trans HX1.out, .inr ⟨HR.out, rfl⟩⟩
  have HR : Hid (Rises l) := Lib.hid ((rises_iff _).1 hr)
  clear hr
  have BB3 : Hid (w1.heap[w.heap.size + 1]? = some (.cells #[.int .i64 p.t, .int .i64 p.v, .int .i64 p.s] 33 (0, 0))) := Lib.hid ((HX1.out.block (block_lt B3.out)).trans B3.out)
  have BB2 := Lib.hid b2
  have S1 := Lib.hid (HS.out.ext (HXW.out.trans HX1.out))
  have HXA := Lib.hid (HXW.out.trans HX1.out)
  clear HX1 B2 B3 HXW
  go_wp2_with fail
  refine (search_any 38 #[.pointer (some ⟨w.heap.size, 0, none⟩), .pointer (some ⟨w.heap.size + 1, 0, none⟩)] n (insPred p l) w1 (fun _ _ => rfl) (by omega) (fun w' i hx hi => ?_) (fun x y hxy hy hpx => ?_)).mono ?_
  · have h2 := (hx.cell (p := ⟨w.heap.size, 0, none⟩) (World.block_lt_of_cell? w1 _ BB2.out)).trans BB2.out
    have h3b := (hx.block (block_lt BB3.out)).trans BB3.out
    have h3 : w'.cell? ⟨w.heap.size + 1, 0, none⟩ = some (.int .i64 p.t) := by have := cell_of_block h3b 0; simpa using this
    exact insert1_any w' _ _ i n c a l p h2 h3 (S1.out.ext hx) hi (by omega)
  · have hl := Ln.out
    have e1 : l[x]? = some (l[x]'(by omega)) := List.getElem?_eq_getElem (by omega)
    have e2 : l[y]? = some (l[y]'(by omega)) := List.getElem?_eq_getElem (by omega)
    have := rises_le HR.out e1 e2 hxy
    simp only [insPred, e1, e2, Option.getD_some, decide_eq_true_eq] at hpx ⊢
    omega
  rintro e w2 ⟨k, rfl, hfa, hx2⟩
  have HX2 := Lib.hid hx2
  have FA := Lib.hid hfa
  have hkn : k ≤ n := hfa.le
  have b2' := (hx2.cell (p := ⟨w.heap.size, 0, none⟩) (World.block_lt_of_cell? w1 _ BB2.out)).trans BB2.out
  have B2' := Lib.hid b2'
  have B3' := Lib.hid ((hx2.block (block_lt BB3.out)).trans BB3.out)
  have S2 := Lib.hid (S1.out.ext hx2)
  have HXB := Lib.hid (HXA.out.trans hx2)
  clear hx2 hfa BB2 BB3 S1 HXA b2 HX2
  have hlt2 : w.heap.size < w2.heap.size := World.block_lt_of_cell? w2 _ b2'
  have hlt3 : w.heap.size + 1 < w2.heap.size := block_lt B3'.out
  have hkl : (l.take k).length = k := by have := Ln.out; simp; omega
  have HKL := Lib.hid hkl; clear hkl
  have hkc : k ≤ c := by omega
  go_wp2_with (at_builtin; go_must (refine wpList_append_to (n := 0) (m := k) elem_pt rfl _ _ rfl (v := .slice _ _ _) rfl rfl (row_empty _) (psrc_take (S2.out.ext ((Ext.refl _).alloc _)) hkn) (by unfold maxLen; omega) (by omega) ?_; intro v' w3 happ); have K := Lib.hid (cut_of_empty HKL.out happ); have c2 := (K.out.ext.cell (p := ⟨w.heap.size, 0, none⟩) hlt2).trans b2'; obtain ⟨oa, oc, rfl⟩ := happ.row.shape; clear happ b2')
  have HKL' := HKL.out
  rw [Nat.zero_add] at K
  have J : Hid (InsAt w w3 (l.take k) k (.slice oa k oc) p a n c) := Lib.hid ⟨by have := K.out.row; rw [HKL'] at this; exact this, fun g hg => by have := K.out.own g hg; omega, HXB.out.trans K.out.ext, c2, (K.out.ext.block (block_lt B3'.out)).trans B3'.out⟩
  have S3 := Lib.hid (S2.out.ext K.out.ext)
  obtain ⟨M, hM⟩ : ∃ M, M = l.take k := ⟨_, rfl⟩
  rw [← hM] at J HKL
  have HM := Lib.hid hM
  clear HKL' K c2 B2' B3' S2 HXB hM
  refine dite (k < n) (fun hkn' => ?ltT) (fun hkn' => ?geT)
  case' ltT =>
    obtain ⟨xb, xo, x, rfl, hx, x0, x1, x2⟩ := pts_src S3.out hkn'
    have HX := Lib.hid hx; clear hx
    have b20 := J.out.b2
    have p0 : w3.cell? ⟨w.heap.size + 1, 0, none⟩ = some (.int .i64 p.t) := by have := cell_of_block J.out.b3 0; simpa using this
    have p2 : w3.cell? ⟨w.heap.size + 1, 2, none⟩ = some (.int .i64 p.s) := by have := cell_of_block J.out.b3 2; simpa using this
    refine dite (x.t = p.t) (fun heq => ?eqT) (fun heq => ?neT)
    case' eqT =>
      have hb : (x.t == p.t) = true := beq_iff_eq.2 heq
      have HEQ := Lib.hid heq; clear heq
      refine dite (p.s < x.s) (fun hs => ?laterT) (fun hs => ?soonerT)
      case' laterT =>
        have HT : Hid (Two l [p] (M ++ [x] ++ l.drop (k + 1))) := Lib.hid (by rw [HM.out]; exact ins_A HR.out Ln.out FA.out HX.out HEQ.out (.inr ⟨rfl, hs⟩))
        go_quiet (fail)
        go_wp2_with fail
        have p1 : w3.cell? ⟨w.heap.size + 1, 1, none⟩ = some (.int .i64 p.v) := by have := cell_of_block J.out.b3 1; simpa using this
        have z0 : w3.frozen? ⟨w.heap.size + 1, 0, none⟩ = false := free_of_block J.out.b3 0
        have z1 : w3.frozen? ⟨w.heap.size + 1, 1, none⟩ = false := free_of_block J.out.b3 1
        have z2 : w3.frozen? ⟨w.heap.size + 1, 2, none⟩ = false := free_of_block J.out.b3 2
        go_quiet (fail)
        go_wp2_with fail
        obtain ⟨kk, hkk⟩ : ∃ kk, kk = k + 1 := ⟨_, rfl⟩
        obtain ⟨z, hz⟩ : ∃ z, z = x := ⟨_, rfl⟩
        generalize hw4 : World.setCell _ _ _ = w4
        have J4 : Hid (InsAt w w4 M k (.slice oa k oc) z (some ⟨xb, xo, none⟩) n c) := Lib.hid (by rw [hz, ← hw4]; exact (J.out.next (Ext.drewN w3 _)).set)
        have HT' : Hid (Two l [p] (M ++ [z] ++ l.drop kk)) := Lib.hid (by rw [hz, hkk]; exact HT.out)
        have hkkn : kk ≤ n := by omega
        have hkk' : k ≤ kk := by omega
        have HLN : Hid ((M ++ [z] ++ l.drop kk).length ≤ l.length + 1) := Lib.hid (by rw [List.length_append, List.length_append, HKL.out, List.length_drop, Ln.out, List.length_singleton]; omega)
        rw [show (k : Int) + 1 = (kk : Int) by omega]
        clear hkk hz HT J x0 x1 x2 b20 p0 p1 p2 hb hs HX HEQ z0 z1 z2
        clear hw4
      case' soonerT =>
        have HT : Hid (Two l [p] (M ++ [p] ++ l.drop (k + 1))) := Lib.hid (by rw [HM.out]; exact ins_A HR.out Ln.out FA.out HX.out HEQ.out (.inl ⟨rfl, by omega⟩))
        go_quiet (fail)
        go_wp2_with fail
        go_quiet (fail)
        go_wp2_with fail
        obtain ⟨kk, hkk⟩ : ∃ kk, kk = k + 1 := ⟨_, rfl⟩
        obtain ⟨z, hz⟩ : ∃ z, z = p := ⟨_, rfl⟩
        generalize hw4 : World.drewN w3 _ = w4
        have J4 : Hid (InsAt w w4 M k (.slice oa k oc) z (some ⟨xb, xo, none⟩) n c) := Lib.hid (by rw [hz, ← hw4]; exact J.out.next (Ext.drewN w3 _))
        have HT' : Hid (Two l [p] (M ++ [z] ++ l.drop kk)) := Lib.hid (by rw [hz, hkk]; exact HT.out)
        have hkkn : kk ≤ n := by omega
        have hkk' : k ≤ kk := by omega
        have HLN : Hid ((M ++ [z] ++ l.drop kk).length ≤ l.length + 1) := Lib.hid (by rw [List.length_append, List.length_append, HKL.out, List.length_drop, Ln.out, List.length_singleton]; omega)
        rw [show (k : Int) + 1 = (kk : Int) by omega]
        clear hkk hz HT J x0 x1 x2 b20 p0 p2 hb hs HX HEQ
        clear hw4
    case' neT =>
      have hb : (x.t == p.t) = false := beq_eq_false_iff_ne.2 heq
      have HT : Hid (Two l [p] (M ++ [p] ++ l.drop k)) := Lib.hid (by rw [HM.out]; exact ins_B HR.out Ln.out FA.out (fun y hy => by rw [HX.out] at hy; cases hy; exact heq))
      clear heq
      go_quiet (fail)
      go_wp2_with fail
      obtain ⟨kk, hkk⟩ : ∃ kk, kk = k := ⟨_, rfl⟩
      obtain ⟨z, hz⟩ : ∃ z, z = p := ⟨_, rfl⟩
      generalize hw4 : World.drewN w3 _ = w4
      have J4 : Hid (InsAt w w4 M k (.slice oa k oc) z (some ⟨xb, xo, none⟩) n c) := Lib.hid (by rw [hz, ← hw4]; exact J.out.next (Ext.drewN w3 _))
      have HT' : Hid (Two l [p] (M ++ [z] ++ l.drop kk)) := Lib.hid (by rw [hz, hkk]; exact HT.out)
      have hkkn : kk ≤ n := by omega
      have hkk' : k ≤ kk := by omega
      have HLN : Hid ((M ++ [z] ++ l.drop kk).length ≤ l.length + 1) := Lib.hid (by rw [List.length_append, List.length_append, HKL.out, List.length_drop, Ln.out, List.length_singleton]; omega)
      rw [show (k : Int) = (kk : Int) by omega]
      clear hkk hz HT J x0 x1 x2 b20 p0 p2 hb HX
      clear hw4
    all_goals
      obtain ⟨T, hT⟩ : ∃ T : Nat → Bool, T = fun g => decide ((Value.slice oa k oc).ownBlock = some g) := ⟨_, rfl⟩
      have HT0 := Lib.hid hT
      have t2 : T w.heap.size = false := by rw [hT]; simp; intro e; have := J4.out.own _ e; omega
      have t3 : T (w.heap.size + 1) = false := by rw [hT]; simp; intro e; have := J4.out.own _ e; omega
      clear hT
      have z0 : w4.cell? ⟨w.heap.size + 1, 0, none⟩ = some (.int .i64 z.t) := by have := cell_of_block J4.out.b3 0; simpa using this
      have z1 : w4.cell? ⟨w.heap.size + 1, 1, none⟩ = some (.int .i64 z.v) := by have := cell_of_block J4.out.b3 1; simpa using this
      have z2 : w4.cell? ⟨w.heap.size + 1, 2, none⟩ = some (.int .i64 z.s) := by have := cell_of_block J4.out.b3 2; simpa using this
      have f0 := cell_turned (T := T) J4.out.b2 t2
      have f1 := cell_turned (T := T) z0 t3
      have f2 := cell_turned (T := T) z1 t3
      have f3 := cell_turned (T := T) z2 t3
      clear z0 z1 z2
      rcases (show (c = kk ∧ n = kk) ∨ kk < c by omega) with ⟨hc1, hc2⟩ | hcl
      case' inl =>
        have SY : Hid (∀ w', Ext w w' → Src w' 3 (.slice (some ⟨xb, xo, none⟩) 0 0) 0 (pts (l.drop kk))) := Lib.hid (fun _ _ => by rw [List.drop_of_length_le (by rw [Ln.out]; omega)]; exact psrc_none _ _ _)
        have hD : Hid ((l.drop kk).length = 0) := Lib.hid (by rw [List.length_drop, Ln.out]; omega)
        obtain ⟨m, hm⟩ : ∃ m, m = 0 := ⟨_, rfl⟩
        rw [hc1, hc2] at f0
        refine wp_region_plan 7 (fun w' => ∃ p : Turned, w' = turned w4 T p.d p.f p.os) (.reads [0, 1, 4, 5, 6] (.one 2 (.one 3 (.one 7 (.one 8 (.one 9 .done)))))) (by kernel_rfl) (by kernel_rfl) (fun _ _ dd _ _ hh => by cases dd <;> exact hh) ?_ ?_
        · exact turned_of_ext (Ext.drewN w4 1)
        refine wpPlan_reads ?_
        simp only [pickOps, List.getElem?_cons_succ, List.getElem?_cons_zero]
        repeat (go_big_quiet_step (fail))
        refine wpQuiet_nil ?_
      case' inr =>
        have SY : Hid (∀ w', Ext w w' → Src w' 3 (.slice (some ⟨xb, xo + kk * 3, none⟩) (n - kk) (c - kk)) (n - kk) (pts (l.drop kk))) := Lib.hid (fun _ hx => psrc_drop (HS.out.ext hx) hkkn _)
        have hD : Hid ((l.drop kk).length = n - kk) := Lib.hid (by rw [List.length_drop, Ln.out])
        refine wp_region_plan 7 (fun w' => ∃ p : Turned, w' = turned w4 T p.d p.f p.os) (.reads [0, 1, 4, 5, 6] (.one 2 (.one 3 (.one 7 (.one 8 (.one 9 .done)))))) (by kernel_rfl) (by kernel_rfl) (fun _ _ dd _ _ hh => by cases dd <;> exact hh) ?_ ?_
        · exact turned_of_ext (Ext.drewN w4 1)
        refine wpPlan_reads ?_
        simp only [pickOps, List.getElem?_cons_succ, List.getElem?_cons_zero]
        repeat (go_big_quiet_step (fail))
        refine wpQuiet_nil ?_
  case' geT =>
    have HT : Hid (Two l [p] (M ++ [p] ++ l.drop k)) := Lib.hid (by rw [HM.out]; exact ins_B HR.out Ln.out FA.out (fun y hy => by have h1 := (List.getElem?_eq_some_iff.1 hy).1; have := Ln.out; omega))
    have b20 := J.out.b2
    go_quiet (fail)
    go_wp2_with fail
    obtain ⟨kk, hkk⟩ : ∃ kk, kk = k := ⟨_, rfl⟩
    obtain ⟨z, hz⟩ : ∃ z, z = p := ⟨_, rfl⟩
    generalize hw4 : World.drewN w3 _ = w4
    have J4 : Hid (InsAt w w4 M k (.slice oa k oc) z a n c) := Lib.hid (by rw [hz, ← hw4]; exact J.out.next (Ext.drewN w3 _))
    have HT' : Hid (Two l [p] (M ++ [z] ++ l.drop kk)) := Lib.hid (by rw [hz, hkk]; exact HT.out)
    have hkkn : kk ≤ n := by omega
    have hkk' : k ≤ kk := by omega
    have HLN : Hid ((M ++ [z] ++ l.drop kk).length ≤ l.length + 1) := Lib.hid (by rw [List.length_append, List.length_append, HKL.out, List.length_drop, Ln.out, List.length_singleton]; omega)
    rw [show (k : Int) = (kk : Int) by omega]
    clear hkk hz HT J b20
    clear hw4
    obtain ⟨T, hT⟩ : ∃ T : Nat → Bool, T = fun g => decide ((Value.slice oa k oc).ownBlock = some g) := ⟨_, rfl⟩
    have HT0 := Lib.hid hT
    have t2 : T w.heap.size = false := by rw [hT]; simp; intro e; have := J4.out.own _ e; omega
    have t3 : T (w.heap.size + 1) = false := by rw [hT]; simp; intro e; have := J4.out.own _ e; omega
    clear hT
    have z0 : w4.cell? ⟨w.heap.size + 1, 0, none⟩ = some (.int .i64 z.t) := by have := cell_of_block J4.out.b3 0; simpa using this
    have z1 : w4.cell? ⟨w.heap.size + 1, 1, none⟩ = some (.int .i64 z.v) := by have := cell_of_block J4.out.b3 1; simpa using this
    have z2 : w4.cell? ⟨w.heap.size + 1, 2, none⟩ = some (.int .i64 z.s) := by have := cell_of_block J4.out.b3 2; simpa using this
    have f0 := cell_turned (T := T) J4.out.b2 t2
    have f1 := cell_turned (T := T) z0 t3
    have f2 := cell_turned (T := T) z1 t3
    have f3 := cell_turned (T := T) z2 t3
    clear z0 z1 z2
    have hD0 : Hid (l.drop kk = []) := Lib.hid (List.drop_of_length_le (by rw [Ln.out]; omega))
    rcases S3.out with ⟨e, _, _⟩ | ⟨ad, c', e, _, _, _⟩
    case' inl =>
      obtain ⟨rfl, rfl, rfl⟩ : a = none ∧ n = 0 ∧ c = 0 := by simpa using e
      have SY : Hid (∀ w', Ext w w' → Src w' 3 (.slice none 0 0) 0 (pts (l.drop kk))) := Lib.hid (fun _ _ => by rw [hD0.out]; exact .inl ⟨rfl, rfl, rfl⟩)
      have hD : Hid ((l.drop kk).length = 0) := Lib.hid (by rw [hD0.out]; rfl)
      obtain rfl : kk = 0 := by omega
      clear e
      refine wp_region_plan 7 (fun w' => ∃ p : Turned, w' = turned w4 T p.d p.f p.os) (.reads [0, 1, 4, 5, 6] (.one 2 (.one 3 (.one 7 (.one 8 (.one 9 .done)))))) (by kernel_rfl) (by kernel_rfl) (fun _ _ dd _ _ hh => by cases dd <;> exact hh) ?_ ?_
      · exact turned_of_ext (Ext.drewN w4 1)
      refine wpPlan_reads ?_
      simp only [pickOps, List.getElem?_cons_succ, List.getElem?_cons_zero]
      repeat (go_big_quiet_step (fail))
      refine wpQuiet_nil ?_
    case' inr =>
      obtain ⟨rfl, rfl⟩ : a = some ad ∧ c = c' := by simpa using e
      clear e
      rcases (show (c = kk ∧ n = kk) ∨ kk < c by omega) with ⟨hc1, hc2⟩ | hcl
    case' inr.inl =>
      have SY : Hid (∀ w', Ext w w' → Src w' 3 (.slice (some ad) 0 0) 0 (pts (l.drop kk))) := Lib.hid (fun _ _ => by rw [hD0.out]; exact psrc_none _ _ _)
      have hD : Hid ((l.drop kk).length = 0) := Lib.hid (by rw [hD0.out]; rfl)
      rw [hc1, hc2] at f0
      refine wp_region_plan 7 (fun w' => ∃ p : Turned, w' = turned w4 T p.d p.f p.os) (.reads [0, 1, 4, 5, 6] (.one 2 (.one 3 (.one 7 (.one 8 (.one 9 .done)))))) (by kernel_rfl) (by kernel_rfl) (fun _ _ dd _ _ hh => by cases dd <;> exact hh) ?_ ?_
      · exact turned_of_ext (Ext.drewN w4 1)
      refine wpPlan_reads ?_
      simp only [pickOps, List.getElem?_cons_succ, List.getElem?_cons_zero]
      repeat (go_big_quiet_step (fail))
      refine wpQuiet_nil ?_
    case' inr.inr =>
      have SY : Hid (∀ w', Ext w w' → Src w' 3 (.slice (some (ad.add (kk * 3))) (n - kk) (c - kk)) (n - kk) (pts (l.drop kk))) := Lib.hid (fun _ _ => by rw [hD0.out, show n - kk = 0 by omega]; exact psrc_none _ _ _)
      have hD : Hid ((l.drop kk).length = n - kk) := Lib.hid (by rw [List.length_drop, Ln.out])
      refine wp_region_plan 7 (fun w' => ∃ p : Turned, w' = turned w4 T p.d p.f p.os) (.reads [0, 1, 4, 5, 6] (.one 2 (.one 3 (.one 7 (.one 8 (.one 9 .done)))))) (by kernel_rfl) (by kernel_rfl) (fun _ _ dd _ _ hh => by cases dd <;> exact hh) ?_ ?_
      · exact turned_of_ext (Ext.drewN w4 1)
      refine wpPlan_reads ?_
      simp only [pickOps, List.getElem?_cons_succ, List.getElem?_cons_zero]
      repeat (go_big_quiet_step (fail))
      refine wpQuiet_nil ?_
  all_goals
    clear f0 f1 f2 f3
    refine wpPlan_one ?_
    simp only [pickOps, List.getElem?_cons_succ, List.getElem?_cons_zero]
    go_wp2_with fail
    refine thenX_mk (turned_of_ext (((Ext.refl w4).alloc _).drew)) (wpPlan_one ?_)
    generalize hW5 : World.drew (World.alloc _ _) = W5
    have HX5 : Hid (Ext w4 W5) := Lib.hid (by subst hW5; exact ((Ext.refl w4).alloc _).drew)
    have b5 : Hid (W5.heap[w4.heap.size]? = some (.cells #[.int .i64 z.t, .int .i64 z.v, .int .i64 z.s] 33 (0, 0))) := Lib.hid (by subst hW5; exact heap_alloc_new w4 _)
    clear hW5
    simp only [pickOps, List.getElem?_cons_succ, List.getElem?_cons_zero]
    refine wpList_append_to (n := k) (m := 1) elem_pt rfl (.tmp 48) (.tmp 50) rfl (v := .slice oa k oc) rfl rfl (J4.out.row.ext HX5.out) (src_pt' (p := z) b5.out) (by unfold maxLen; omega) (by omega) ?_
    intro v5 w5 ha1
    have A1 := Lib.hid ha1
    obtain ⟨va5, vc5, rfl⟩ := ha1.row.shape
    have HTT : Hid (∃ p : Turned, w5 = turned w4 T p.d p.f p.os) := Lib.hid (turned_of_chg ((Chg.of_ext HX5.out).trans ha1.chg (fun i hi e => by rw [HT0.out]; simpa using e)))
    have E5 : Hid (Ext w w5) := Lib.hid (Chg.ext ((Chg.of_ext (J4.out.ext.trans HX5.out)).trans ha1.chg (fun _ _ h => h)) (fun i hi e => by have := J4.out.own i e; omega))
    clear ha1
    go_wp2_with fail
    refine thenX_mk HTT.out (wpPlan_one ?_)
    simp only [pickOps, List.getElem?_cons_succ, List.getElem?_cons_zero]
    refine wpList_append_to (n := k + 1) elem_pt rfl (.tmp 51) (.tmp 54) rfl (v := .slice _ _ _) rfl rfl A1.out.row (SY.out w5 E5.out) (by unfold maxLen; omega) (by omega) ?_
    intro v6 w6 ha2
    obtain ⟨e6, va, vn, vc, hv6, hins⟩ := ins_end HR.out J4.out HKL.out HX5.out hD.out A1.out (Ext.refl _) ha2 HT'.out HLN.out
    have HI := Lib.hid hins
    clear ha2 hins e6
    subst hv6
    go_wp2_with fail
    refine thenX_last (wpPlan_one ?_)
    simp only [pickOps, List.getElem?_cons_succ, List.getElem?_cons_zero]
    go_wp2_with fail
    refine thenX_last (wpPlan_one ?_)
    simp only [pickOps, List.getElem?_cons_succ, List.getElem?_cons_zero]
    go_wp2_with fail
    refine thenX_last (wpPlan_done ?_)
    go_wp2_with fail
    go_ret2
    exact HI.out

end Go.Proofs.Ytabnngcaohgppaa
