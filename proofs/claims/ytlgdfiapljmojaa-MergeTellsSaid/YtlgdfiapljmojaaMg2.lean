/- The heap of merge: push. -/
import Derived.Test.YtlgdfiapljmojaaMg1
import Derived.Deep.LoopGhost
namespace Go.Proofs.Ytlgdfiapljmojaa
open Go.RowKit Go.Sort Go.Lib

def leC (x y : Cur) : Prop := ahead y x = false
theorem leC_ord : LeOrd leC := by
  constructor
  · intro a
    show ahead a a = false
    simp only [ahead, Bool.or_eq_false_iff, Bool.and_eq_false_iff, decide_eq_false_iff_not]; omega
  · intro a b c h1 h2
    unfold leC at *
    simp only [ahead, Bool.or_eq_false_iff, Bool.and_eq_false_iff, decide_eq_false_iff_not] at *
    omega
theorem leC_of_ahead {x y : Cur} (h : ahead x y = true) : leC x y := by
  unfold leC
  simp only [ahead, Bool.or_eq_true, Bool.and_eq_true, decide_eq_true_eq] at h
  simp only [ahead, Bool.or_eq_false_iff, Bool.and_eq_false_iff, decide_eq_false_iff_not]
  omega

def curs (L : List Cur) : List Value := L.flatMap Cur.cells
theorem curs_len (L : List Cur) : (curs L).length = L.length * 2 := by
  induction L with
  | nil => rfl
  | cons p l ih => simp [curs, Cur.cells] at ih ⊢; omega
theorem curs_one (L : List Cur) : ∀ u ∈ curs L, u.oneCell' = true := by
  intro u hu
  simp only [curs, List.mem_flatMap, Cur.cells] at hu
  obtain ⟨p, _, hu⟩ := hu
  simp at hu
  rcases hu with rfl | rfl <;> rfl
theorem curs_append (a b : List Cur) : curs (a ++ b) = curs a ++ curs b := by simp [curs]
theorem curs_cons (x : Cur) (l : List Cur) : curs (x :: l) = .slice x.a x.n x.c :: .int .i64 x.i :: curs l := by simp [curs, Cur.cells]
theorem curs_at (L : List Cur) (k : Nat) (x : Cur) (h : L[k]? = some x) : (curs L)[k * 2]? = some (.slice x.a x.n x.c) ∧ (curs L)[k * 2 + 1]? = some (.int .i64 x.i) := by
  induction L generalizing k with
  | nil => simp at h
  | cons q l ih =>
    cases k with
    | zero => simp at h; subst h; simp [curs_cons]
    | succ k =>
      have := ih k (by simpa using h)
      rw [show (k + 1) * 2 = k * 2 + 2 by omega, curs_cons]
      simpa using this
theorem curs_set (L : List Cur) (k : Nat) (x : Cur) : curs (L.set k x) = ((curs L).set (k * 2) (.slice x.a x.n x.c)).set (k * 2 + 1) (.int .i64 x.i) := by
  induction L generalizing k with
  | nil => simp [curs]
  | cons q l ih =>
    cases k with
    | zero => simp [curs_cons]
    | succ k =>
      rw [show (k + 1) * 2 = k * 2 + 2 by omega]
      simp only [List.set_cons_succ, curs_cons, ih]
theorem curs_take (L : List Cur) (n : Nat) : curs (L.take n) = (curs L).take (n * 2) := by
  induction L generalizing n with
  | nil => simp [curs]
  | cons q l ih =>
    cases n with
    | zero => simp [curs]
    | succ n => rw [show (n + 1) * 2 = n * 2 + 2 by omega]; simp only [List.take_succ_cons, curs_cons, ih]

/-- The heap in memory: its struct in block h, its things behind v; what they lead to was there at W0. -/
structure HeapAt (W0 w : World) (h : Nat) (v : Value) (L : List Cur) : Prop where
  blk : w.heap[h]? = some (.cells #[v, .func (.func 14) #[] #[]] 43 (0, 0))
  row : Row w 47 2 v L.length (curs L)
  base : Ext W0 w
  hge : W0.heap.size ≤ h
  vge : ∀ g, v.ownBlock = some g → W0.heap.size ≤ g ∧ g ≠ h
  ok : ∀ x ∈ L, x.Ok W0

theorem HeapAt.chg {S : Nat → Prop} {W0 w w' : World} {h : Nat} {v : Value} {L : List Cur} (H : HeapAt W0 w h v L) (hc : Chg S w w') (h1 : ¬ S h) (h2 : ∀ g, v.ownBlock = some g → ¬ S g) (h3 : ∀ k, k < W0.heap.size → ¬ S k) : HeapAt W0 w' h v L :=
  ⟨by rw [hc.block _ (block_lt H.blk) h1]; exact H.blk, H.row.chg hc h2, Chg.ext ((Chg.of_ext H.base).trans hc (fun _ _ h => h)) h3, H.hge, H.vge, H.ok⟩
theorem HeapAt.ext {W0 w w' : World} {h : Nat} {v : Value} {L : List Cur} (H : HeapAt W0 w h v L) (hc : Ext w w') : HeapAt W0 w' h v L :=
  H.chg (Chg.of_ext (S := fun _ => False) hc) id (fun _ _ => id) (fun _ _ => id)
theorem HeapAt.okW {W0 w : World} {h : Nat} {v : Value} {L : List Cur} (H : HeapAt W0 w h v L) {x : Cur} (hx : x ∈ L) : x.Ok w := (H.ok x hx).ext H.base

/-- The cells of a place. -/
theorem HeapAt.at {W0 w : World} {h : Nat} {a : Option Addr} {n c : Nat} {L : List Cur} (H : HeapAt W0 w h (.slice a n c) L) (h0 : L ≠ []) : ∃ g, a = some ⟨g, 0, none⟩ ∧ n = L.length ∧ W0.heap.size ≤ g ∧ g ≠ h ∧ g < w.heap.size ∧
    (∀ (k : Nat) (x : Cur), L[k]? = some x → w.cell? ⟨g, k * 2, none⟩ = some (.slice x.a x.n x.c) ∧ w.cell? ⟨g, k * 2 + 1, none⟩ = some (.int .i64 x.i)) ∧ ∀ j, w.frozen? ⟨g, j, none⟩ = false := by
  have hl : 0 < L.length := List.length_pos_iff.2 h0
  have hrow := H.row
  have hlt := fun g => H.row.lt (g := g)
  obtain ⟨_, ⟨_, hz⟩ | ⟨g, cap, cur, e, _⟩⟩ := H.row
  · omega
  · simp at e
    obtain ⟨rfl, rfl, rfl⟩ := e
    obtain ⟨g1, g2⟩ := H.vge g rfl
    refine ⟨g, rfl, rfl, g1, g2, hlt g rfl, fun k x hx => ?_, fun j => World.ownsRow.frozenAt hrow j⟩
    have hk := (List.getElem?_eq_some_iff.1 hx).1
    obtain ⟨e1, e2⟩ := curs_at L k x hx
    exact ⟨(World.ownsRow.cellAt hrow (k * 2) (by omega)).trans e1, (World.ownsRow.cellAt hrow (k * 2 + 1) (by omega)).trans e2⟩

/-- A thing is laid at a place. -/
theorem HeapAt.set {W0 w : World} {h g : Nat} {n c : Nat} {L : List Cur} (H : HeapAt W0 w h (.slice (some ⟨g, 0, none⟩) n c) L) (k : Nat) (x : Cur) (hx : x.Ok W0) :
    HeapAt W0 ((w.setCell ⟨g, k * 2, none⟩ (.slice x.a x.n x.c)).setCell ⟨g, k * 2 + 1, none⟩ (.int .i64 x.i)) h (.slice (some ⟨g, 0, none⟩) n c) (L.set k x) := by
  obtain ⟨hg, hgh⟩ := H.vge g rfl
  have hn : L.length = n := by
    obtain ⟨_, ⟨e, _⟩ | ⟨g', cap, cur, e, _⟩⟩ := H.row
    · simp at e
    · simp at e; exact e.2.1.symm
  have hrow := H.row
  rw [hn] at hrow
  obtain ⟨r1, _⟩ := World.ownsRow.stored hrow (k * 2) (.slice x.a x.n x.c)
  obtain ⟨r2, _⟩ := World.ownsRow.stored r1 (k * 2 + 1) (.int .i64 x.i)
  have hc1 := setCell_chg w g (k * 2) (.slice x.a x.n x.c)
  have hc2 := setCell_chg (w.setCell ⟨g, k * 2, none⟩ (.slice x.a x.n x.c)) g (k * 2 + 1) (.int .i64 x.i)
  have hc := hc1.trans hc2 (fun _ _ h => h)
  refine ⟨by rw [hc.block _ (block_lt H.blk) (fun e => hgh e.symm)]; exact H.blk, ?_, Chg.ext ((Chg.of_ext H.base).trans hc (fun _ _ h => h)) (fun i hi e => by omega), H.hge, H.vge, fun y hy => ?_⟩
  · rw [List.length_set, hn, curs_set]; exact r2
  · rcases List.mem_or_eq_of_mem_set hy with hy | rfl
    · exact H.ok y hy
    · exact hx

/-- A thing is appended. -/
theorem HeapAt.grow {W0 w w2 w3 : World} {h : Nat} {v v' : Value} {L : List Cur} {x : Cur} (H : HeapAt W0 w h v L) (hx : x.Ok W0) (h2 : Ext w w2) (hrow : Row w3 47 2 v' (L.length + 1) (curs L ++ curs [x]))
    (hc : Chg (fun k => v.ownBlock = some k) w2 w3) (hv' : v'.ownBlock = v.ownBlock ∨ v'.ownBlock = some w2.heap.size) :
    HeapAt W0 (w3.setCell ⟨h, 0, none⟩ v') h v' (L ++ [x]) ∧ Chg (fun k => k = h ∨ v.ownBlock = some k) w (w3.setCell ⟨h, 0, none⟩ v') := by
  have hh := block_lt H.blk
  have hh2 : h < w2.heap.size := Nat.lt_of_lt_of_le hh h2.size
  have hb3 : w3.heap[h]? = some (.cells #[v, .func (.func 14) #[] #[]] 43 (0, 0)) := by
    rw [hc.block _ hh2 (fun e => (H.vge h e).2 rfl), h2.block hh]; exact H.blk
  have hne : ∀ g, v'.ownBlock = some g → W0.heap.size ≤ g ∧ g ≠ h := by
    intro g hg
    rcases hv' with e | e
    · exact H.vge g (e ▸ hg)
    · rw [e] at hg; cases hg
      exact ⟨Nat.le_trans H.base.size h2.size, by omega⟩
  have hc4 := setCell_chg w3 h 0 v'
  have call : Chg (fun k => k = h ∨ v.ownBlock = some k) w (w3.setCell ⟨h, 0, none⟩ v') :=
    ((Chg.of_ext (S := fun k => k = h ∨ v.ownBlock = some k) h2).trans hc (fun _ _ h => .inr h)).trans hc4 (fun _ _ h => .inl h)
  refine ⟨⟨?_, ?_, Chg.ext ((Chg.of_ext H.base).trans call (fun _ _ h => h)) ?_, H.hge, hne, ?_⟩, call⟩
  · rw [setCell_block hb3]; simp
  · have := hrow.chg hc4 (fun g hg => (hne g hg).2)
    rw [List.length_append, curs_append]; exact this
  · intro i hi
    rintro (rfl | e)
    · have := H.hge; omega
    · have := (H.vge i e).1; omega
  · intro y hy
    rcases List.mem_append.1 hy with hy | hy
    · exact H.ok y hy
    · simp at hy; subst hy; exact hx

theorem info_cur : (Try.prog.info? 47).map (fun i => (i.zero, i.size, i.bytes)) = some (some (.agg #[.slice none 0 0, .int .i64 0]), 2, 32) := by kernel_rfl

/-- What a push leaves. -/
def Pushed (W0 w : World) (h : Nat) (v : Value) (L : List Cur) (x : Cur) (w' : World) : Prop :=
  ∃ v' L', HeapAt W0 w' h v' L' ∧ L'.Perm (x :: L) ∧ Heap leC L' ∧ Chg (fun k => k = h ∨ v.ownBlock = some k) w w' ∧ (v'.ownBlock = v.ownBlock ∨ ∃ g, v'.ownBlock = some g ∧ w.heap.size ≤ g)

set_option maxHeartbeats 4000000 in
set_option maxRecDepth 100000 in
theorem push_any (W0 w : World) (h : Nat) (v : Value) (L : List Cur) (x : Cur) (H : HeapAt W0 w h v L) (hp : Heap leC L) (hx : x.Ok W0) (hL : L.length < 4000) :
    Calls Try.prog 16 #[.pointer (some ⟨h, 0, none⟩), x.val] w fun e w' => e = .returned (.tuple #[]) ∧ Pushed W0 w h v L x w' := by
  unfold Cur.val
  have hh : h < w.heap.size := block_lt H.blk
  have H' := Lib.hid H
  have HP := Lib.hid hp
  have HO := Lib.hid hx
  have hv0 := cell_of_block H.blk 0
  have hv : w.cell? ⟨h, 0, none⟩ = some v := by simpa using hv0
  have hvg := H.vge
  have VG := Lib.hid hvg
  clear H hp hx hv0 hvg
  obtain ⟨va, vn, vc, rfl⟩ : ∃ va vn vc, v = .slice va vn vc := by obtain ⟨a, c, e⟩ := H'.out.row.shape; exact ⟨a, _, c, e⟩
  go_enter Try.func16, Try.ntmps16
  go_wp2_with fail
  generalize hW : World.alloc _ _ = W
  have HX : Hid (Ext w W) := Lib.hid (by subst hW; exact (Ext.refl w).alloc _)
  have c0 : W.cell? ⟨w.heap.size, 0, none⟩ = some (.slice x.a x.n x.c) := by subst hW; simp [go_sem]
  have c1 : W.cell? ⟨w.heap.size, 1, none⟩ = some (.int .i64 x.i) := by subst hW; simp [go_sem]
  replace hv := (HX.out.cell (p := ⟨h, 0, none⟩) hh).trans hv
  clear hW
  obtain ⟨T, hT⟩ : ∃ T : Nat → Bool, T = fun k => decide ((Value.slice va vn vc).ownBlock = some k) := ⟨_, rfl⟩
  have HT := Lib.hid hT
  have t1 : T h = false := by rw [hT]; simp; intro e; exact (VG.out h e).2 rfl
  have t2 : T w.heap.size = false := by rw [hT]; simp; intro e; have := H'.out.row.lt e; omega
  clear hT
  have e0 := cell_turned (T := T) c0 t2
  have e1 := cell_turned (T := T) c1 t2
  have e2 := cell_turned (T := T) hv t1
  refine wp_region_plan 10 (fun w' => ∃ p : Turned, w' = turned W T p.d p.f p.os) (.reads [0, 1, 2, 3, 4, 5] (.one 6 (.one 7 (.reads [8, 9] (.one 10 .done))))) (by kernel_rfl) (by kernel_rfl) (fun _ _ dd _ _ hh => by cases dd <;> exact hh) ?_ ?_
  · exact turned_of_ext (Ext.drewN W 1)
  refine wpPlan_reads ?_
  simp only [pickOps, List.getElem?_cons_succ, List.getElem?_cons_zero]
  repeat (go_big_quiet_step (fail))
  refine wpQuiet_nil ?_
  clear e0 e1 e2
  refine wpPlan_one ?_
  simp only [pickOps, List.getElem?_cons_succ, List.getElem?_cons_zero]
  go_wp2_with fail
  refine thenX_mk (turned_of_ext (((Ext.refl W).alloc _).drew)) (wpPlan_one ?_)
  generalize hW2 : World.drew (World.alloc _ _) = W2
  have HX2 : Hid (Ext W W2) := Lib.hid (by subst hW2; exact ((Ext.refl W).alloc _).drew)
  have c2 : Src W2 2 (.slice (some ⟨W.heap.size, 0, none⟩) 1 1) 1 (curs [x]) := by
    refine .inr ⟨_, _, rfl, by simp [curs, Cur.cells], fun j u hj => ?_, curs_one _⟩
    rw [Go.WideShapes.add_plain, Nat.zero_add]
    subst hW2
    match j, hj with
    | 0, hj => simp [curs, Cur.cells] at hj; subst hj; simp [go_sem]
    | 1, hj => simp [curs, Cur.cells] at hj; subst hj; simp [go_sem]
    | j + 2, hj => simp [curs, Cur.cells] at hj
  clear hW2
  obtain ⟨i0, hi, hz0, hz1, hz2⟩ := info_parts info_cur
  obtain ⟨v', W3, happ, hrow3, hchg3, hloc⟩ := append_any (P := Try.prog) W2 41 41 47 i0 _ 2 32 Try.underlying41 hi hz0 hz1 hz2 rfl (by decide) ((H'.out.row.ext HX.out).ext HX2.out) c2 (by unfold maxLen; omega) (by omega)
  obtain ⟨va', vc', rfl⟩ := hrow3.shape
  have HA := Lib.hid happ; clear happ
  have HG := Lib.hid (H'.out.grow HO.out (HX.out.trans HX2.out) hrow3 hchg3 hloc)
  have HC3 := Lib.hid hchg3
  have HLoc := Lib.hid hloc
  have b3 : W3.heap[h]? = some (.cells #[.slice va vn vc, .func (.func 14) #[] #[]] 43 (0, 0)) := by
    rw [hchg3.block _ (Nat.lt_of_lt_of_le hh (HX.out.trans HX2.out).size) (fun e => (VG.out h e).2 rfl), (HX.out.trans HX2.out).block hh]; exact H'.out.blk
  have hf3 : W3.frozen? ⟨h, 0, none⟩ = false := free_of_block b3 0
  have hc3 : W3.cell? ⟨h, 0, none⟩ = some (.slice va vn vc) := by have := cell_of_block b3 0; simpa using this
  have HTT : Hid (∃ p : Turned, W3 = turned W T p.d p.f p.os) := Lib.hid (turned_of_chg ((Chg.of_ext HX2.out).trans hchg3 (fun i hi e => by rw [HT.out]; simpa using e)))
  clear hchg3 hrow3 hloc b3 hi hz0 hz1 hz2 c0 c1 hv c2
  simp only [pickOps, List.getElem?_cons_succ, List.getElem?_cons_zero]
  refine wpList_append_run rfl (.tmp 9) (.tmp 11) 41 rfl _ _ _ _ rfl rfl HA.out ?_
  go_wp2_with fail
  refine thenX_mk HTT.out (wpPlan_reads ?_)
  simp only [pickOps, List.getElem?_cons_succ, List.getElem?_cons_zero]
  repeat (go_big_quiet_step (fail))
  refine wpQuiet_nil ?_
  refine wpPlan_one ?_
  simp only [pickOps, List.getElem?_cons_succ, List.getElem?_cons_zero]
  go_wp2_with fail
  refine thenX_last (wpPlan_done ?_)
  obtain ⟨hg1, hg2⟩ := HG.out
  generalize W3.setCell _ _ = W4 at *
  have H4 := Lib.hid hg1; have HC4 := Lib.hid hg2
  clear hg1 hg2 HG hc3 hf3
  have hv4 : W4.cell? ⟨h, 0, none⟩ = some (.slice va' (L.length + 1) vc') := by have := cell_of_block H4.out.blk 0; simpa using this
  go_wp2_with fail
  obtain ⟨g, rfl, hq1, hg0, hgh, hglt, hq2, hq3⟩ := H4.out.at (by simp)
  clear hv4 hq1 hq2 hq3
  go_loopw [4] (fun i wr => ∃ (k : Nat) (L' : List Cur), i = .int .i64 k ∧ k < L'.length ∧ L'.length = L.length + 1 ∧ Hid (UpInv leC L' k ∧ L'.Perm (x :: L) ∧ HeapAt W0 wr h (.slice (some ⟨g, 0, none⟩) (L.length + 1) vc') L' ∧ Chg (· = g) W4 wr)) (fun i _ => (intOf i).toNat)
  case atStart =>
    refine ⟨L.length, L ++ [x], rfl, by simp, by simp, Lib.hid ⟨UpInv.new HP.out x, ?_, H4.out, Chg.refl _ _⟩⟩
    exact List.perm_append_comm (l₁ := L) (l₂ := [x])
  case round =>
    obtain ⟨k, L', rfl, hk, hl, I⟩ := hrel
    have hvr : wr.cell? ⟨h, 0, none⟩ = some (.slice (some ⟨g, 0, none⟩) (L.length + 1) vc') := by have := cell_of_block I.out.2.2.1.blk 0; simpa using this
    have hfr : wr.cell? ⟨h, 1, none⟩ = some (.func (.func 14) #[] #[]) := by have := cell_of_block I.out.2.2.1.blk 1; simpa using this
    have fin : ∀ w' : World, Hid (Ext wr w' → Heap leC L' → Pushed W0 w h (.slice va vn vc) L x w') := fun w' => Lib.hid (fun hx hheap => by
      obtain ⟨_, i2, i3, i4⟩ := I.out
      refine ⟨_, L', i3.ext hx, i2, hheap, (HC4.out.trans i4 (fun i hi e => ?_)).trans (Chg.of_ext (S := fun _ => False) hx) (fun _ _ h => h.elim), ?_⟩
      · subst e
        rcases HLoc.out with e | e
        · exact .inr (e ▸ rfl)
        · exfalso
          have h1 : i = W2.heap.size := by simpa [Value.ownBlock] using e
          have := (HX.out.trans HX2.out).size
          omega
      · rcases HLoc.out with e | e
        · exact .inl e
        · exact .inr ⟨_, e, (HX.out.trans HX2.out).size⟩)
    rcases Nat.eq_zero_or_pos k with rfl | hk0
    · have hheap : Heap leC L' := I.out.1.done (.inl rfl)
      have Hh := Lib.hid hheap; clear hheap
      go_wp2_with fail
      refine wp_region_split_lit [] [0, 1, 2, 3, 4, 5, 6, 7, 8, 9, 10, 11, 12, 13, 14, 15, 16, 17, 18, 19, 20, 21, 22] [23, 24] (by kernel_rfl) (by kernel_rfl) (fun _ _ dd _ _ hh => by cases dd <;> exact hh) ?_
      simp only [pickOps, List.getElem?_cons_succ, List.getElem?_cons_zero]
      refine wpQuiet_nil ?_
      repeat (go_big_quiet_step (fail))
      refine wpQuiet_nil ?_
      intro w2 hw'
      have HXw : Hid (Ext wr w2) := Lib.hid (by obtain ⟨k, rfl⟩ := hw'; exact Ext.drewN _ _)
      clear hw'
      go_wp2_with fail
      go_end0
      exact ⟨rfl, (fin w2).out HXw.out Hh.out⟩
    · obtain ⟨g', hgg, hnn, hq4, hq5, hq6, hcells, hfz⟩ := I.out.2.2.1.at (fun e => by rw [e] at hk; simp at hk)
      simp at hgg; subst hgg
      clear hnn
      have hkl : k < L.length + 1 := by omega
      have HLn := Lib.hid hl; clear hl
      have hxk : L'[k]? = some L'[k] := List.getElem?_eq_getElem hk
      have hyk : L'[(k - 1) / 2]? = some (L'[(k - 1) / 2]'(by omega)) := List.getElem?_eq_getElem (by omega)
      obtain ⟨xk, hxk'⟩ : ∃ xk, xk = L'[k] := ⟨_, rfl⟩
      obtain ⟨yk, hyk'⟩ : ∃ yk, yk = (L'[(k - 1) / 2]'(by omega)) := ⟨_, rfl⟩
      rw [← hxk'] at hxk; rw [← hyk'] at hyk
      clear hxk' hyk'
      obtain ⟨x0, x1⟩ := hcells k xk hxk
      obtain ⟨y0, y1⟩ := hcells _ yk hyk
      have XO := Lib.hid (I.out.2.2.1.ok xk (List.mem_of_getElem? hxk))
      have YO := Lib.hid (I.out.2.2.1.ok yk (List.mem_of_getElem? hyk))
      have XK := Lib.hid hxk; have YK := Lib.hid hyk
      have f0 := hfz (k * 2); have f1 := hfz (k * 2 + 1)
      have f2 := hfz ((k - 1) / 2 * 2); have f3 := hfz ((k - 1) / 2 * 2 + 1)
      clear hcells hfz hxk hyk
      have hkk : 0 < (k : Int) := by omega
      go_wp2_with fail
      refine wp_region_split_lit [] [0, 1, 2, 3, 4, 5, 6, 7, 8, 9, 10, 11, 12, 13, 14, 15, 16, 17, 18, 19, 20, 21, 22] [23, 24] (by kernel_rfl) (by kernel_rfl) (fun _ _ dd _ _ hh => by cases dd <;> exact hh) ?_
      simp only [pickOps, List.getElem?_cons_succ, List.getElem?_cons_zero]
      refine wpQuiet_nil ?_
      repeat (go_big_quiet_step (fail))
      refine wpQuiet_nil ?_
      intro w2 hw'
      have HXw : Hid (Ext wr w2) := Lib.hid (by obtain ⟨k, rfl⟩ := hw'; exact Ext.drewN _ _)
      clear hw'
      go_wp2_with fail
      refine (before_any xk yk w2 (XO.out.ext (I.out.2.2.1.base.trans HXw.out)) (YO.out.ext (I.out.2.2.1.base.trans HXw.out))).mono ?_
      rintro e w3 ⟨rfl, hx3⟩
      have HX3 := Lib.hid (HXw.out.trans hx3); clear hx3 HXw
      cases hah : ahead xk yk
      · have Hh : Hid (Heap leC L') := Lib.hid (I.out.1.done (.inr (fun a b ha hb => by
          rw [XK.out] at ha; rw [YK.out] at hb; cases ha; cases hb; exact hah)))
        clear hah
        go_wp2_with fail
        go_end0
        exact ⟨rfl, (fin w3).out HX3.out Hh.out⟩
      · have HA := Lib.hid hah; clear hah
        have hgr : g < wr.heap.size := World.block_lt_of_cell? wr _ x0
        have hhr : h < wr.heap.size := World.block_lt_of_cell? wr _ hvr
        replace hvr := (HX3.out.cell (p := ⟨h, 0, none⟩) hhr).trans hvr
        replace x0 := (HX3.out.cell (p := ⟨g, k * 2, none⟩) hgr).trans x0
        replace x1 := (HX3.out.cell (p := ⟨g, k * 2 + 1, none⟩) hgr).trans x1
        replace y0 := (HX3.out.cell (p := ⟨g, (k - 1) / 2 * 2, none⟩) hgr).trans y0
        replace y1 := (HX3.out.cell (p := ⟨g, (k - 1) / 2 * 2 + 1, none⟩) hgr).trans y1
        replace f0 := (HX3.out.frozens g (k * 2) hgr).trans f0
        replace f1 := (HX3.out.frozens g (k * 2 + 1) hgr).trans f1
        replace f2 := (HX3.out.frozens g ((k - 1) / 2 * 2) hgr).trans f2
        replace f3 := (HX3.out.frozens g ((k - 1) / 2 * 2 + 1) hgr).trans f3
        clear hfr
        go_wp2_with fail
        refine wp_region_split_lit [9, 10, 11] [0, 1, 2, 3, 4, 5, 6, 7, 8, 12, 13, 14, 15, 16, 17, 18, 19, 20, 21, 22, 23, 24, 25, 26, 27, 28] [29, 30, 31] (by kernel_rfl) (by kernel_rfl) (fun _ _ dd _ _ hh => by cases dd <;> exact hh) ?_
        simp only [pickOps, List.getElem?_cons_succ, List.getElem?_cons_zero]
        repeat (go_big_quiet_step (fail))
        refine wpQuiet_nil ?_
        repeat (go_big_quiet_step (fail))
        refine wpQuiet_nil ?_
        intro w4 hw'
        have HX4 : Hid (Ext w3 w4) := Lib.hid (by obtain ⟨k, rfl⟩ := hw'; exact Ext.drewN _ _)
        clear hw'
        have hgr3 : g < w3.heap.size := World.block_lt_of_cell? w3 _ x0
        have hhr3 : h < w3.heap.size := World.block_lt_of_cell? w3 _ hvr
        replace x0 := (HX4.out.cell (p := ⟨g, k * 2, none⟩) hgr3).trans x0
        replace x1 := (HX4.out.cell (p := ⟨g, k * 2 + 1, none⟩) hgr3).trans x1
        replace y0 := (HX4.out.cell (p := ⟨g, (k - 1) / 2 * 2, none⟩) hgr3).trans y0
        replace y1 := (HX4.out.cell (p := ⟨g, (k - 1) / 2 * 2 + 1, none⟩) hgr3).trans y1
        replace f0 := (HX4.out.frozens g (k * 2) hgr3).trans f0
        replace f1 := (HX4.out.frozens g (k * 2 + 1) hgr3).trans f1
        replace f2 := (HX4.out.frozens g ((k - 1) / 2 * 2) hgr3).trans f2
        replace f3 := (HX4.out.frozens g ((k - 1) / 2 * 2 + 1) hgr3).trans f3
        clear hvr
        go_wp2_with fail
        obtain ⟨i1, i2, i3, i4⟩ := I.out
        have hs3 := (i3.ext (HX3.out.trans HX4.out)).set k yk YO.out
        have hs4 := hs3.set ((k - 1) / 2) xk XO.out
        refine ⟨⟨(k - 1) / 2, swapL L' k ((k - 1) / 2) xk yk, ?_, by rw [swapL_length]; omega, by rw [swapL_length]; exact HLn.out, Lib.hid ⟨i1.step leC_ord hk0 XK.out YK.out (leC_of_ahead HA.out), (swapL_perm XK.out YK.out).trans i2, hs4, ?_⟩⟩, ?_⟩
        · rw [show ((k : Int) - 1) / 2 = (((k - 1) / 2 : Nat) : Int) by omega]
        · exact ((((i4.trans (Chg.of_ext (S := fun _ => False) (HX3.out.trans HX4.out)) (fun _ _ h => h.elim)).trans (setCell_chg _ g _ _) (fun _ _ h => h)).trans (setCell_chg _ g _ _) (fun _ _ h => h)).trans (setCell_chg _ g _ _) (fun _ _ h => h)).trans (setCell_chg _ g _ _) (fun _ _ h => h)
        · simp [intOf]; omega

end Go.Proofs.Ytlgdfiapljmojaa
