/- MergeCuts: the walk. -/
import Derived.Test.YtlgdfiapljmojaaMgl
namespace Go.Proofs.Ytlgdfiapljmojaa
open Go.RowKit Go.Sort Go.Lib

theorem elem_lists : ElemOk Try.prog 22 24 1 24 :=
  ⟨Try.underlying22, by
    obtain ⟨i0, hi, hz0, hz1, hz2⟩ := info_parts (show (Try.prog.info? 24).map (fun i => (i.zero, i.size, i.bytes)) = some (some (.slice none 0 0), 1, 24) from by kernel_rfl)
    exact ⟨i0, _, hi, hz0, hz1, hz2, rfl⟩, by decide⟩

theorem Sl.Ok.chg {S : Nat → Prop} {w w' : World} {x : Sl} (h : x.Ok w) (hc : Chg S w w') (hn : x.n ≠ 0 → ∀ g, x.v.ownBlock = some g → ¬ S g) : x.Ok w' := by
  by_cases h0 : x.n = 0
  · refine ⟨?_, h.2⟩
    have hl := src_len h.1
    rcases h.1 with e | ⟨ad, c', e, hl', _, h1⟩
    · exact .inl e
    · refine .inr ⟨ad, c', e, hl', fun j u hj => ?_, h1⟩
      have := (List.getElem?_eq_some_iff.1 hj).1
      omega
  · exact ⟨h.1.chg hc (hn h0), h.2⟩
theorem Sl.Ok.lt {w : World} {x : Sl} (h : x.Ok w) (h0 : x.n ≠ 0) {g : Nat} (hg : x.v.ownBlock = some g) : g < w.heap.size := by
  obtain ⟨b, off, p, e, _, c0, _⟩ := pts_src h.1 (show 0 < x.n by omega)
  have := World.block_lt_of_cell? w _ c0
  rw [Sl.v, e] at hg
  simp [Value.ownBlock] at hg
  subst hg; exact this

/-- Lists of one's own: the row of the slices, and each one's points. -/
structure OwnLists (w W : World) (v : Value) (ls : List Sl) : Prop where
  row : Row W 24 1 v ls.length (ls.map Sl.v)
  own : ∀ g, v.ownBlock = some g → w.heap.size ≤ g
  ok : ∀ x ∈ ls, x.Ok W ∧ (x.n ≠ 0 → ∀ g, x.v.ownBlock = some g → v.ownBlock ≠ some g)
  ext : Ext w W

theorem OwnLists.nil (w : World) : OwnLists w w (.slice none 0 0) [] := ⟨Row.nil _ _ _, fun g hg => by simp [Value.ownBlock] at hg, by simp, Ext.refl _⟩
theorem OwnLists.next {w W W' : World} {v : Value} {ls : List Sl} (h : OwnLists w W v ls) (hx : Ext W W') : OwnLists w W' v ls := ⟨h.row.ext hx, h.own, fun x hm => ⟨(h.ok x hm).1.ext hx, (h.ok x hm).2⟩, h.ext.trans hx⟩
theorem vs_one (ls : List Sl) : ∀ u ∈ ls.map Sl.v, u.oneCell' = true := by
  intro u hu; obtain ⟨x, _, rfl⟩ := List.mem_map.1 hu; rfl
theorem OwnLists.src {w W : World} {v : Value} {ls : List Sl} (h : OwnLists w W v ls) : Src W 1 v ls.length (ls.map Sl.v) := h.row.src (vs_one ls)

/-- One more list, that was there. -/
theorem OwnLists.snoc {w W W' w3 : World} {v v' : Value} {ls : List Sl} {x : Sl} (h : OwnLists w W v ls) (hx : Ext W W') (hxo : x.Ok W') (hne : x.n ≠ 0 → ∀ g, x.v.ownBlock = some g → v.ownBlock ≠ some g)
    (ha : Appended W' 24 1 v (ls.length + 1) (ls.map Sl.v ++ [x.v]) v' w3) : OwnLists w w3 v' (ls ++ [x]) := by
  have hs := h.ext.size
  have hs2 := hx.size
  refine ⟨by rw [List.length_append, List.map_append]; exact ha.row, fun g hg => ?_, fun y hy => ?_, Chg.ext ((Chg.of_ext (h.ext.trans hx)).trans ha.chg (fun _ _ h => h)) (fun i hi e => ?_)⟩
  · rcases ha.loc with e | e
    · exact h.own g (e ▸ hg)
    · rw [e] at hg; cases hg; omega
  · have hyo : y.Ok W' ∧ (y.n ≠ 0 → ∀ g, y.v.ownBlock = some g → v.ownBlock ≠ some g) := by
      rcases List.mem_append.1 hy with hy | hy
      · exact ⟨(h.ok y hy).1.ext hx, (h.ok y hy).2⟩
      · simp at hy; subst hy; exact ⟨hxo, hne⟩
    refine ⟨hyo.1.chg ha.chg (fun h0 g hg e => hyo.2 h0 g hg e), fun h0 g hg => ?_⟩
    rcases ha.loc with e | e
    · rw [e]; exact hyo.2 h0 g hg
    · rw [e]; intro e2; cases e2; have := hyo.1.lt h0 hg; omega
  · have := h.own i e; omega

theorem src_slice {W : World} {b : Nat} {x : Sl} {t : TypeId} {fr : Nat × Nat} (h : W.heap[b]? = some (.cells #[.slice x.a x.n x.c] t fr)) : Src W 1 (.slice (some ⟨b, 0, none⟩) 1 1) 1 [x.v] := by
  refine .inr ⟨_, _, rfl, rfl, fun j u hj => ?_, fun u hu => by simp at hu; subst hu; rfl⟩
  rw [Go.WideShapes.add_plain, Nat.zero_add, cell_of_block h]
  simpa [Sl.v] using hj

theorem CutTo.sl {w W : World} {out : List Pt} {v : Value} (h : CutTo w out v W) : ∃ x : Sl, v = .slice x.a x.n x.c ∧ x.l = out ∧ x.n = out.length ∧ x.Ok W ∧ ∀ g, x.v.ownBlock = some g → w.heap.size ≤ g := by
  obtain ⟨a, c, rfl⟩ := h.row.shape
  refine ⟨⟨a, out.length, c, out⟩, rfl, rfl, rfl, ⟨row_src h.row, ?_⟩, h.own⟩
  obtain ⟨_, ⟨e, e2⟩ | ⟨g, cap, cur, e, _, _, hnc, _⟩⟩ := h.row
  · simp at e; show out.length ≤ c; omega
  · simp at e; show out.length ≤ c; omega

theorem totS_cut {L M : List Sl} {f t : Int} (h : L.map Sl.l = (M.map Sl.l).map (cutL f t)) : totS L ≤ totS M := by
  rw [← totS_map, ← totS_map, h]
  generalize M.map Sl.l = ms
  induction ms with
  | nil => simp
  | cons m ms ih =>
    have := cutL_len f t m
    simp at ih ⊢; omega

theorem cutL_two (p q : Pt) (hp : p.t = 1) (hq : q.t = 2) : cutL 2 3 [p, q] = [q] := by simp [cutL, hp, hq]

set_option maxHeartbeats 16000000 in
set_option maxRecDepth 100000 in
theorem mergeCuts_any (w : World) (a : Option Addr) (n c : Nat) (ls : List Sl) (f t : Int) (hs : Src w 1 (.slice a n c) n (ls.map Sl.v)) (hok : ∀ x ∈ ls, x.Ok w ∧ x.n ≤ 1099511627776000) (hn : n ≤ 1099511627776000) :
    Calls Try.prog 5 #[.slice a n c, .agg #[.int .i64 f, .int .i64 t]] w fun e w' => e = .returned (.bool true) ∧ Ext w w' := by
  have HS := Lib.hid hs
  have HO := Lib.hid hok
  have HLn := Lib.hid (lists_len hs)
  clear hs hok
  go_enter Try.func5, Try.ntmps5
  go_wp2_with fail
  generalize hW : World.alloc _ _ = W
  have HXW : Hid (Ext w W) := Lib.hid (by subst hW; exact (Ext.refl w).alloc _)
  have sp0 : Hid (W.cell? ⟨w.heap.size, 0, none⟩ = some (.int .i64 f)) := Lib.hid (by subst hW; simp [go_sem])
  have sp1 : Hid (W.cell? ⟨w.heap.size, 1, none⟩ = some (.int .i64 t)) := Lib.hid (by subst hW; simp [go_sem])
  clear hW
  refine (few_any W a n c ls (HS.out.ext HXW.out) (fun x hx => ⟨(HO.out x hx).1.ext HXW.out, (HO.out x hx).2⟩) hn).mono ?_
  rintro e w0 ⟨b, rfl, rfl, hb⟩
  cases b
  · go_wp2_with fail
    go_ret
    exact ⟨rfl, HXW.out⟩
  replace hb := hb rfl
  go_wp2_with fail
  refine (merge_any W a n c ls (HS.out.ext HXW.out) (fun x hx => (HO.out x hx).1.ext HXW.out) (by omega)).mono ?_
  rintro e w1 hM0
  obtain ⟨hx1, va, vn, vc, ve, rfl, hM⟩ := hM0.parts
  clear hM0
  have HX1 := Lib.hid hx1; clear hx1
  have HM := Lib.hid hM; clear hM
  go_wp2_with fail
  generalize hW2 : World.alloc _ _ = W2
  have HX2 : Hid (Ext w1 W2) := Lib.hid (by subst hW2; exact (Ext.refl w1).alloc _)
  have hS2 : Hid (Src W2 3 (.slice (some ⟨w1.heap.size, 0, none⟩) 2 2) 2 (pts [⟨1, 0, 0⟩, ⟨2, 0, 0⟩])) := Lib.hid (by
    subst hW2
    exact src_new w1 #[.int .i64 1, .int .i64 0, .int .i64 0, .int .i64 2, .int .i64 0, .int .i64 0] _ 3 2 _ rfl (pts_one [⟨1, 0, 0⟩, ⟨2, 0, 0⟩]))
  clear hW2
  refine (cut_any W2 _ 2 2 2 3 _ hS2.out (by omega)).mono ?_
  rintro e w3 ⟨v3, rfl, hc3⟩
  rw [cutL_two _ _ rfl rfl] at hc3
  obtain ⟨oa, oc, rfl⟩ := hc3.row.shape
  have HX3 := Lib.hid (HX2.out.trans hc3.ext)
  obtain ⟨ob, oo, op, hoa, hop, o0, o1, o2⟩ := pts_src (row_src hc3.row) (show 0 < 1 by omega)
  simp at hop
  subst hop
  simp only [Nat.zero_mul, Nat.add_zero] at o0
  simp only [List.length_cons, List.length_nil, Nat.zero_add] at hoa ⊢
  subst hoa
  clear hc3 o1 o2
  rcases HM.out with ⟨rfl, hrs, out, rfl, hrow, hown, hmg, hlen⟩ | ⟨rfl, rfl, rfl, rfl, hnr⟩
  case inr =>
    go_wp2_with fail
    go_ret
    exact ⟨rfl, (HXW.out.trans HX1.out).trans HX3.out⟩
  have ROW := Lib.hid (row_src (hrow.ext HX3.out))
  have MG := Lib.hid hmg
  have RS := Lib.hid hrs
  have hol : out.length < 2000 := by rw [totS_map] at hlen; omega
  have HXA := Lib.hid ((HXW.out.trans HX1.out).trans HX3.out)
  have HXB := Lib.hid (HX1.out.trans HX3.out)
  clear hrs hrow hown hmg hlen HM hS2
  go_wp2_with fail
  clear o0
  go_loopw [8, 9] (fun s8 s9 wr => ∃ (k : Nat) (pa : Option Addr) (pc : Nat) (L : List Sl), s8 = .slice pa k pc ∧ s9 = .int .i64 k ∧ k ≤ n ∧ Hid (L.length = k ∧ OwnLists w3 wr (.slice pa k pc) L ∧ L.map Sl.l = ((ls.take k).map Sl.l).map (cutL f t))) (fun _ s9 _ => n - (intOf s9).toNat)
  case atStart => exact ⟨0, none, 0, [], rfl, rfl, by omega, Lib.hid ⟨rfl, OwnLists.nil _, by simp⟩⟩
  case round =>
    obtain ⟨k, pa, pc, L, rfl, rfl, hk, I⟩ := hrel
    by_cases hlt : k < n
    · obtain ⟨lb, lo, x, rfl, hxi, l0⟩ := lists_src (HS.out.ext (HXA.out.trans I.out.2.1.ext)) hlt
      have XI := Lib.hid hxi
      have HT := Lib.hid (take_snoc' hxi)
      have XO := Lib.hid ((HO.out x (List.mem_of_getElem? hxi)).1.ext (HXA.out.trans I.out.2.1.ext))
      have hxn : x.n < 2000 := by
        have h1 := le_totS (List.mem_of_getElem? hxi)
        have h2 := src_len (HO.out x (List.mem_of_getElem? hxi)).1.1
        omega
      clear hxi
      have sl := World.block_lt_of_cell? W _ sp0.out
      have s0 := ((HXB.out.trans I.out.2.1.ext).cell (p := ⟨w.heap.size, 0, none⟩) sl).trans sp0.out
      have s1 := ((HXB.out.trans I.out.2.1.ext).cell (p := ⟨w.heap.size, 1, none⟩) sl).trans sp1.out
      go_wp2_with fail
      refine wp_region_split_lit [0] [1, 2, 3, 4, 5, 6, 7, 8] [9, 10, 11, 12] (by kernel_rfl) (by kernel_rfl) (fun _ _ dd _ _ hh => by cases dd <;> exact hh) ?_
      simp only [pickOps, List.getElem?_cons_succ, List.getElem?_cons_zero]
      repeat (go_big_quiet_step (fail))
      refine wpQuiet_nil ?_
      repeat (go_big_quiet_step (fail))
      refine wpQuiet_nil ?_
      intro w4 hw'
      have HX4 : Hid (Ext wr w4) := Lib.hid (by obtain ⟨q, rfl⟩ := hw'; exact Ext.drewN _ _)
      clear hw' s0 s1 l0
      go_wp2_with fail
      refine (cut_any w4 x.a x.n x.c f t x.l (XO.out.1.ext HX4.out) (by omega)).mono ?_
      rintro e w5 ⟨v5, rfl, hc5⟩
      obtain ⟨y, rfl, hy1, hy2, hy3, hy4⟩ := hc5.sl
      have HC5 := Lib.hid hc5.ext
      have Y := Lib.hid (show y.l = cutL f t x.l ∧ y.n = (cutL f t x.l).length ∧ y.Ok w5 ∧ ∀ g, y.v.ownBlock = some g → w4.heap.size ≤ g from ⟨hy1, hy2, hy3, hy4⟩)
      clear hc5 hy1 hy2 hy3 hy4
      go_wp2_with (at_builtin; go_must (refine wpList_append_to (n := L.length) (m := 1) elem_lists rfl _ _ rfl (v := .slice _ _ _) rfl rfl (((I.out.2.1.row.ext HX4.out).ext HC5.out).alloc _) (src_slice (x := y) (heap_alloc_new _ _)) (by unfold maxLen; have := I.out.1; omega) (by have := I.out.1; omega) ?_; intro v' w6 happ); have K := Lib.hid (I.out.2.1.snoc (x := y) ((HX4.out.trans HC5.out).alloc _) (Y.out.2.2.1.ext ((Ext.refl _).alloc _)) (fun _ g hg e => by { have h1 := Y.out.2.2.2 g hg; have h2 := I.out.2.1.row.lt e; have h3 := HX4.out.size; omega }) happ); obtain ⟨pa', pc', rfl⟩ := happ.row.shape; clear happ)
      go_roundw
      case rel =>
        refine ⟨k + 1, pa', pc', L ++ [y], by rw [I.out.1], by go_num, by omega, Lib.hid ⟨by simp [I.out.1], by have := K.out; rw [I.out.1] at this; exact this, ?_⟩⟩
        rw [HT.out, List.map_append, List.map_append, List.map_append, I.out.2.2]
        simp [Y.out.1]
      case measure => simp [intOf]; omega
    · obtain rfl : k = n := by omega
      have hall : ls.take k = ls := List.take_of_length_le (by rw [HLn.out]; exact Nat.le_refl _)
      have HMP : Hid (L.map Sl.l = (ls.map Sl.l).map (cutL f t)) := Lib.hid (by have := I.out.2.2; rw [hall] at this; exact this)
      have hLL := I.out.1
      have hOL := I.out.2.1
      have OL := Lib.hid hOL
      have HLL := Lib.hid hLL
      have hTL : totS L ≤ totS ls := totS_cut HMP.out
      clear hall hLL hOL
      go_wp2_with fail
      have hsrc := OL.out.src
      rw [HLL.out] at hsrc
      refine (merge_any wr pa k pc L hsrc (fun x hx => (OL.out.ok x hx).1) (by omega)).mono ?_
      rintro e w4 hM0
      obtain ⟨hx4, ba, bn, bc, be, rfl, hM⟩ := hM0.parts
      have HX4 := Lib.hid hx4
      rw [HMP.out] at hM
      have RC : ∀ l ∈ (ls.map Sl.l).map (cutL f t), Rises l := by
        intro l hl
        obtain ⟨m, hm, rfl⟩ := List.mem_map.1 hl
        exact (RS.out m hm).cut f t
      rcases hM with ⟨rfl, _, bout, rfl, brow, _, bmg, blen⟩ | ⟨_, _, _, _, hnr⟩
      case inr => exact absurd RC hnr
      have hEQ : bout = cutL f t out := bmg.unique RC (MG.out.cut f t)
      have BR := Lib.hid (row_src brow)
      have HEQ := Lib.hid hEQ
      have sl := World.block_lt_of_cell? W _ sp0.out
      have s0 := (((HXB.out.trans OL.out.ext).trans HX4.out).cell (p := ⟨w.heap.size, 0, none⟩) sl).trans sp0.out
      have s1 := (((HXB.out.trans OL.out.ext).trans HX4.out).cell (p := ⟨w.heap.size, 1, none⟩) sl).trans sp1.out
      have hbl : bout.length < 2000 := by rw [hEQ]; have h1 := cutL_len f t out; omega
      clear hM0 hx4 RC brow bmg blen hEQ hsrc
      go_wp2_with fail
      refine (cut_any w4 va out.length vc f t out (ROW.out.ext (OL.out.ext.trans HX4.out)) (by omega)).mono ?_
      rintro e w5 ⟨v5, rfl, hc5⟩
      obtain ⟨y, rfl, hy1, hy2, hy3, _⟩ := hc5.sl
      have HC5 := Lib.hid hc5.ext
      have Y := Lib.hid (show y.l = cutL f t out ∧ y.n = (cutL f t out).length ∧ y.Ok w5 from ⟨hy1, hy2, hy3⟩)
      have hyn : y.n < 2000 := by have h1 := cutL_len f t out; omega
      clear hc5 hy1 hy2 hy3 s0 s1
      go_wp2_with fail
      refine (same_any w5 ba y.a bout.length bc y.n y.c bout y.l (BR.out.ext HC5.out) Y.out.2.2.1 (by omega) (by omega)).mono ?_
      rintro e w6 ⟨rfl, hx6⟩
      have HX6 := Lib.hid hx6; clear hx6
      have hd : decide (bout = y.l) = true := by rw [decide_eq_true_eq, HEQ.out, Y.out.1]
      rw [hd]
      clear hd
      go_wp2_with fail
      go_ret
      exact ⟨rfl, (((HXA.out.trans OL.out.ext).trans HX4.out).trans HC5.out).trans HX6.out⟩

end Go.Proofs.Ytlgdfiapljmojaa
