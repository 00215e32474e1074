/- MergeTells: the walk. -/
import Derived.Test.YtlgdfiapljmojaaMgl
import Derived.Test.YtlgdfiapljmojaaRefM
import Derived.Test.YtlgdfiapljmojaaRefC
import Derived.Test.YtlgdfiapljmojaaIns
namespace Go.Proofs.Ytlgdfiapljmojaa
open Go.RowKit Go.Sort Go.Lib

/-- The document's Merge's answer in parts. -/
theorem RefMerged.parts {w w' : World} {ls : List (List Pt)} {e : Ending} (h : RefMerged w ls e w') : Ext w w' ∧ ∃ (va : Option Addr) (vn vc : Nat) (ve : Int), e = .returned (.tuple #[.slice va vn vc, .int .i64 ve]) ∧
    ((ve = 0 ∧ (∀ l ∈ ls, Rises l) ∧ ∃ out : List Pt, vn = out.length ∧ Row w' 26 3 (.slice va out.length vc) out.length (pts out) ∧ IsMerge ls out ∧ out.length ≤ (ls.map List.length).sum) ∨ (ve = 2 ∧ vn = 0 ∧ va = none ∧ vc = 0 ∧ ¬ ∀ l ∈ ls, Rises l)) := by
  obtain ⟨hx, ⟨h1, va, vc, out, he, hc, h3, h4⟩ | ⟨hn, he⟩⟩ := h
  · exact ⟨hx, va, _, vc, 0, he, .inl ⟨rfl, h1, out, rfl, hc.row, h3, h4⟩⟩
  · exact ⟨hx, none, 0, 0, 2, he, .inr ⟨rfl, rfl, rfl, rfl, hn⟩⟩
theorem Inserted.parts {w w' : World} {l : List Pt} {p : Pt} {e : Ending} (h : Inserted w l p e w') : Ext w w' ∧ ∃ (va : Option Addr) (vn vc : Nat) (ve : Int), e = .returned (.tuple #[.slice va vn vc, .int .i64 ve]) ∧
    ((ve = 0 ∧ Rises l ∧ ∃ out : List Pt, vn = out.length ∧ Row w' 26 3 (.slice va out.length vc) out.length (pts out) ∧ IsMerge [l, [p]] out ∧ out.length ≤ l.length + 1) ∨ (ve = 2 ∧ vn = 0 ∧ va = none ∧ vc = 0 ∧ ¬ Rises l)) := by
  obtain ⟨hx, ⟨h1, va, vc, out, he, hc, h3, h4⟩ | ⟨hn, he⟩⟩ := h
  · exact ⟨hx, va, _, vc, 0, he, .inl ⟨rfl, h1, out, rfl, hc.row, h3, h4⟩⟩
  · exact ⟨hx, none, 0, 0, 2, he, .inr ⟨rfl, rfl, rfl, rfl, hn⟩⟩

/-- Two answers that say the same. -/
def Alike (w1 w2 : World) (N : Nat) (va ua : Option Addr) (vn vc un uc : Nat) (ve ue : Int) : Prop :=
  ve = ue ∧ ∃ out : List Pt, vn = out.length ∧ un = out.length ∧ Src w1 3 (.slice va out.length vc) out.length (pts out) ∧ Src w2 3 (.slice ua out.length uc) out.length (pts out) ∧ out.length ≤ N

theorem alike_of {w1 w2 : World} {ls : List (List Pt)} {N : Nat} {va ua : Option Addr} {vn vc un uc : Nat} {ve ue : Int} (hN : (ls.map List.length).sum ≤ N)
    (hM : (ve = 0 ∧ (∀ l ∈ ls, Rises l) ∧ ∃ out : List Pt, vn = out.length ∧ Row w1 26 3 (.slice va out.length vc) out.length (pts out) ∧ IsMerge ls out ∧ out.length ≤ N) ∨ (ve = 2 ∧ vn = 0 ∧ va = none ∧ vc = 0 ∧ ¬ ∀ l ∈ ls, Rises l))
    (hR : (ue = 0 ∧ (∀ l ∈ ls, Rises l) ∧ ∃ out : List Pt, un = out.length ∧ Row w2 26 3 (.slice ua out.length uc) out.length (pts out) ∧ IsMerge ls out ∧ out.length ≤ (ls.map List.length).sum) ∨ (ue = 2 ∧ un = 0 ∧ ua = none ∧ uc = 0 ∧ ¬ ∀ l ∈ ls, Rises l)) :
    Alike w1 w2 N va ua vn vc un uc ve ue := by
  rcases hM with ⟨rfl, hr, out, rfl, r1, m1, h1⟩ | ⟨rfl, rfl, rfl, rfl, hn⟩
  · rcases hR with ⟨rfl, _, out2, rfl, r2, m2, h2⟩ | ⟨_, _, _, _, hn⟩
    · have := m1.unique hr m2
      subst this
      exact ⟨rfl, _, rfl, rfl, row_src r1, row_src r2, h1⟩
    · exact absurd hr hn
  · rcases hR with ⟨_, hr, _⟩ | ⟨rfl, rfl, rfl, rfl, _⟩
    · exact absurd hr hn
    · exact ⟨rfl, [], rfl, rfl, .inl ⟨rfl, rfl, rfl⟩, .inl ⟨rfl, rfl, rfl⟩, Nat.zero_le _⟩

theorem vs_one' (L : List Sl) : ∀ u ∈ L.map Sl.v, u.oneCell' = true := fun u hu => by
  obtain ⟨x, _, rfl⟩ := List.mem_map.1 hu
  rfl

theorem two_apart {p q : Pt} (h : p.t < q.t) : IsMerge [[p], [q]] [p, q] := by
  have h1 : Two [p] [] [p] := by simpa using Two.nil.left (p := p) (by simp)
  have h2 : Two [p] [q] [p, q] := by simpa using h1.right (p := q) (by simpa using h)
  exact h2.isMerge (Rises.one p) (Rises.one q)

set_option maxHeartbeats 16000000 in
set_option maxRecDepth 100000 in
theorem mergeTells_any (w : World) (a : Option Addr) (n c : Nat) (ls : List Sl) (f t : Int) (p : Pt) (hs : Src w 1 (.slice a n c) n (ls.map Sl.v)) (hok : ∀ x ∈ ls, x.Ok w ∧ x.n ≤ 1099511627776000) (hn : n ≤ 1099511627776000) :
    Calls Try.prog 6 #[.slice a n c, .agg #[.int .i64 f, .int .i64 t], p.val] w fun e w' => e = .returned (.bool true) ∧ Ext w w' := by
  have HS := Lib.hid hs
  have HO := Lib.hid hok
  have HLn := Lib.hid (lists_len hs)
  clear hs hok
  unfold Pt.val
  go_enter Try.func6, Try.ntmps6
  go_wp2_with fail
  generalize hW : World.alloc _ _ = W
  have HXW : Hid (Ext w W) := Lib.hid (by subst hW; exact ((Ext.refl w).alloc _).alloc _)
  have sp0 : Hid (W.cell? ⟨w.heap.size, 0, none⟩ = some (.int .i64 f)) := Lib.hid (by subst hW; simp [go_sem])
  have sp1 : Hid (W.cell? ⟨w.heap.size, 1, none⟩ = some (.int .i64 t)) := Lib.hid (by subst hW; simp [go_sem])
  have sp2 : Hid (W.heap[w.heap.size + 1]? = some (.cells #[.int .i64 p.t, .int .i64 p.v, .int .i64 p.s] 26 (0, 0))) := Lib.hid (by subst hW; exact heap_alloc2 w _ _)
  clear hW
  refine (few_any W a n c ls (HS.out.ext HXW.out) (fun x hx => ⟨(HO.out x hx).1.ext HXW.out, (HO.out x hx).2⟩) hn).mono ?_
  rintro e w0 ⟨b, rfl, rfl, hb⟩
  cases b
  · go_wp2_with fail
    go_ret
    exact ⟨rfl, HXW.out⟩
  replace hb := hb rfl
  go_wp2_with fail
  refine (merge_any W a n c ls (HS.out.ext HXW.out) (fun x hx => (HO.out x hx).1.ext HXW.out) (by omega)).mono ?_
  rintro e w1 hM0
  obtain ⟨hx1, va, vn, vc, ve, rfl, hM⟩ := hM0.parts
  clear hM0
  have HX1 := Lib.hid hx1; clear hx1
  have HM := Lib.hid hM; clear hM
  go_wp2_with fail
  refine (refMerge_any w1 a n c ls (HS.out.ext (HXW.out.trans HX1.out)) (fun x hx => (HO.out x hx).1.ext (HXW.out.trans HX1.out)) (by omega)).mono ?_
  rintro e w2 hM0
  obtain ⟨hx2, ua, un, uc, ue, rfl, hR⟩ := hM0.parts
  clear hM0
  have HX2 := Lib.hid hx2; clear hx2
  have htot : ((ls.map Sl.l).map List.length).sum ≤ 2000 := by rw [totS_map]; omega
  have AL : Alike w1 w2 2000 va ua vn vc un uc ve ue := alike_of htot (by
    rcases HM.out with ⟨h1, h2, out, h3, h4, h5, h6, h7⟩ | h
    · exact .inl ⟨h1, h2, out, h3, h4, h6, by omega⟩
    · exact .inr h) hR
  clear HM hR htot
  obtain ⟨rfl, out, rfl, rfl, s1, s2, hol⟩ := AL
  have S1 := Lib.hid (s1.ext HX2.out); have S2 := Lib.hid s2
  clear s1 s2
  go_wp2_with fail
  have f0 := cell_turned (T := fun _ => false) ((((HX1.out.trans HX2.out).cell (p := ⟨w.heap.size, 0, none⟩) (World.block_lt_of_cell? W _ sp0.out)).trans sp0.out)) rfl
  have f1 := cell_turned (T := fun _ => false) ((((HX1.out.trans HX2.out).cell (p := ⟨w.heap.size, 1, none⟩) (World.block_lt_of_cell? W _ sp1.out)).trans sp1.out)) rfl
  refine wp_region_plan 24 (fun w' => ∃ p : Turned, w' = turned w2 (fun _ => false) p.d p.f p.os) (.reads [0, 1] (.one 2 (.reads [3, 4, 5, 6, 7, 8, 9, 10, 11, 12, 13, 14, 16, 17, 18, 19, 20] (.one 15 (.one 21 (.one 22 (.one 23 (.one 24 .done)))))))) (by kernel_rfl) (by kernel_rfl) (fun _ _ dd _ _ hh => by cases dd <;> exact hh) ?_ ?_
  · exact turned_of_ext (Ext.drewN w2 1)
  refine wpPlan_reads ?_
  simp only [pickOps, List.getElem?_cons_succ, List.getElem?_cons_zero]
  repeat (go_big_quiet_step (fail))
  refine wpQuiet_nil ?_
  refine wpPlan_one ?_
  simp only [pickOps, List.getElem?_cons_succ, List.getElem?_cons_zero]
  go_wp2_with fail
  refine (same_any _ va ua out.length vc out.length uc out out (S1.out.ext (Ext.drewN _ 1)) (S2.out.ext (Ext.drewN _ 1)) (by omega) (by omega)).mono ?_
  rintro e w3 ⟨rfl, hx3⟩
  have HX3 : Hid (Ext w2 w3) := Lib.hid ((Ext.drewN w2 1).trans hx3); clear hx3
  rw [decide_eq_true (rfl : out = out)]
  go_wp2_with fail
  refine thenX_mk (turned_of_ext HX3.out) (wpPlan_reads ?_)
  simp only [pickOps, List.getElem?_cons_succ, List.getElem?_cons_zero]
  repeat (go_big_quiet_step (fail))
  refine wpQuiet_nil ?_
  refine wpPlan_one ?_
  simp only [pickOps, List.getElem?_cons_succ, List.getElem?_cons_zero]
  clear f0 f1
  go_wp2_with fail
  refine (cut_any w3 ua out.length uc f t out (S2.out.ext HX3.out) (by omega)).mono ?_
  rintro e w4 ⟨v4, rfl, hc4⟩
  have C4 := Lib.hid hc4
  obtain ⟨xa, xc, rfl⟩ := hc4.row.shape
  clear hc4
  go_wp2_with fail
  refine thenX_mk (turned_of_ext (HX3.out.trans C4.out.ext)) (wpPlan_one ?_)
  simp only [pickOps, List.getElem?_cons_succ, List.getElem?_cons_zero]
  go_wp2_with fail
  refine (refCut_any w4 ua out.length uc f t out (S2.out.ext (HX3.out.trans C4.out.ext)) (by omega)).mono ?_
  rintro e w5 ⟨v5, rfl, hc5⟩
  have C5 := Lib.hid hc5
  obtain ⟨ya, yc, rfl⟩ := hc5.row.shape
  clear hc5
  have hcl := cutL_len f t out
  go_wp2_with fail
  refine thenX_mk (turned_of_ext ((HX3.out.trans C4.out.ext).trans C5.out.ext)) (wpPlan_one ?_)
  simp only [pickOps, List.getElem?_cons_succ, List.getElem?_cons_zero]
  go_wp2_with fail
  refine (same_any w5 xa ya _ xc _ yc _ _ ((row_src C4.out.row).ext C5.out.ext) (row_src C5.out.row) (by omega) (by omega)).mono ?_
  rintro e w6 ⟨rfl, hx6⟩
  rw [decide_eq_true (rfl : cutL f t out = cutL f t out)]
  have HX6 : Hid (Ext w2 w6) := Lib.hid (((HX3.out.trans C4.out.ext).trans C5.out.ext).trans hx6); clear hx6
  go_wp2_with fail
  refine thenX_mk (turned_of_ext HX6.out) (wpPlan_one ?_)
  simp only [pickOps, List.getElem?_cons_succ, List.getElem?_cons_zero]
  go_wp2_with fail
  refine thenX_mk (turned_of_ext HX6.out) (wpPlan_one ?_)
  simp only [pickOps, List.getElem?_cons_succ, List.getElem?_cons_zero]
  go_wp2_with fail
  refine thenX_last (wpPlan_done ?_)
  have HW6 : Hid (Ext W w6) := Lib.hid ((HX1.out.trans HX2.out).trans HX6.out)
  clear S1 S2 C4 C5 HX3 HX6 HX1 HX2 hcl sp0 sp1
  have b6 := (HW6.out.block (block_lt sp2.out)).trans sp2.out
  have q0 : w6.cell? ⟨w.heap.size + 1, 0, none⟩ = some (.int .i64 p.t) := by have := cell_of_block b6 0; simpa using this
  have q1 : w6.cell? ⟨w.heap.size + 1, 1, none⟩ = some (.int .i64 p.v) := by have := cell_of_block b6 1; simpa using this
  have q2 : w6.cell? ⟨w.heap.size + 1, 2, none⟩ = some (.int .i64 p.s) := by have := cell_of_block b6 2; simpa using this
  have B6 := Lib.hid b6
  clear b6 sp2
  refine dite (0 < n) (fun hn0 => ?someT) (fun hn0 => ?noneT)
  case' someT =>
    obtain ⟨lb, lo, x, rfl, hxi, l0⟩ := lists_src (HS.out.ext (HXW.out.trans HW6.out)) hn0
    have XO : Hid (x.Ok w6) := Lib.hid ((HO.out x (List.mem_of_getElem? hxi)).1.ext (HXW.out.trans HW6.out))
    have hxn : x.n < 2000 := by
      have h1 := le_totS (List.mem_of_getElem? hxi)
      have h2 := src_len (HO.out x (List.mem_of_getElem? hxi)).1.1
      omega
    clear hxi
    simp only [Nat.add_zero] at l0
    go_wp2_with fail
    clear l0
  case' noneT =>
    obtain ⟨x, hx⟩ : ∃ x : Sl, x = ⟨none, 0, 0, []⟩ := ⟨_, rfl⟩
    have XO : Hid (x.Ok w6) := Lib.hid (by subst hx; exact ⟨.inl ⟨rfl, rfl, rfl⟩, Nat.le_refl _⟩)
    have hxn : x.n < 2000 := by subst hx; show 0 < 2000; omega
    go_wp2_with fail
    rw [show Value.slice none 0 0 = .slice x.a x.n x.c by rw [hx]]
    clear hx
  all_goals
    refine (insert_any w6 x.a x.n x.c x.l p XO.out.1 XO.out.2 (by omega)).mono ?_
    rintro e w7 hI0
    obtain ⟨hx7, ia, im, ic, ie, rfl, hI⟩ := hI0.parts
    have HI := Lib.hid hI
    have HX7 := Lib.hid hx7
    clear hI0 hI
    replace q0 := (hx7.cell (p := ⟨w.heap.size + 1, 0, none⟩) (World.block_lt_of_cell? w6 _ q0)).trans q0
    replace q1 := (hx7.cell (p := ⟨w.heap.size + 1, 1, none⟩) (World.block_lt_of_cell? w6 _ q1)).trans q1
    replace q2 := (hx7.cell (p := ⟨w.heap.size + 1, 2, none⟩) (World.block_lt_of_cell? w6 _ q2)).trans q2
    clear hx7
    go_wp2_with fail
    clear q0 q1 q2
    generalize hW8 : World.alloc _ _ = W8
    have HX8 : Hid (Ext w7 W8) := Lib.hid (by subst hW8; exact ((Ext.refl w7).alloc _).alloc _)
    have b0 : W8.heap[w7.heap.size]? = some (.cells #[.int .i64 p.t, .int .i64 p.v, .int .i64 p.s] 26 (0, 0)) := by
      subst hW8
      have h1 := heap_alloc_new w7 (.cells #[.int .i64 p.t, .int .i64 p.v, .int .i64 p.s] 26 (0, 0))
      have hx := (Ext.refl (w7.alloc (.cells #[.int .i64 p.t, .int .i64 p.v, .int .i64 p.s] 26 (0, 0)))).alloc (.cells #[.slice x.a x.n x.c, .slice (some ⟨w7.heap.size, 0, none⟩) 1 1] 24 (0, 0))
      rw [hx.block (block_lt h1)]; exact h1
    have c0 : W8.cell? ⟨w7.heap.size + 1, 0, none⟩ = some (.slice x.a x.n x.c) := by subst hW8; simp [go_sem]
    have c1 : W8.cell? ⟨w7.heap.size + 1, 1, none⟩ = some (.slice (some ⟨w7.heap.size, 0, none⟩) 1 1) := by subst hW8; simp [go_sem]
    have S8 : Hid (Src W8 1 (.slice (some ⟨w7.heap.size + 1, 0, none⟩) 2 2) 2 ([x, (⟨some ⟨w7.heap.size, 0, none⟩, 1, 1, [p]⟩ : Sl)].map Sl.v)) := Lib.hid (by
      refine .inr ⟨_, _, rfl, rfl, fun j u hj => ?_, vs_one' _⟩
      rw [Go.WideShapes.add_plain, Nat.zero_add]
      match j, hj with
      | 0, hj => simp at hj; subst hj; exact c0
      | 1, hj => simp at hj; subst hj; exact c1
      | j + 2, hj => simp at hj)
    have O8 : Hid (Sl.Ok W8 ⟨some ⟨w7.heap.size, 0, none⟩, 1, 1, [p]⟩) := Lib.hid ⟨src_pt' (p := p) b0, Nat.le_refl _⟩
    have O8x : Hid (Sl.Ok W8 x) := Lib.hid (XO.out.ext (HX7.out.trans HX8.out))
    have hxl : x.l.length = x.n := src_len XO.out.1
    clear hW8 b0 c0 c1
    refine (refMerge_any W8 _ 2 2 [x, ⟨some ⟨w7.heap.size, 0, none⟩, 1, 1, [p]⟩] S8.out (fun y hy => by { simp at hy; rcases hy with rfl | rfl; { exact O8x.out }; { exact O8.out } }) (by simp [totS]; omega)).mono ?_
    rintro e w9 hM0
    obtain ⟨hx9, ja, jn, jc, je, rfl, hR⟩ := hM0.parts
    clear hM0
    have HX9 : Hid (Ext w7 w9) := Lib.hid (HX8.out.trans hx9); clear hx9
    have AL : Alike w7 w9 (x.n + 1) ia ja im ic jn jc ie je := alike_of (ls := [x.l, [p]]) (by simp; omega) (by
      rcases HI.out with ⟨h1, h2, out, h3, h4, h5, h6⟩ | ⟨h1, h2, h3, h4, h5⟩
      · exact .inl ⟨h1, by simp [h2, Rises.one], out, h3, h4, h5, by omega⟩
      · exact .inr ⟨h1, h2, h3, h4, fun h => h5 (h _ (by simp))⟩) hR
    clear HI hR S8 O8 O8x hxl
    obtain ⟨rfl, out2, rfl, rfl, s3, s4, ho2⟩ := AL
    have S3 := Lib.hid (s3.ext HX9.out); have S4 := Lib.hid s4
    clear s3 s4
    go_wp2_with fail
    generalize hW9 : World.alloc _ _ = W9
    have HXX : Hid (Ext w9 W9) := Lib.hid (by subst hW9; exact (((Ext.refl w9).alloc _).alloc _).alloc _)
    have b0 : W9.heap[w9.heap.size]? = some (.cells #[.int .i64 1, .int .i64 0, .int .i64 0] 26 (0, 0)) := by
      subst hW9
      have h1 := heap_alloc_new w9 (.cells #[.int .i64 1, .int .i64 0, .int .i64 0] 26 (0, 0))
      have hx := ((Ext.refl (w9.alloc (.cells #[.int .i64 1, .int .i64 0, .int .i64 0] 26 (0, 0)))).alloc (.cells #[.int .i64 2, .int .i64 0, .int .i64 0] 26 (0, 0))).alloc (.cells #[.slice (some ⟨w9.heap.size, 0, none⟩) 1 1, .slice (some ⟨w9.heap.size + 1, 0, none⟩) 1 1] 24 (0, 0))
      rw [hx.block (block_lt h1)]; exact h1
    have b1 : W9.heap[w9.heap.size + 1]? = some (.cells #[.int .i64 2, .int .i64 0, .int .i64 0] 26 (0, 0)) := by
      subst hW9
      have h1 := heap_alloc2 w9 (.cells #[.int .i64 1, .int .i64 0, .int .i64 0] 26 (0, 0)) (.cells #[.int .i64 2, .int .i64 0, .int .i64 0] 26 (0, 0))
      have hx := (Ext.refl ((w9.alloc (.cells #[.int .i64 1, .int .i64 0, .int .i64 0] 26 (0, 0))).alloc (.cells #[.int .i64 2, .int .i64 0, .int .i64 0] 26 (0, 0)))).alloc (.cells #[.slice (some ⟨w9.heap.size, 0, none⟩) 1 1, .slice (some ⟨w9.heap.size + 1, 0, none⟩) 1 1] 24 (0, 0))
      rw [hx.block (block_lt h1)]; exact h1
    have c0 : W9.cell? ⟨w9.heap.size + 1 + 1, 0, none⟩ = some (.slice (some ⟨w9.heap.size, 0, none⟩) 1 1) := by subst hW9; simp [go_sem]
    have c1 : W9.cell? ⟨w9.heap.size + 1 + 1, 1, none⟩ = some (.slice (some ⟨w9.heap.size + 1, 0, none⟩) 1 1) := by subst hW9; simp [go_sem]
    have S9 : Hid (Src W9 1 (.slice (some ⟨w9.heap.size + 1 + 1, 0, none⟩) 2 2) 2 ([(⟨some ⟨w9.heap.size, 0, none⟩, 1, 1, [⟨1, 0, 0⟩]⟩ : Sl), ⟨some ⟨w9.heap.size + 1, 0, none⟩, 1, 1, [⟨2, 0, 0⟩]⟩].map Sl.v)) := Lib.hid (by
      refine .inr ⟨_, _, rfl, rfl, fun j u hj => ?_, vs_one' _⟩
      rw [Go.WideShapes.add_plain, Nat.zero_add]
      match j, hj with
      | 0, hj => simp at hj; subst hj; exact c0
      | 1, hj => simp at hj; subst hj; exact c1
      | j + 2, hj => simp at hj)
    have O9a : Hid (Sl.Ok W9 ⟨some ⟨w9.heap.size, 0, none⟩, 1, 1, [⟨1, 0, 0⟩]⟩) := Lib.hid ⟨src_pt' (p := ⟨1, 0, 0⟩) b0, Nat.le_refl _⟩
    have O9b : Hid (Sl.Ok W9 ⟨some ⟨w9.heap.size + 1, 0, none⟩, 1, 1, [⟨2, 0, 0⟩]⟩) := Lib.hid ⟨src_pt' (p := ⟨2, 0, 0⟩) b1, Nat.le_refl _⟩
    clear hW9 b0 b1 c0 c1
    refine (merge_any W9 _ 2 2 [⟨some ⟨w9.heap.size, 0, none⟩, 1, 1, [⟨1, 0, 0⟩]⟩, ⟨some ⟨w9.heap.size + 1, 0, none⟩, 1, 1, [⟨2, 0, 0⟩]⟩] S9.out (fun x hx => by { simp at hx; rcases hx with rfl | rfl; { exact O9a.out }; { exact O9b.out } }) (by simp [totS])).mono ?_
    rintro e w10 hM0
    obtain ⟨hx10, oa, on, oc, oe, rfl, hM⟩ := hM0.parts
    clear hM0
    rcases hM with ⟨rfl, ha1, o1, rfl, ha4, ha2, m1, ha3⟩ | ⟨_, _, _, _, hnr⟩
    case inr => exact absurd (by simp [Rises]) hnr
    have ho1 : o1 = [⟨1, 0, 0⟩, ⟨2, 0, 0⟩] := IsMerge.unique (by simp [Rises]) m1 (two_apart (by decide))
    subst ho1
    have HX10 : Hid (Ext w9 w10) := Lib.hid (HXX.out.trans hx10)
    clear hx10 m1 S9 O9a O9b ha1 ha2 ha3 ha4
    simp only [List.length_cons, List.length_nil, Nat.zero_add]
    go_wp2_with fail
    refine (same_any w10 ia ja out2.length ic out2.length jc out2 out2 (S3.out.ext HX10.out) (S4.out.ext HX10.out) (by omega) (by omega)).mono ?_
    rintro e w11 ⟨rfl, hx11⟩
    rw [decide_eq_true (rfl : out2 = out2)]
    have HX11 := Lib.hid hx11; clear hx11
    go_wp2_with fail
    go_ret
    exact ⟨rfl, ((((HXW.out.trans HW6.out).trans HX7.out).trans HX9.out).trans HX10.out).trans HX11.out⟩

end Go.Proofs.Ytlgdfiapljmojaa
