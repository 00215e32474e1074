/- The document's disk: put. -/
import Derived.Test.YtgdgjnecgelalaaGreatDoorRk1
import Derived.Test.YtgdgjnecgelalaaGreatDoorPlan
import Derived.Test.YtgdgjnecgelalaaGreatDoorApp
namespace Go.Proofs.YtgdgjnecgelalaaGreatDoor
open Go.RowKit Go.Sort Go.Lib

/-- What a call on the document's disk leaves. -/
def RkTo (w : World) (rd : Nat) (V : Value) (room left ops : Int) (L' : List RF) (w' : World) : Prop :=
  ∃ la' lc', RkRaw w' rd room left ops L' la' lc' ∧ Chg (RkT rd V) w w' ∧ ∀ g, (Value.slice la' L'.length lc').ownBlock = some g → V.ownBlock = some g ∨ w.heap.size ≤ g
/-- A file put where its name wants it. -/
def PutF (L : List RF) (x : RF) (L' : List RF) : Prop := ∃ k, BubF L x k L' ∧ ∀ j y, k = j + 1 → L[j]? = some y → ¬ bl x.nm < bl y.nm

theorem rfs_snoc (L : List RF) (x : RF) : rfs L ++ rfs [x] = rfs (L ++ [x]) := (rfs_append _ _).symm
theorem RkRaw.push {w w' : World} {rd : Nat} {room left ops : Int} {L : List RF} {la la' : Option Addr} {lc lc' : Nat} {x : RF} (h : RkRaw w rd room left ops L la lc) (hx : FOk w (RkT rd (.slice la L.length lc)) x)
    (ha : Appended w 91 4 (.slice la L.length lc) (L.length + 1) (rfs L ++ rfs [x]) (.slice la' (L.length + 1) lc') w') :
    RkRaw (w'.setCell ⟨rd, 3, none⟩ (.slice la' (L.length + 1) lc')) rd room left ops (L ++ [x]) la' lc' ∧ Chg (RkT rd (.slice la L.length lc)) w (w'.setCell ⟨rd, 3, none⟩ (.slice la' (L.length + 1) lc')) ∧
      ∀ g, (Value.slice la' (L.length + 1) lc').ownBlock = some g → (Value.slice la L.length lc).ownBlock = some g ∨ w.heap.size = g := by
  have hlt := block_lt h.blk
  have own : ∀ g, (Value.slice la' (L.length + 1) lc').ownBlock = some g → (Value.slice la L.length lc).ownBlock = some g ∨ w.heap.size = g := fun g hg => by
    rcases ha.loc with e | e
    · exact .inl (by rw [← e]; exact hg)
    · rw [e] at hg; simp at hg; exact .inr hg
  have ownd : ∀ g, (Value.slice la' (L.length + 1) lc').ownBlock = some g → g ≠ rd := fun g hg => by
    rcases own g hg with e | e
    · exact h.own g e
    · omega
  have hb : w'.heap[rd]? = some (.cells #[.int .i64 room, .int .i64 left, .int .i64 ops, .slice la L.length lc] 33 (0, 0)) := (ha.chg.block rd hlt (fun e => h.own rd e rfl)).trans h.blk
  have hc2 := setCell_chg w' rd 3 (.slice la' (L.length + 1) lc')
  have hne : ∀ f ∈ L ++ [x], FOk w (RkT rd (.slice la L.length lc)) f := fun f hf => by
    rcases List.mem_append.1 hf with hf | hf
    · exact h.ok f hf
    · simp at hf; subst hf; exact hx
  refine ⟨⟨?_, ?_, fun f hf => ⟨?_, fun g hg => ?_, (hne f hf).cap⟩, ?_⟩, (ha.chg.mono (T := RkT rd (.slice la L.length lc)) (fun _ _ e => .inr e)).trans hc2 (fun _ _ e => .inl e), own⟩
  · have := setCell_block (i := 3) hb (.slice la' (L.length + 1) lc')
    simpa using this
  · rw [rfs_snoc] at ha
    rw [List.length_append]
    exact ha.row.chg hc2 (fun g hg e => ownd g hg e)
  · exact ((hne f hf).src.chg ha.chg (fun g hg e => ((hne f hf).own g hg).1 (.inr e))).chg hc2 (fun g hg e => ((hne f hf).own g hg).1 (.inl e))
  · obtain ⟨o1, o2⟩ := (hne f hf).own g hg
    have hs1 := ha.chg.size
    have hs2 := hc2.size
    refine ⟨?_, by omega⟩
    rintro (e | e)
    · exact o1 (.inl e)
    · rw [List.length_append] at e
      rcases own g e with e | e
      · exact o1 (.inr e)
      · omega
  · rw [List.length_append]; exact ownd

/-- Put's way through the loop. -/
structure RkMid (w : World) (rd : Nat) (room left ops : Int) (L : List RF) (la : Value) (x : RF) (k : Nat) (L1 : List RF) (g lc : Nat) (wr : World) : Prop where
  bub : BubF L x k L1
  tab : RkRaw wr rd room left ops L1 (some ⟨g, 0, none⟩) lc
  chg : Chg (RkT rd la) w wr
  loc : (la.ownBlock = some g ∧ g < w.heap.size) ∨ w.heap.size < g
theorem RkMid.step {w : World} {rd : Nat} {room left ops : Int} {L : List RF} {la : Value} {x : RF} {j : Nat} {L1 : List RF} {g lc : Nat} {wr wb wc wd : World} {y : RF} (M : RkMid w rd room left ops L la x (j + 1) L1 g lc wr) (hy : L[j]? = some y) (hlt : Op.bytesLess x.nm.toList y.nm.toList = true)
    (hxb : Ext wr wb) (hc : Chg (· = g) wb wc) (hxd : Ext wc wd) (R : RkRaw wd rd room left ops (L1.set (j + 1) y) (some ⟨g, 0, none⟩) lc) :
    RkMid w rd room left ops L la x j ((L1.set (j + 1) y).set j x) g lc (putF wd g j x) := by
  have hS : g < w.heap.size → RkT rd la g := fun h => by
    rcases M.loc with e | e
    · exact .inr e.1
    · omega
  have hcd : Chg (· = g) wb wd := hc.trans (Chg.of_ext (S := fun _ => False) hxd) (fun _ _ e => e.elim)
  have hall : Chg (· = g) wb (putF wd g j x) := hcd.trans (putF_chg _ _ _ _) (fun _ _ e => e)
  have hxo : FOk wd (RkT rd (.slice (some ⟨g, 0, none⟩) (L1.set (j + 1) y).length lc)) x := by
    have h1 : FOk wr (RkT rd (.slice (some ⟨g, 0, none⟩) L1.length lc)) x := M.tab.ok x (List.mem_of_getElem? M.bub.at)
    have h2 : FOk wd (RkT rd (.slice (some ⟨g, 0, none⟩) L1.length lc)) x := h1.chg ((Chg.of_ext (S := (· = g)) hxb).trans hcd (fun _ _ e => e)) (fun b e => by subst e; exact .inr rfl)
    rw [List.length_set]; exact h2
  refine ⟨M.bub.step hy (by rw [rless_eq] at hlt; simpa using hlt), R.set j x hxo, (M.chg.trans (Chg.of_ext (S := fun _ => False) hxb) (fun _ _ e => e.elim)).trans hall (fun i hi e => by subst e; exact hS hi), M.loc⟩
theorem RkMid.fin {w : World} {rd : Nat} {room left ops : Int} {L : List RF} {la : Value} {x : RF} {k : Nat} {L1 : List RF} {g lc : Nat} {wr wb : World} (M : RkMid w rd room left ops L la x k L1 g lc wr) (hx : Ext wr wb)
    (hgo : ¬ ∃ j y, k = j + 1 ∧ L[j]? = some y ∧ Op.bytesLess x.nm.toList y.nm.toList = true) : ∃ L', PutF L x L' ∧ RkTo w rd la room left ops L' wb := by
  refine ⟨L1, ⟨k, M.bub, fun j y e1 e2 hl => hgo ⟨j, y, e1, e2, by rw [rless_eq]; simpa using hl⟩⟩, _, _, M.tab.ext hx, M.chg.trans (Chg.of_ext (S := fun _ => False) hx) (fun _ _ e => e.elim), fun b hb => ?_⟩
  have e : b = g := by simpa [Value.ownBlock] using hb.symm
  subst e
  rcases M.loc with e | e
  · exact .inl e.1
  · exact .inr (by omega)
theorem RkRaw.cells {w : World} {rd : Nat} {room left ops : Int} {L : List RF} {g lc r : Nat} {x : RF} (h : RkRaw w rd room left ops L (some ⟨g, 0, none⟩) lc) (hx : L[r]? = some x) :
    w.cell? ⟨g, r * 4, none⟩ = some (.string x.nm) ∧ w.cell? ⟨g, r * 4 + 1, none⟩ = some (.slice x.a x.n x.c) ∧ w.cell? ⟨g, r * 4 + 2, none⟩ = some (.int .i64 (x.la : Int)) ∧ w.cell? ⟨g, r * 4 + 3, none⟩ = some (.bool x.sy) := by
  obtain ⟨g', x', e, hx', c0, c1, c2, c3, _⟩ := file_cells h.row (List.getElem?_eq_some_iff.1 hx).1
  cases e
  rw [hx] at hx'
  cases hx'
  exact ⟨c0, c1, c2, c3⟩
theorem RkRaw.free {w : World} {rd : Nat} {room left ops : Int} {L : List RF} {g lc : Nat} (h : RkRaw w rd room left ops L (some ⟨g, 0, none⟩) lc) (i : Nat) : w.frozen? ⟨g, i, none⟩ = false := by
  obtain ⟨_, ⟨e, _⟩ | ⟨g', cap, cur, e, _, hb, _⟩⟩ := h.row
  · simp at e
  · simp only [Value.slice.injEq, Option.some.injEq, Addr.mk.injEq, true_and, and_true] at e
    obtain ⟨rfl, _⟩ := e
    exact free_of_block hb i
theorem RkRaw.lcell {w : World} {rd : Nat} {room left ops : Int} {L : List RF} {la : Option Addr} {lc : Nat} (h : RkRaw w rd room left ops L la lc) : w.cell? ⟨rd, 3, none⟩ = some (.slice la L.length lc) ∧ w.frozen? ⟨rd, 3, none⟩ = false :=
  ⟨by have := cell_of_block h.blk 3; simpa using this, free_of_block h.blk 3⟩

/-- The class of worlds of an append to the row. -/
theorem T_row {w W : World} {rd : Nat} {room left ops : Int} {L : List RF} {la : Option Addr} {lc : Nat} (h : RkRaw w rd room left ops L la lc) (hx : Ext w W) : ∃ T : Nat → Bool, (T = fun k => decide ((Value.slice la L.length lc).ownBlock = some k)) ∧ T rd = false ∧ T w.heap.size = false ∧ T W.heap.size = false := by
  refine ⟨_, rfl, ?_, ?_, ?_⟩
  · simp; intro e; exact h.own rd e rfl
  · simp; intro e; have := h.row.lt e; omega
  · simp; intro e; have := h.row.lt e; have := hx.size; omega

set_option maxHeartbeats 16000000 in
set_option maxRecDepth 100000 in
theorem rk_put {w : World} {rd : Nat} {room left ops : Int} {L : List RF} {la : Option Addr} {lc : Nat} (h : RkRaw w rd room left ops L la lc) (hL : L.length ≤ 3000) (x : RF) (hx : FOk w (RkT rd (.slice la L.length lc)) x) :
    Calls Tryz.prog 62 #[.pointer (some ⟨rd, 0, none⟩), .agg #[.string x.nm, .slice x.a x.n x.c, .int .i64 (x.la : Int), .bool x.sy]] w fun e w' => e = .returned (.tuple #[]) ∧ ∃ L', PutF L x L' ∧ RkTo w rd (.slice la L.length lc) room left ops L' w' := by
  have H := Lib.hid h
  have HX0 := Lib.hid hx
  clear h hx
  have hrdlt := block_lt H.out.blk
  go_enter Tryz.func62, Tryz.ntmps62
  go_wp2_with fail
  generalize hW : World.alloc _ _ = W
  have HX : Hid (Ext w W) := Lib.hid (by subst hW; exact (Ext.refl w).alloc _)
  have B5 : Hid (W.heap[w.heap.size]? = some (.cells #[.string x.nm, .slice x.a x.n x.c, .int .i64 (x.la : Int), .bool x.sy] 91 (0, 0))) := Lib.hid (by subst hW; exact heap_alloc_new w _)
  have HSZ : Hid (w.heap.size < W.heap.size) := Lib.hid (by subst hW; simp)
  clear hW
  obtain ⟨T, hT, t1, t2, t3⟩ := T_row H.out HX.out
  have HT := Lib.hid hT
  clear hT
  have HD := Lib.hid (H.out.ext HX.out)
  have f0 := cell_turned (T := T) HD.out.lcell.1 t1
  have q0 := cell_of_block B5.out 0
  have q1 := cell_of_block B5.out 1
  have q2 := cell_of_block B5.out 2
  have q3 := cell_of_block B5.out 3
  simp only [List.getElem?_toArray, List.getElem?_cons_succ, List.getElem?_cons_zero] at q0 q1 q2 q3
  have f1 := cell_turned (T := T) q0 t2
  have f2 := cell_turned (T := T) q1 t2
  have f3 := cell_turned (T := T) q2 t2
  have f4 := cell_turned (T := T) q3 t2
  clear q0 q1 q2 q3
  refine wp_region_plan 10 (fun w' => ∃ p : Turned, w' = turned W T p.d p.f p.os) (.reads [0, 1, 2, 3, 4, 5] (.one 6 (.one 7 (.reads [8, 9] (.one 10 .done))))) (by kernel_rfl) (by kernel_rfl) (fun _ _ dd _ _ hh => by cases dd <;> exact hh) ?_ ?_
  · exact turned_of_ext (Ext.drewN W 1)
  refine wpPlan_reads ?_
  simp only [pickOps, List.getElem?_cons_succ, List.getElem?_cons_zero]
  repeat (go_big_quiet_step (fail))
  refine wpQuiet_nil ?_
  clear f0 f1 f2 f3 f4
  refine wpPlan_one ?_
  simp only [pickOps, List.getElem?_cons_succ, List.getElem?_cons_zero]
  go_wp2_with fail
  refine thenX_mk (turned_of_ext (((Ext.refl W).alloc _).drew)) (wpPlan_one ?_)
  generalize hW2 : World.drew (World.alloc _ _) = W2
  have HX2 : Hid (Ext W W2) := Lib.hid (by subst hW2; exact ((Ext.refl W).alloc _).drew)
  have HB2 : Hid (W2.heap[W.heap.size]? = some (.cells #[.string x.nm, .slice x.a x.n x.c, .int .i64 (x.la : Int), .bool x.sy] 91 (0, 0))) := Lib.hid (by subst hW2; exact heap_alloc_new W _)
  clear hW2
  have HR2 := Lib.hid (HD.out.ext HX2.out)
  have HO2 := Lib.hid (HX0.out.chg (Chg.of_ext (S := fun _ => False) (HX.out.trans HX2.out)) (fun _ e => e.elim))
  simp only [pickOps, List.getElem?_cons_succ, List.getElem?_cons_zero]
  refine wpList_append_to (n := L.length) (m := 1) elem_file rfl (.tmp 10) (.tmp 12) rfl (v := .slice la L.length lc) rfl rfl HR2.out.row (src_file HB2.out) (by unfold maxLen; omega) (by omega) ?_
  intro v2 w3 happ
  obtain ⟨va2, vc2, rfl⟩ := happ.row.shape
  obtain ⟨P1, P2, P3⟩ := HR2.out.push HO2.out happ
  have HTT : Hid (∃ p : Turned, w3 = turned W T p.d p.f p.os) := Lib.hid (turned_of_chg ((Chg.of_ext HX2.out).trans happ.chg (fun i hi e => by rw [HT.out]; simpa using e)))
  have hb3 : w3.heap[rd]? = some (.cells #[.int .i64 room, .int .i64 left, .int .i64 ops, .slice la L.length lc] 33 (0, 0)) := (happ.chg.block rd (block_lt HR2.out.blk) (fun e => H.out.own rd e rfl)).trans HR2.out.blk
  have g0 : w3.cell? ⟨rd, 3, none⟩ = some (.slice la L.length lc) := by have := cell_of_block hb3 3; simpa using this
  have g1 : w3.frozen? ⟨rd, 3, none⟩ = false := free_of_block hb3 3
  have HP1 := Lib.hid P1
  have HP2 := Lib.hid P2
  have HP3 := Lib.hid P3
  clear happ hb3 P1 P2 P3
  go_wp2_with fail
  refine thenX_mk HTT.out (wpPlan_reads ?_)
  simp only [pickOps, List.getElem?_cons_succ, List.getElem?_cons_zero]
  repeat (go_big_quiet_step (fail))
  refine wpQuiet_nil ?_
  refine wpPlan_one ?_
  simp only [pickOps, List.getElem?_cons_succ, List.getElem?_cons_zero]
  go_wp2_with fail
  refine thenX_last (wpPlan_done ?_)
  clear g0 g1 HTT
  have P1 := HP1.out
  have P2 := HP2.out
  have P3 := HP3.out
  clear HP1 HP2 HP3
  generalize hW4 : World.setCell _ _ _ = W4 at P1 P2 ⊢
  obtain ⟨g, rfl⟩ : ∃ g, va2 = some ⟨g, 0, none⟩ := by
    obtain ⟨g, _, e, _⟩ := file_cells P1.row (r := 0) (by simp)
    exact ⟨g, e⟩
  have M0 : Hid (RkMid w rd room left ops L (.slice la L.length lc) x L.length (L ++ [x]) g vc2 W4) := Lib.hid (by
    have hs1 := (HX.out.trans HX2.out).size
    refine ⟨BubF.start _ _, P1, (Chg.of_ext (HX.out.trans HX2.out)).trans P2 (fun _ _ e => e), ?_⟩
    rcases P3 g rfl with e | e
    · exact .inl ⟨e, H.out.row.lt e⟩
    · exact .inr (by have := HSZ.out; have := HX2.out.size; omega))
  have c4 : W4.cell? ⟨rd, 3, none⟩ = some (.slice (some ⟨g, 0, none⟩) (L.length + 1) vc2) := by have := P1.lcell.1; simpa using this
  clear P1 P2 P3 hW4
  go_wp2_with fail
  clear c4
  go_loopw [4, 5] (fun s4 s5 wr => ∃ (k : Nat) (L1 : List RF), s4 = .int .i64 k ∧ k ≤ L.length ∧ L1.length = L.length + 1 ∧ Hid (RkMid w rd room left ops L (.slice la L.length lc) x k L1 g vc2 wr)) (fun s4 _ _ => (RowKit.intOf s4).toNat)
  case atStart => exact ⟨_, _, by go_num, Nat.le_refl _, by simp, M0⟩
  case round =>
    obtain ⟨k, L1, rfl, hk, hl1, HM⟩ := hrel
    have c1 : wr.cell? ⟨rd, 3, none⟩ = some (.slice (some ⟨g, 0, none⟩) L1.length vc2) := HM.out.tab.lcell.1
    rcases Classical.em (∃ j y, k = j + 1 ∧ L[j]? = some y ∧ Op.bytesLess x.nm.toList y.nm.toList = true) with hgo | hgo
    · obtain ⟨j, y, hkj, hy, hlss⟩ := hgo
      have hyl : L1[j]? = some y := by have h1 := HM.out.bub; rw [hkj] at h1; exact h1.prev.trans hy
      obtain ⟨cx0, cx1, cx2, cx3⟩ := HM.out.tab.cells HM.out.bub.at
      obtain ⟨cy0, cy1, cy2, cy3⟩ := HM.out.tab.cells hyl
      have hp1 : (k : Int) - 1 = (j : Int) := by omega
      have hw1 : IntKind.i64.wrap ((k : Int) - 1) = (j : Int) := by rw [IntWalk.i64_in _ (by omega)]; omega
      have hg0 : 0 < k := by omega
      have hjl : j < L1.length := by omega
      have hkl : k < L1.length := by omega
      have HKJ := Lib.hid hkj
      have HY := Lib.hid hy
      have HYL := Lib.hid hyl
      have HP1 := Lib.hid hp1
      have HLS := Lib.hid hlss
      clear hkj hy hyl hp1
      go_wp2_with fail
      go_big_quiet (fail)
      clear cy0 cy1 cy2 cy3 cx0 cx1 cx2 cx3 c1
      generalize hWe : World.drewN wr _ = We
      have HXE : Hid (Ext wr We) := Lib.hid (by rw [← hWe]; exact Ext.drewN _ _)
      have c1 : We.cell? ⟨rd, 3, none⟩ = some (.slice (some ⟨g, 0, none⟩) L1.length vc2) := (HM.out.tab.ext HXE.out).lcell.1
      obtain ⟨cx0, cx1, cx2, cx3⟩ := (HM.out.tab.ext HXE.out).cells HM.out.bub.at
      clear hWe
      go_wp2_with fail
      generalize hWa : World.alloc _ _ = Wa
      have HXA : Hid (Ext wr Wa) := Lib.hid (by rw [← hWa]; exact HXE.out.alloc _)
      have BA : Hid (Wa.heap[We.heap.size]? = some (.cells #[.string x.nm, .slice x.a x.n x.c, .int .i64 (x.la : Int), .bool x.sy] 91 (0, 0))) := Lib.hid (by rw [← hWa]; exact heap_alloc_new We _)
      obtain ⟨xb, hxb⟩ : ∃ xb, xb = We.heap.size := ⟨_, rfl⟩
      have HXBL : Hid (wr.heap.size ≤ xb) := Lib.hid (by rw [hxb]; exact HXE.out.size)
      rw [← hxb] at BA ⊢
      clear hWa c1 cx0 cx1 cx2 cx3 hxb
      have c1 : Wa.cell? ⟨rd, 3, none⟩ = some (.slice (some ⟨g, 0, none⟩) L1.length vc2) := (HM.out.tab.ext HXA.out).lcell.1
      obtain ⟨cy0, cy1, cy2, cy3⟩ := (HM.out.tab.ext HXA.out).cells HYL.out
      refine wp_region_split_lit [] [0, 1, 2, 3, 4, 5, 6, 7, 8, 9, 10, 11, 12, 13] [14] (by kernel_rfl) (by kernel_rfl) (fun _ _ dd _ _ hh => by cases dd <;> exact hh) ?_
      simp only [pickOps, List.getElem?_cons_succ, List.getElem?_cons_zero]
      refine wpQuiet_nil ?_
      repeat (go_big_quiet_step (fail))
      refine wpQuiet_nil ?_
      intro Wb hw'
      have HXB : Hid (Ext wr Wb) := Lib.hid (by obtain ⟨kk, rfl⟩ := hw'; exact HXA.out.trans (Ext.drewN _ _))
      have BB : Hid (Wb.heap[xb]? = some (.cells #[.string x.nm, .slice x.a x.n x.c, .int .i64 (x.la : Int), .bool x.sy] 91 (0, 0))) := Lib.hid (by obtain ⟨kk, rfl⟩ := hw'; exact ((Ext.drewN Wa _).block (block_lt BA.out)).trans BA.out)
      clear hw' c1 cy0 cy1 cy2 cy3 BA
      obtain ⟨cx0, cx1, cx2, cx3⟩ := (HM.out.tab.ext HXB.out).cells HM.out.bub.at
      have f0 := (HM.out.tab.ext HXB.out).free (k * 4)
      have f1 := (HM.out.tab.ext HXB.out).free (k * 4 + 1)
      have f2 := (HM.out.tab.ext HXB.out).free (k * 4 + 2)
      have f3 := (HM.out.tab.ext HXB.out).free (k * 4 + 3)
      have HR1 := Lib.hid ((HM.out.tab.ext HXB.out).set k y ((HM.out.tab.ext HXB.out).ok _ (List.mem_of_getElem? HYL.out)))
      simp only [putF, RF.v] at HR1
      go_wp2_with fail
      clear cx0 cx1 cx2 cx3 f0 f1 f2 f3
      generalize hWc : World.setCell _ _ _ = Wc at HR1 ⊢
      have HCC : Hid (Chg (· = g) Wb Wc) := Lib.hid (by rw [← hWc]; exact putF_chg Wb g k y)
      have hgx : xb ≠ g := by
        have h1 := HM.out.tab.row.lt (g := g) rfl
        have h2 := HXBL.out
        omega
      have BC : Hid (Wc.heap[xb]? = some (.cells #[.string x.nm, .slice x.a x.n x.c, .int .i64 (x.la : Int), .bool x.sy] 91 (0, 0))) := Lib.hid ((HCC.out.block xb (block_lt BB.out) hgx).trans BB.out)
      clear hWc BB
      have c1 : Wc.cell? ⟨rd, 3, none⟩ = some (.slice (some ⟨g, 0, none⟩) L1.length vc2) := by have := HR1.out.lcell.1; simpa using this
      have x0 : Wc.cell? ⟨xb, 0, none⟩ = some (.string x.nm) := by have := cell_of_block BC.out 0; simpa using this
      have x1 : Wc.cell? ⟨xb, 1, none⟩ = some (.slice x.a x.n x.c) := by have := cell_of_block BC.out 1; simpa using this
      have x2 : Wc.cell? ⟨xb, 2, none⟩ = some (.int .i64 (x.la : Int)) := by have := cell_of_block BC.out 2; simpa using this
      have x3 : Wc.cell? ⟨xb, 3, none⟩ = some (.bool x.sy) := by have := cell_of_block BC.out 3; simpa using this
      refine wp_region_split_lit [] [0, 1, 2, 3, 4, 5, 6, 7] [8] (by kernel_rfl) (by kernel_rfl) (fun _ _ dd _ _ hh => by cases dd <;> exact hh) ?_
      simp only [pickOps, List.getElem?_cons_succ, List.getElem?_cons_zero]
      refine wpQuiet_nil ?_
      repeat (go_big_quiet_step (fail))
      refine wpQuiet_nil ?_
      intro Wz hw'
      have HXZ : Hid (Ext Wc Wz) := Lib.hid (by obtain ⟨kk, rfl⟩ := hw'; exact Ext.drewN _ _)
      clear hw' c1 x0 x1 x2 x3 BC
      have HR2 := Lib.hid (HR1.out.ext HXZ.out)
      clear HR1
      obtain ⟨cy0, cy1, cy2, cy3⟩ := HR2.out.cells (r := j) (x := y) (by rw [List.getElem?_set_ne (by have := HKJ.out; omega)]; exact HYL.out)
      have f0 := HR2.out.free (j * 4)
      have f1 := HR2.out.free (j * 4 + 1)
      have f2 := HR2.out.free (j * 4 + 2)
      have f3 := HR2.out.free (j * 4 + 3)
      have hp1 := HP1.out
      go_wp2_with fail
      go_roundw
      case rel => exact ⟨j, (L1.set k y).set j x, rfl, by omega, by simpa using hl1, Lib.hid (by
        have hkj := HKJ.out
        subst hkj
        exact HM.out.step HY.out HLS.out HXB.out HCC.out HXZ.out HR2.out)⟩
      case measure => simp [RowKit.intOf]; have := HKJ.out; omega
    · have HGO := Lib.hid hgo
      rcases Nat.eq_zero_or_pos k with h0 | h0
      case' inl =>
        have hg0 : ¬ 0 < k := by omega
        have hd0 : decide ((0 : Int) < (k : Int)) = false := by simp; omega
        clear hgo h0
      case' inr =>
        obtain ⟨j, hkj⟩ : ∃ j, k = j + 1 := ⟨k - 1, by omega⟩
        have hjL : j < L.length := by omega
        obtain ⟨y, hy⟩ : ∃ y, L[j]? = some y := ⟨_, List.getElem?_eq_getElem hjL⟩
        have hlss : Op.bytesLess x.nm.toList y.nm.toList = false := by
          cases hb : Op.bytesLess x.nm.toList y.nm.toList
          · rfl
          · exact absurd ⟨j, y, hkj, hy, hb⟩ hgo
        have hyl : L1[j]? = some y := by have h1 := HM.out.bub; rw [hkj] at h1; exact h1.prev.trans hy
        obtain ⟨cx0, cx1, cx2, cx3⟩ := HM.out.tab.cells HM.out.bub.at
        obtain ⟨cy0, cy1, cy2, cy3⟩ := HM.out.tab.cells hyl
        have hw1 : IntKind.i64.wrap ((k : Int) - 1) = (j : Int) := by rw [IntWalk.i64_in _ (by omega)]; omega
        have hjl : j < L1.length := by omega
        have hkl : k < L1.length := by omega
        clear hgo hkj hy hyl cx1 cy1 cx2 cy2 cx3 cy3 hjL
      all_goals
        go_wp2_with fail
        go_big_quiet (fail)
        go_wp2_with fail
        go_end0
        exact ⟨rfl, HM.out.fin (Ext.drewN _ _) HGO.out⟩
end Go.Proofs.YtgdgjnecgelalaaGreatDoor
