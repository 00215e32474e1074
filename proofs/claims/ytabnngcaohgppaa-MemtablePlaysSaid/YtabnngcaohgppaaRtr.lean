/- The document's table (tidemillref16): Put in the good case, the walk. -/
import Derived.Test.YtabnngcaohgppaaRtq
namespace Go.Proofs.Ytabnngcaohgppaa
open Go.RowKit Go.Sort Go.Lib

/-- Put's way through the loop. -/
structure RtMid (w : World) (rd : Nat) (most : Int) (L : List (ByteArray × Sl)) (la : Value) (name : ByteArray) (p : Pt) (k : Nat) (L1 : List (ByteArray × Sl)) (g lc : Nat) (wr : World) : Prop where
  bub : Bub L (name, nilS) k L1
  tab : RTab wr rd most L1 (some ⟨g, 0, none⟩) lc
  chg : Chg (fun b => b = rd ∨ la.ownBlock = some b) w wr
  loc : (la.ownBlock = some g ∧ g < w.heap.size) ∨ w.heap.size < g
  box : wr.heap[w.heap.size]? = some (.cells #[.int .i64 p.t, .int .i64 p.v, .int .i64 p.s] 33 (0, 0))

theorem RtMid.step {w : World} {rd : Nat} {most : Int} {L : List (ByteArray × Sl)} {la : Value} {name : ByteArray} {p : Pt} {j : Nat} {L1 : List (ByteArray × Sl)} {g lc : Nat} {wr wb wc wd : World} {y : ByteArray × Sl} (M : RtMid w rd most L la name p (j + 1) L1 g lc wr) (hy : L[j]? = some y) (hlt : Op.bytesLess name.toList y.1.toList = true)
    (hxb : Ext wr wb) (hc : Chg (· = g) wb wc) (hxd : Ext wc wd) (R : RTab wd rd most (L1.set (j + 1) y) (some ⟨g, 0, none⟩) lc) :
    RtMid w rd most L la name p j ((L1.set (j + 1) y).set j (name, nilS)) g lc ((wd.setCell ⟨g, j * 2, none⟩ (.string name)).setCell ⟨g, j * 2 + 1, none⟩ (.slice none 0 0)) := by
  have hlen := M.bub.len
  have hle := M.bub.le
  have hS : g < w.heap.size → (g = rd ∨ la.ownBlock = some g) := fun h => by
    rcases M.loc with e | e
    · exact .inr e.1
    · omega
  have hng : w.heap.size ≠ g := by rcases M.loc with e | e <;> omega
  have hall : Chg (· = g) wb ((wd.setCell ⟨g, j * 2, none⟩ (.string name)).setCell ⟨g, j * 2 + 1, none⟩ (.slice none 0 0)) :=
    ((hc.trans (Chg.of_ext (S := fun _ => False) hxd) (fun _ _ e => e.elim)).trans (setCell_chg _ _ _ _) (fun _ _ e => e)).trans (setCell_chg _ _ _ _) (fun _ _ e => e)
  have hR := R.set j (name, nilS) (by simp; omega) ⟨nilS_ok _, fun b hb => absurd hb (nilS_own b)⟩
  refine ⟨M.bub.step hy hlt, hR, (M.chg.trans (Chg.of_ext (S := fun _ => False) hxb) (fun _ _ e => e.elim)).trans hall (fun i hi e => by subst e; exact hS hi), M.loc, ?_⟩
  rw [hall.block w.heap.size (Nat.lt_of_lt_of_le (block_lt M.box) hxb.size) hng, hxb.block (block_lt M.box)]
  exact M.box

/-- Put ahead of its last part. -/
structure RtFin (w : World) (rd : Nat) (most : Int) (L : List (ByteArray × Sl)) (la : Value) (name : ByteArray) (p : Pt) (r : Nat) (L1 : List (ByteArray × Sl)) (x : ByteArray × Sl) (g lc : Nat) (wr : World) : Prop where
  tab : RTab wr rd most L1 (some ⟨g, 0, none⟩) lc
  at' : L1[r]? = some x
  nm : x.1 = name
  pts : x.2.l = tabPts L name
  chg : Chg (fun b => b = rd ∨ la.ownBlock = some b) w wr
  loc : (la.ownBlock = some g ∧ g < w.heap.size) ∨ w.heap.size < g
  box : wr.heap[w.heap.size]? = some (.cells #[.int .i64 p.t, .int .i64 p.v, .int .i64 p.s] 33 (0, 0))
  put : ∀ s, PutL L name s (L1.set r (name, s))
theorem RtMid.fin {w : World} {rd : Nat} {most : Int} {L : List (ByteArray × Sl)} {la : Value} {name : ByteArray} {p : Pt} {k : Nat} {L1 : List (ByteArray × Sl)} {g lc : Nat} {wr wb : World} (M : RtMid w rd most L la name p k L1 g lc wr) (hx : Ext wr wb) (hno : ∀ q ∈ L, q.1 ≠ name)
    (hgo : ¬ ∃ j y, k = j + 1 ∧ L[j]? = some y ∧ Op.bytesLess name.toList y.1.toList = true) : RtFin w rd most L la name p k L1 (name, nilS) g lc wb :=
  ⟨M.tab.ext hx, M.bub.at, rfl, (rtPts_no hno).symm, M.chg.trans (Chg.of_ext (S := fun _ => False) hx) (fun _ _ e => e.elim), M.loc, (hx.block (block_lt M.box)).trans M.box,
    fun s => .inr ⟨hno, k, M.bub.put, fun j y h1 h2 => by
      cases hb : Op.bytesLess name.toList y.1.toList
      · rfl
      · exact absurd ⟨j, y, h1, h2, hb⟩ hgo⟩⟩

theorem rsrc_part {W : World} {b : Nat} {s : ByteArray} {x : Sl} {t : TypeId} {fr : Nat × Nat} (h : W.heap[b]? = some (.cells #[.string s, x.v] t fr)) : Src W 2 (.slice (some ⟨b, 0, none⟩) 1 1) 1 (prs [(s, x)]) := src_part h
theorem src_two {W : World} {b : Nat} {x y : Sl} {t : TypeId} {fr : Nat × Nat} (h : W.heap[b]? = some (.cells #[x.v, y.v] t fr)) : Src W 1 (.slice (some ⟨b, 0, none⟩) 2 2) 2 ([x, y].map Sl.v) := by
  refine .inr ⟨_, _, rfl, rfl, fun j u hj => ?_, fun u hu => ?_⟩
  · rw [Go.WideShapes.add_plain, Nat.zero_add, cell_of_block h]
    simpa using hj
  · simp at hu
    rcases hu with rfl | rfl <;> rfl

theorem RTab.cells {w : World} {rd : Nat} {most : Int} {L : List (ByteArray × Sl)} {g lc r : Nat} {x : ByteArray × Sl} (h : RTab w rd most L (some ⟨g, 0, none⟩) lc) (hx : L[r]? = some x) :
    w.cell? ⟨g, r * 2, none⟩ = some (.string x.1) ∧ w.cell? ⟨g, r * 2 + 1, none⟩ = some (.slice x.2.a x.2.n x.2.c) := by
  obtain ⟨g', x', e, hx', c0, c1⟩ := part_cells h.row (List.getElem?_eq_some_iff.1 hx).1
  cases e
  rw [hx] at hx'
  cases hx'
  exact ⟨c0, c1⟩
theorem RTab.free {w : World} {rd : Nat} {most : Int} {L : List (ByteArray × Sl)} {g lc : Nat} (h : RTab w rd most L (some ⟨g, 0, none⟩) lc) (i : Nat) : w.frozen? ⟨g, i, none⟩ = false := by
  obtain ⟨_, ⟨e, _⟩ | ⟨g', cap, cur, e, _, hb, _⟩⟩ := h.row
  · simp at e
  · simp only [Value.slice.injEq, Option.some.injEq, Addr.mk.injEq, true_and, and_true] at e
    obtain ⟨rfl, _⟩ := e
    exact free_of_block hb i

theorem rd_block {w w3 : World} {rd : Nat} {most : Int} {L : List (ByteArray × Sl)} {la : Option Addr} {lc : Nat} {o : Obj} {v' : Value} {n : Nat} {ys : List Value} (h : RTab w rd most L la lc) (ha : Appended (w.alloc o) 77 2 (.slice la L.length lc) n ys v' w3) :
    w3.heap[rd]? = some (.cells #[.int .i64 most, .slice la L.length lc] 63 (0, 0)) := by
  have hlt := block_lt h.blk
  have hx := (Ext.refl w).alloc o
  exact (ha.chg.block rd (Nat.lt_of_lt_of_le hlt hx.size) (fun e => h.own rd e rfl)).trans ((hx.block hlt).trans h.blk)

set_option maxHeartbeats 16000000 in
set_option maxRecDepth 100000 in
theorem rt_put_ok {w : World} {rd : Nat} {most : Int} {L : List (ByteArray × Sl)} {la : Option Addr} {lc : Nat} (h : RTab w rd most L la lc) (hL : L.length ≤ 3000) (hn : (L.map (·.1)).Nodup) (hs : (L.map fun p => p.2.l.length).sum ≤ 3000) (name : ByteArray) (p : Pt) (hname : name.size ≤ maxLen) (hv : validL name.data.toList = true)
    (hroom : hasL (tabPts L name) p.t = true ∨ (((L.map fun p => p.2.l.length).sum : Nat) : Int) < most) :
    Calls Try.prog 17 #[.pointer (some ⟨rd, 0, none⟩), .string name, p.val] w fun e w' => e = .returned (.int .i64 0) ∧ ∃ s L', IsMerge [tabPts L name, [p]] s.l ∧ PutL L name s L' ∧ RtTo w rd most (.slice la L.length lc) L' w' ∧ ∀ b, s.v.ownBlock = some b → w.heap.size ≤ b := by
  unfold Pt.val
  have H := Lib.hid h
  have HN := Lib.hid hn
  have HS := Lib.hid hs
  clear h hn hs
  obtain ⟨tot, htot⟩ : ∃ tot, tot = (L.map fun p => p.2.l.length).sum := ⟨_, rfl⟩
  rw [← htot] at hroom
  have HT := Lib.hid htot
  clear htot
  have hrdlt := block_lt H.out.blk
  go_enter Try.func17, Try.ntmps17
  go_wp2_with fail
  generalize hW : World.alloc _ _ = W
  have HXW : Hid (Ext w W) := Lib.hid (by subst hW; exact (Ext.refl w).alloc _)
  have B5 : Hid (W.heap[w.heap.size]? = some (.cells #[.int .i64 p.t, .int .i64 p.v, .int .i64 p.s] 33 (0, 0))) := Lib.hid (by subst hW; exact heap_alloc_new w _)
  clear hW
  refine (refName_any name W hname).mono ?_
  rintro e w' ⟨rfl, rfl⟩
  rw [hv]
  have q0 : W.cell? ⟨w.heap.size, 0, none⟩ = some (.int .i64 p.t) := by have := cell_of_block B5.out 0; simpa using this
  have cm : W.cell? ⟨rd, 0, none⟩ = some (.int .i64 most) := by have := cell_of_block (H.out.ext HXW.out).blk 0; simpa using this
  obtain ⟨bh, hbh⟩ : ∃ bh, bh = hasL (tabPts L name) p.t := ⟨_, rfl⟩
  rw [← hbh] at hroom
  have HQ1 : Hid (∀ w', Ext W w' → Calls Try.prog 30 #[.pointer (some ⟨rd, 0, none⟩), .string name, .int .i64 p.t] w' fun e w2 => e = .returned (.bool bh) ∧ w2 = w') := Lib.hid (fun w' hx => by
    have := rt_has (H.out.ext (HXW.out.trans hx)) (by omega) HN.out (fun q hq => by have h1 := le_sum (f := fun p : ByteArray × Sl => p.2.l.length) hq; have h2 := HS.out; omega) name p.t
    rw [← hbh] at this
    exact this.mono (by rintro e w2 ⟨h1, rfl⟩; exact ⟨h1, rfl⟩))
  have HQ2 : Hid (∀ w', Ext W w' → Calls Try.prog 18 #[.pointer (some ⟨rd, 0, none⟩)] w' fun e w2 => e = .returned (.int .i64 tot) ∧ w2 = w') := Lib.hid (fun w' hx => by
    have := rt_len (H.out.ext (HXW.out.trans hx)) (by have h2 := HS.out; omega) (by omega)
    rw [HT.out]
    exact this.mono (by rintro e w2 ⟨h1, rfl⟩; exact ⟨h1, rfl⟩))
  clear hbh
  go_wp2_with fail
  cases bh
  case' false =>
    have hlt : ¬ most ≤ (tot : Int) := by rcases hroom with h | h; cases h; omega
    clear hroom
  case' true => clear hroom
  all_goals
    go_big_quiet (first
      | (go_at_call 30; exact Calls.quiet_of_same (HQ1.out _ (by first | exact Ext.refl _ | exact Ext.drewN _ _ | exact (Ext.refl _).drew)))
      | (go_at_call 18; exact Calls.quiet_of_same (HQ2.out _ (by first | exact Ext.refl _ | exact Ext.drewN _ _ | exact (Ext.refl _).drew))))
    clear q0 cm HQ1 HQ2
    generalize hWd : World.drewN W _ = Wd
    have HX : Hid (Ext w Wd) := Lib.hid (by rw [← hWd]; exact HXW.out.drewN' _)
    have BX : Hid (Wd.heap[w.heap.size]? = some (.cells #[.int .i64 p.t, .int .i64 p.v, .int .i64 p.s] 33 (0, 0))) := Lib.hid (by rw [← hWd]; exact ((Ext.drewN W _).block (block_lt B5.out)).trans B5.out)
    clear hWd B5 HXW
    go_wp2_with fail
    refine (rt_find (H.out.ext HX.out) (by omega) name).mono ?_
    rintro e w' ⟨kk, rfl, hf, rfl⟩
    have HD := Lib.hid (H.out.ext HX.out)
    rcases hf with ⟨rfl, hno⟩ | ⟨k, x, rfl, hq, hqn⟩
    case' inl =>
      have HNO := Lib.hid hno
      clear hno
      have c1 : Wd.cell? ⟨rd, 1, none⟩ = some (.slice la L.length lc) := by have := cell_of_block HD.out.blk 1; simpa using this
      have hf1 : Wd.frozen? ⟨rd, 1, none⟩ = false := free_of_block HD.out.blk 1
      go_wp2_with (at_builtin; go_must (refine wpList_append_to (n := L.length) (m := 1) elem_rpart rfl _ _ rfl (v := .slice _ _ _) rfl rfl (HD.out.row.alloc _) (rsrc_part (s := name) (x := nilS) (heap_alloc_new _ _)) (by unfold maxLen; omega) (by omega) ?_; intro v2 w3 happ); obtain ⟨va2, vc2, rfl⟩ := happ.row.shape; have HAP := Lib.hid happ; have hb3 := rd_block HD.out happ; have g0 : w3.cell? ⟨rd, 1, none⟩ = some (.slice la L.length lc) := (by have := cell_of_block hb3 1; simpa using this); have g1 : w3.frozen? ⟨rd, 1, none⟩ = false := free_of_block hb3 1; clear happ hb3)
      clear c1 hf1 g0 g1
      obtain ⟨P1, P2, P3⟩ := (HD.out.ext ((Ext.refl Wd).alloc _)).push HAP.out
      generalize hW4 : World.setCell _ _ _ = W4 at P1 P2 ⊢
      obtain ⟨g, rfl⟩ : ∃ g, va2 = some ⟨g, 0, none⟩ := by
        obtain ⟨g, _, e, _⟩ := part_cells P1.row (r := 0) (by simp)
        exact ⟨g, e⟩
      have M0 : Hid (RtMid w rd most L (.slice la L.length lc) name p L.length (L ++ [(name, nilS)]) g vc2 W4) := Lib.hid (by
        have hs1 := HX.out.size
        have hbl := block_lt BX.out
        refine ⟨Bub.start _ _, P1, (Chg.of_ext (HX.out.alloc _)).trans P2 (fun _ _ e => e), ?_, ?_⟩
        · rcases P3 g rfl with e | e
          · exact .inl ⟨e, H.out.row.lt e⟩
          · simp at e; exact .inr (by omega)
        · rw [P2.block w.heap.size (by simp; omega) (by
            rintro (e | e)
            · omega
            · have := H.out.row.lt e; omega)]
          exact (((Ext.refl Wd).alloc _).block hbl).trans BX.out)
      clear P1 P2 P3 hW4 HAP
      go_loopw [7, 8] (fun s7 s8 wr => ∃ (k : Nat) (L1 : List (ByteArray × Sl)), s7 = .int .i64 k ∧ k ≤ L.length ∧ L1.length = L.length + 1 ∧ Hid (RtMid w rd most L (.slice la L.length lc) name p k L1 g vc2 wr)) (fun s7 _ _ => (RowKit.intOf s7).toNat)
      case atStart => exact ⟨_, _, by go_num, Nat.le_refl _, by simp, M0⟩
      case' round =>
        obtain ⟨k, L1, rfl, hk, hl1, HM⟩ := hrel
        have c1 : wr.cell? ⟨rd, 1, none⟩ = some (.slice (some ⟨g, 0, none⟩) L1.length vc2) := by have := cell_of_block HM.out.tab.blk 1; simpa using this
        rcases Classical.em (∃ j y, k = j + 1 ∧ L[j]? = some y ∧ Op.bytesLess name.toList y.1.toList = true) with hgo | hgo
        case inl =>
          obtain ⟨j, y, hkj, hy, hlss⟩ := hgo
          have hyl : L1[j]? = some y := by have h1 := HM.out.bub; rw [hkj] at h1; exact h1.prev.trans hy
          obtain ⟨cx0, cx1⟩ := HM.out.tab.cells HM.out.bub.at
          obtain ⟨cy0, cy1⟩ := HM.out.tab.cells hyl
          simp only [nilS] at cx1
          have hp1 : (k : Int) - 1 = (j : Int) := by omega
          have hw1 : IntKind.i64.wrap ((k : Int) - 1) = (j : Int) := by rw [IntWalk.i64_in _ (by omega)]; omega
          have hg0 : 0 < k := by omega
          have hjl : j < L1.length := by omega
          have hkl : k < L1.length := by omega
          have HKJ := Lib.hid hkj
          have HY := Lib.hid hy
          have HYL := Lib.hid hyl
          have HP1 := Lib.hid hp1
          have HLS := Lib.hid hlss
          clear hkj hy hyl hp1
          go_wp2_with fail
          go_big_quiet (fail)
          clear cy0 cy1
          generalize hWe : World.drewN wr _ = We
          have HXE : Hid (Ext wr We) := Lib.hid (by rw [← hWe]; exact Ext.drewN _ _)
          have c1 : We.cell? ⟨rd, 1, none⟩ = some (.slice (some ⟨g, 0, none⟩) L1.length vc2) := by have := cell_of_block (HM.out.tab.ext HXE.out).blk 1; simpa using this
          obtain ⟨cx0, cx1⟩ := (HM.out.tab.ext HXE.out).cells HM.out.bub.at
          simp only [nilS] at cx1
          clear hWe
          go_wp2_with fail
          generalize hWa : World.alloc _ _ = Wa
          have HXA : Hid (Ext wr Wa) := Lib.hid (by rw [← hWa]; exact HXE.out.alloc _)
          have BA : Hid (Wa.heap[We.heap.size]? = some (.cells #[.string name, .slice none 0 0] 77 (0, 0))) := Lib.hid (by rw [← hWa]; exact heap_alloc_new We _)
          obtain ⟨xb, hxb⟩ : ∃ xb, xb = We.heap.size := ⟨_, rfl⟩
          have HXBL : Hid (wr.heap.size ≤ xb) := Lib.hid (by rw [hxb]; exact HXE.out.size)
          rw [← hxb] at BA ⊢
          clear hWa c1 cx0 cx1 hxb
          have c1 : Wa.cell? ⟨rd, 1, none⟩ = some (.slice (some ⟨g, 0, none⟩) L1.length vc2) := by have := cell_of_block (HM.out.tab.ext HXA.out).blk 1; simpa using this
          obtain ⟨cy0, cy1⟩ := (HM.out.tab.ext HXA.out).cells HYL.out
          refine wp_region_split_lit [] [0, 1, 2, 3, 4, 5, 6, 7, 8, 9, 10, 11, 12, 13] [14] (by kernel_rfl) (by kernel_rfl) (fun _ _ dd _ _ hh => by cases dd <;> exact hh) ?_
          simp only [pickOps, List.getElem?_cons_succ, List.getElem?_cons_zero]
          refine wpQuiet_nil ?_
          repeat (go_big_quiet_step (fail))
          refine wpQuiet_nil ?_
          intro Wb hw'
          have HXB : Hid (Ext wr Wb) := Lib.hid (by obtain ⟨kk, rfl⟩ := hw'; exact HXA.out.trans (Ext.drewN _ _))
          have BB : Hid (Wb.heap[xb]? = some (.cells #[.string name, .slice none 0 0] 77 (0, 0))) := Lib.hid (by obtain ⟨kk, rfl⟩ := hw'; exact ((Ext.drewN Wa _).block (block_lt BA.out)).trans BA.out)
          clear hw' c1 cy0 cy1 BA
          obtain ⟨cx0, cx1⟩ := (HM.out.tab.ext HXB.out).cells HM.out.bub.at
          have f0 := (HM.out.tab.ext HXB.out).free (k * 2)
          have f1 := (HM.out.tab.ext HXB.out).free (k * 2 + 1)
          have HR1 := Lib.hid ((HM.out.tab.ext HXB.out).set k y (by omega) ((HM.out.tab.ext HXB.out).part (List.mem_of_getElem? HYL.out)))
          simp only [Sl.v] at HR1
          go_wp2_with fail
          clear cx0 cx1 f0 f1
          generalize hWc : World.setCell _ _ _ = Wc at HR1 ⊢
          have HCC : Hid (Chg (· = g) Wb Wc) := Lib.hid (by rw [← hWc]; exact (setCell_chg _ _ _ _).trans (setCell_chg _ _ _ _) (fun _ _ e => e))
          have hgx : xb ≠ g := by
            have h1 := HM.out.tab.row.lt (g := g) rfl
            have h2 := HXBL.out
            omega
          have BC : Hid (Wc.heap[xb]? = some (.cells #[.string name, .slice none 0 0] 77 (0, 0))) := Lib.hid ((HCC.out.block xb (block_lt BB.out) hgx).trans BB.out)
          clear hWc BB
          have c1 : Wc.cell? ⟨rd, 1, none⟩ = some (.slice (some ⟨g, 0, none⟩) L1.length vc2) := by have := cell_of_block HR1.out.blk 1; simpa using this
          have x0 : Wc.cell? ⟨xb, 0, none⟩ = some (.string name) := by have := cell_of_block BC.out 0; simpa using this
          have x1 : Wc.cell? ⟨xb, 1, none⟩ = some (.slice none 0 0) := by have := cell_of_block BC.out 1; simpa using this
          refine wp_region_split_lit [] [0, 1, 2, 3, 4, 5, 6, 7] [8] (by kernel_rfl) (by kernel_rfl) (fun _ _ dd _ _ hh => by cases dd <;> exact hh) ?_
          simp only [pickOps, List.getElem?_cons_succ, List.getElem?_cons_zero]
          refine wpQuiet_nil ?_
          repeat (go_big_quiet_step (fail))
          refine wpQuiet_nil ?_
          intro Wz hw'
          have HXZ : Hid (Ext Wc Wz) := Lib.hid (by obtain ⟨kk, rfl⟩ := hw'; exact Ext.drewN _ _)
          clear hw' c1 x0 x1 BC
          have HR2 := Lib.hid (HR1.out.ext HXZ.out)
          clear HR1
          obtain ⟨cy0, cy1⟩ := HR2.out.cells (r := j) (x := y) (by rw [List.getElem?_set_ne (by have := HKJ.out; omega)]; exact HYL.out)
          have f0 := HR2.out.free (j * 2)
          have f1 := HR2.out.free (j * 2 + 1)
          have hp1 := HP1.out
          go_wp2_with fail
          go_roundw
          case rel => exact ⟨j, (L1.set k y).set j (name, nilS), rfl, by omega, by simpa using hl1, Lib.hid (by
            have hkj := HKJ.out
            subst hkj
            exact HM.out.step HY.out HLS.out HXB.out HCC.out HXZ.out HR2.out)⟩
          case measure => simp [RowKit.intOf]; have := HKJ.out; omega
        case' inr =>
          have HGO := Lib.hid hgo
          rcases Nat.eq_zero_or_pos k with h0 | h0
          case' inl =>
            have hg0 : ¬ 0 < k := by omega
            have hd0 : decide ((0 : Int) < (k : Int)) = false := by simp; omega
            clear hgo h0
          case' inr =>
            obtain ⟨j, hkj⟩ : ∃ j, k = j + 1 := ⟨k - 1, by omega⟩
            have hjL : j < L.length := by omega
            obtain ⟨y, hy⟩ : ∃ y, L[j]? = some y := ⟨_, List.getElem?_eq_getElem hjL⟩
            have hlss : Op.bytesLess name.toList y.1.toList = false := by
              cases hb : Op.bytesLess name.toList y.1.toList
              · rfl
              · exact absurd ⟨j, y, hkj, hy, hb⟩ hgo
            have hyl : L1[j]? = some y := by have h1 := HM.out.bub; rw [hkj] at h1; exact h1.prev.trans hy
            obtain ⟨cx0, cx1⟩ := HM.out.tab.cells HM.out.bub.at
            obtain ⟨cy0, cy1⟩ := HM.out.tab.cells hyl
            have hw1 : IntKind.i64.wrap ((k : Int) - 1) = (j : Int) := by rw [IntWalk.i64_in _ (by omega)]; omega
            have hjl : j < L1.length := by omega
            have hkl : k < L1.length := by omega
            clear hgo hkj hy hyl cx1 cy1 hjL
          all_goals
            go_wp2_with fail
            go_big_quiet (fail)
            generalize hWe : World.drewN wr _ = We
            obtain ⟨x, hx⟩ : ∃ x : ByteArray × Sl, x = (name, nilS) := ⟨_, rfl⟩
            have HF : Hid (RtFin w rd most L (.slice la L.length lc) name p k L1 x g vc2 We) := Lib.hid (by rw [hx]; exact HM.out.fin (by rw [← hWe]; exact Ext.drewN _ _) HNO.out HGO.out)
            have HL1 : L1.length ≤ L.length + 1 := by omega
            clear hWe HM hx
            go_wp2_with fail
    case' inr =>
      have hrl := (List.getElem?_eq_some_iff.1 hq).1
      obtain ⟨g, x', rfl, _, _, _⟩ := part_cells HD.out.row hrl
      obtain ⟨We, hWe⟩ : ∃ v, v = Wd := ⟨_, rfl⟩; subst hWe
      obtain ⟨vc2, hvc⟩ : ∃ v, v = lc := ⟨_, rfl⟩; subst hvc
      obtain ⟨L1, hL1⟩ : ∃ v, v = L := ⟨_, rfl⟩
      have HF : Hid (RtFin w rd most L (.slice (some ⟨g, 0, none⟩) L.length vc2) name p k L1 x g vc2 We) := Lib.hid (by
        rw [hL1]
        exact ⟨HD.out, hq, hqn, by rw [← hqn]; exact (rtPts_at HN.out hq).symm, Chg.of_ext HX.out, .inl ⟨rfl, H.out.row.lt rfl⟩, BX.out, fun s => .inl ⟨k, x, hq, hqn, rfl⟩⟩)
      have HL1 : L1.length ≤ L.length + 1 := by rw [hL1]; omega
      have hk : k ≤ L.length := by omega
      have hr0 : ¬ (k : Int) < 0 := by omega
      clear hL1 hq hqn hrl
      go_wp2_with fail
    all_goals
      have hkl : k < L1.length := (List.getElem?_eq_some_iff.1 HF.out.at').1
      have c1 : We.cell? ⟨rd, 1, none⟩ = some (.slice (some ⟨g, 0, none⟩) L1.length vc2) := by have := cell_of_block HF.out.tab.blk 1; simpa using this
      have cx1 := (HF.out.tab.cells HF.out.at').2
      have p0 : We.cell? ⟨w.heap.size, 0, none⟩ = some (.int .i64 p.t) := by have := cell_of_block HF.out.box 0; simpa using this
      have p1 : We.cell? ⟨w.heap.size, 1, none⟩ = some (.int .i64 p.v) := by have := cell_of_block HF.out.box 1; simpa using this
      have p2 : We.cell? ⟨w.heap.size, 2, none⟩ = some (.int .i64 p.s) := by have := cell_of_block HF.out.box 2; simpa using this
      have f0 := cell_turned (T := fun _ => false) c1 rfl
      have f1 := cell_turned (T := fun _ => false) cx1 rfl
      have f2 := cell_turned (T := fun _ => false) p0 rfl
      have f3 := cell_turned (T := fun _ => false) p1 rfl
      have f4 := cell_turned (T := fun _ => false) p2 rfl
      clear c1 cx1 p0 p1 p2
      refine wp_region_plan 16 (fun w' => ∃ p : Turned, w' = turned We (fun _ => false) p.d p.f p.os) (.reads [0, 1, 2, 3, 4, 5, 6, 7, 8] (.one 9 (.one 10 (.one 11 (.reads [12, 13, 14] (.one 15 (.one 16 .done))))))) (by kernel_rfl) (by kernel_rfl) (fun _ _ dd _ _ hh => by cases dd <;> exact hh) ?_ ?_
      · exact turned_of_ext (Ext.drewN We 1)
      refine wpPlan_reads ?_
      simp only [pickOps, List.getElem?_cons_succ, List.getElem?_cons_zero]
      repeat (go_big_quiet_step (fail))
      refine wpQuiet_nil ?_
      clear f0 f1 f2 f3 f4
      refine wpPlan_one ?_
      simp only [pickOps, List.getElem?_cons_succ, List.getElem?_cons_zero]
      go_wp2_with fail
      refine thenX_mk (turned_of_ext (((Ext.refl We).alloc _).drew)) (wpPlan_one ?_)
      simp only [pickOps, List.getElem?_cons_succ, List.getElem?_cons_zero]
      go_wp2_with fail
      generalize hWm : World.drew _ = Wm
      have HXM : Hid (Ext We Wm) := Lib.hid (by rw [← hWm]; exact (((Ext.refl We).alloc _).alloc _).drew)
      have BM1 : Hid (Wm.heap[We.heap.size]? = some (.cells #[.int .i64 p.t, .int .i64 p.v, .int .i64 p.s] 33 (0, 0))) := Lib.hid (by rw [← hWm]; exact (((Ext.refl _).alloc _).drew.block (by simp)).trans (heap_alloc_new We _))
      have BM2 : Hid (Wm.heap[We.heap.size + 1]? = some (.cells #[x.2.v, (Sl.mk (some ⟨We.heap.size, 0, none⟩) 1 1 [p]).v] 41 (0, 0))) := Lib.hid (by rw [← hWm]; exact heap_alloc2 We _ _)
      clear hWm
      have hxlen : x.2.l.length ≤ 3000 := by
        rw [HF.out.pts]
        rcases Nat.eq_zero_or_pos (tabPts L name).length with h0 | h0
        · omega
        · have h2 := HS.out
          unfold tabPts tabSl at h0 ⊢
          cases hag : aget L name with
          | none => rw [hag] at h0; simp at h0
          | some s =>
            have h1 : s.l.length ≤ (L.map fun p => p.2.l.length).sum := le_sum (f := fun p : ByteArray × Sl => p.2.l.length) (aget_mem hag)
            simp; omega
      have hrx := (HF.out.tab.ok x (List.mem_of_getElem? HF.out.at')).2
      have hok : ∀ y ∈ [x.2, Sl.mk (some ⟨We.heap.size, 0, none⟩) 1 1 [p]], y.Ok Wm := by
        intro y hy
        simp at hy
        rcases hy with rfl | rfl
        · exact (HF.out.tab.ok x (List.mem_of_getElem? HF.out.at')).1.ext HXM.out
        · exact ⟨src_pt' BM1.out, Nat.le_refl _⟩
      refine thenX_mk (turned_of_ext HXM.out) (wpPlan_one ?_)
      simp only [pickOps, List.getElem?_cons_succ, List.getElem?_cons_zero]
      go_wp2_with fail
      refine (refMerge_any Wm _ 2 2 [x.2, Sl.mk (some ⟨We.heap.size, 0, none⟩) 1 1 [p]] (src_two BM2.out) hok (by simp [totS]; omega)).mono ?_
      rintro e w3 ⟨hx3, ⟨_, va, vc, out, rfl, hcut, hmg, _⟩ | ⟨hnr, _⟩⟩
      case' inr => exact absurd (by intro l hl; simp at hl; rcases hl with rfl | rfl; exact hrx; exact Rises.one _) hnr
      have HX3 : Hid (Ext We w3) := Lib.hid (HXM.out.trans hx3)
      have HCUT := Lib.hid hcut
      have HMG : Hid (IsMerge [tabPts L name, [p]] out) := Lib.hid (by rw [← HF.out.pts]; simpa using hmg)
      clear hx3 hcut hmg hok hrx BM1 BM2
      have HR3 := Lib.hid (HF.out.tab.ext HX3.out)
      have c1 : w3.cell? ⟨rd, 1, none⟩ = some (.slice (some ⟨g, 0, none⟩) L1.length vc2) := by have := cell_of_block HR3.out.blk 1; simpa using this
      obtain ⟨cx0, cx1⟩ := HR3.out.cells HF.out.at'
      have f1 := HR3.out.free (k * 2 + 1)
      go_wp2_with fail
      refine thenX_mk (turned_of_ext HX3.out) (wpPlan_reads ?_)
      simp only [pickOps, List.getElem?_cons_succ, List.getElem?_cons_zero]
      repeat (go_big_quiet_step (fail))
      refine wpQuiet_nil ?_
      refine wpPlan_one ?_
      simp only [pickOps, List.getElem?_cons_succ, List.getElem?_cons_zero]
      go_wp2_with fail
      refine thenX_mk (turned_of_ext HX3.out) (wpPlan_one ?_)
      simp only [pickOps, List.getElem?_cons_succ, List.getElem?_cons_zero]
      go_wp2_with fail
      refine thenX_last (wpPlan_done ?_)
      go_wp2_with fail
      go_ret
      have hgl := HF.out.tab.row.lt (g := g) rfl
      have hrl := block_lt HF.out.tab.blk
      have hsm := HXM.out.size
      refine ⟨rfl, ⟨va, out.length, vc, out⟩, L1.set k (name, ⟨va, out.length, vc, out⟩), HMG.out, HF.out.put _, ⟨⟨some ⟨g, 0, none⟩, vc2, ?_, ?_⟩, ?_⟩, fun b hb => by have h2 := HCUT.out.own b hb; have h3 := HF.out.chg.size; omega⟩
      · have h1 := HR3.out.setPts k x HF.out.at' ⟨va, out.length, vc, out⟩ ⟨⟨⟨row_src HCUT.out.row, row_cap HCUT.out.row⟩, HMG.out.rises⟩, fun b hb => by
          have h2 := HCUT.out.own b hb
          have h3 := HCUT.out.row.lt hb
          refine ⟨by omega, fun e => ?_, h3⟩
          simp [Value.ownBlock] at e
          omega⟩
        rw [HF.out.nm] at h1
        exact h1
      · intro b hb
        simp [Value.ownBlock] at hb
        subst hb
        rcases HF.out.loc with e | e
        · exact .inl e.1
        · exact .inr (by omega)
      · refine (HF.out.chg.trans (Chg.of_ext (S := fun _ => False) HX3.out) (fun _ _ e => e.elim)).setCell (fun hp => ?_) _
        rcases HF.out.loc with e | e
        · exact .inr e.1
        · simp at hp; omega
end Go.Proofs.Ytabnngcaohgppaa
