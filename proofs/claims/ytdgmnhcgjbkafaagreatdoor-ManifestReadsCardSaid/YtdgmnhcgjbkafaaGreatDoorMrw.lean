/- tidemilllaw18.own: a state for the document. -/
import Derived.Test.YtdgmnhcgjbkafaaGreatDoorMr5
import Derived.Test.YtdgmnhcgjbkafaaGreatDoorMfw
import Derived.Test.YtdgmnhcgjbkafaaGreatDoorMr2
import Derived.Test.YtdgmnhcgjbkafaaGreatDoorMrh
import Derived.Deep.DeepCutAuto
namespace Go.Proofs.YtdgmnhcgjbkafaaGreatDoor
open Go.RowKit Go.Sort Go.Lib

/-- A field of a struct in a box grows. -/
structure GrO (ws : World) (q : Nat) (ts te : TypeId) (i size : Nat) (base : Array Value) (n : Nat) (xs : List Value) (w : World) : Prop where
  blk : ∃ a c, w.heap[q]? = some (.cells (base.setIfInBounds i (.slice a n c)) ts (0, 0)) ∧ Row w te size (.slice a n c) n xs ∧ ∀ g, (Value.slice a n c).ownBlock = some g → ws.heap.size ≤ g
  chg : Chg (· = q) ws w
  ql : q < ws.heap.size
section
variable {ws w w1 : World} {q : Nat} {ts te : TypeId} {i size n : Nat} {base : Array Value} {xs : List Value}
theorem GrO.ext' (h : GrO ws q ts te i size base n xs w) (hx : Ext w w1) : GrO ws q ts te i size base n xs w1 := by
  obtain ⟨a, c, hb, hrow, ho⟩ := h.blk
  exact ⟨⟨a, c, hx.keep hb, hrow.ext hx, ho⟩, h.chg.trans (Chg.of_ext (S := fun _ => False) hx) (fun _ _ e => e.elim), h.ql⟩
theorem GrO.add {a : Option Addr} {c m : Nat} {ys : List Value} {v' : Value} (h : GrO ws q ts te i size base n xs w)
    (hb : w.heap[q]? = some (.cells (base.setIfInBounds i (.slice a n c)) ts (0, 0))) (ho : ∀ g, (Value.slice a n c).ownBlock = some g → ws.heap.size ≤ g)
    (happ : Appended w te size (.slice a n c) m ys v' w1) : w1.heap[q]? = some (.cells (base.setIfInBounds i (.slice a n c)) ts (0, 0)) ∧ GrO ws q ts te i size base m ys (w1.setCell ⟨q, i, none⟩ v') := by
  have hq1 : w1.heap[q]? = some (.cells (base.setIfInBounds i (.slice a n c)) ts (0, 0)) := (happ.chg.block q (block_lt hb) (fun e => by have := ho q e; have := h.ql; omega)).trans hb
  obtain ⟨a', c', rfl⟩ := happ.row.shape
  have hs := setCell_chg w1 q i (.slice a' m c')
  have ho' : ∀ g, (Value.slice a' m c').ownBlock = some g → ws.heap.size ≤ g := fun g hg => by
    rcases happ.loc with e | e
    · exact ho g (by rw [← e]; exact hg)
    · rw [e] at hg; simp at hg; have := h.chg.size; omega
  have hc : Chg (· = q) ws (w1.setCell ⟨q, i, none⟩ (.slice a' m c')) := (h.chg.trans happ.chg (fun k hk e => by have := ho k e; omega)).trans hs (fun _ _ e => e)
  refine ⟨hq1, ⟨a', c', ?_, happ.row.chg hs (fun g hg e => by have := ho' g hg; have := h.ql; omega), ho'⟩, hc, h.ql⟩
  have := setCell_block hq1 (i := i) (.slice a' m c')
  rw [this]
  simp [Array.setIfInBounds_setIfInBounds]
end
/-- What own leaves. -/
def OwnPost (w : World) (s : Sta) (fn tn : Nat) (e : Ending) (w' : World) : Prop := ∃ fa fc ta tc, e = .returned (.agg (staC s fa fn fc ta tn tc)) ∧ Ext w w' ∧ StIn w' s fa fn fc ta tn tc

set_option maxHeartbeats 16000000 in
set_option maxRecDepth 100000 in
theorem manOwn_any (w : World) (s : Sta) (fa ta : Option Addr) (fn fc tn tc : Nat) (hs : StIn w s fa fn fc ta tn tc) (hf : fn ≤ 4096) (ht : tn ≤ 4096) :
    Calls Tryz.prog 7 #[.agg (staC s fa fn fc ta tn tc)] w (OwnPost w s fn tn) := by
  have HS := Lib.hid hs
  have HFN := Lib.hid (fls_src_len hs.fl)
  have HTN := Lib.hid (trs_src_len hs.ti)
  have HOK := Lib.hid hs.ok
  clear hs
  obtain ⟨x, r, q, ⟨b, t, g⟩, fl, ti⟩ := s
  go_enter Tryz.func7, Tryz.ntmps7
  go_upto_region 1 with fail
  generalize hW : (w.alloc _).alloc _ = W
  obtain ⟨b1, hb1⟩ : ∃ k, k = w.heap.size := ⟨_, rfl⟩
  obtain ⟨b2, hb2⟩ : ∃ k, k = w.heap.size + 1 := ⟨_, rfl⟩
  rw [← hb2, ← hb1]
  have HB1 : Hid (W.heap[b1]? = some (.cells #[.int .i64 x, .int .i64 r, .int .i64 q, .bool b, .int .i64 t, .int .i64 g, .slice fa fn fc, .slice ta tn tc] 27 (0, 0))) := Lib.hid (by subst hW; rw [hb1, heap_alloc_old _ _ (by simp)]; exact heap_alloc_new w _)
  have HB2 : Hid (W.heap[b2]? = some (.cells #[.int .i64 0, .int .i64 0, .int .i64 0, .bool false, .int .i64 0, .int .i64 0, .slice none 0 0, .slice none 0 0] 39 (0, 0))) := Lib.hid (by subst hW; rw [hb2]; exact heap_alloc2 w _ _)
  have HX : Hid (Ext w W) := Lib.hid (by subst hW; exact ((Ext.refl w).alloc _).alloc _)
  have HBB : Hid (w.heap.size = b1 ∧ b2 = b1 + 1 ∧ W.heap.size = b1 + 2) := Lib.hid (by subst hW; refine ⟨hb1.symm, by omega, ?_⟩; simp; omega)
  clear hW hb1 hb2
  have c0 := cell_of_block HB1.out 0
  have c1 := cell_of_block HB1.out 1
  have c2 := cell_of_block HB1.out 2
  have c3 := cell_of_block HB1.out 3
  have c4 := cell_of_block HB1.out 4
  have c5 := cell_of_block HB1.out 5
  go_upto_block 0 with fail
  clear c0 c1 c2 c3 c4 c5
  obtain ⟨b3, hb3⟩ : ∃ k, k = W.heap.size := ⟨_, rfl⟩
  rw [← hb3]
  generalize hW : W.alloc _ = W3
  have hx3 : Ext W W3 := by rw [← hW]; exact (Ext.refl W).alloc _
  have hq3 : W3.heap[b3]? = some (.cells #[.int .i64 x, .int .i64 r, .int .i64 q, .bool b, .int .i64 t, .int .i64 g, .slice none 0 0, .slice none 0 0] 39 (0, 0)) := by rw [← hW, hb3]; exact heap_alloc_new W _
  have HB13 := Lib.hid (hx3.keep HB1.out)
  have HB23 := Lib.hid (hx3.keep HB2.out)
  have HX3 := Lib.hid (HX.out.trans hx3)
  have HBN : Hid (b1 < b3 ∧ b2 < b3 ∧ w.heap.size ≤ b1 ∧ w.heap.size ≤ b2 ∧ b1 < b2) := Lib.hid (by have := HBB.out; omega)
  have HG0 : Hid (GrO W3 b3 39 62 6 4 #[.int .i64 x, .int .i64 r, .int .i64 q, .bool b, .int .i64 t, .int .i64 g, .slice none 0 0, .slice none 0 0] 0 (fls []) W3) :=
    Lib.hid ⟨⟨none, 0, by simpa using hq3, Row.nil _ _ _, fun g hg => by simp [Value.ownBlock] at hg⟩, Chg.refl _ _, block_lt hq3⟩
  clear hW hx3 hq3 hb3 HB1 HB2 HX HBB
  go_cut [4] (fun _ wx => Hid (GrO W3 b3 39 62 6 4 #[.int .i64 x, .int .i64 r, .int .i64 q, .bool b, .int .i64 t, .int .i64 g, .slice none 0 0, .slice none 0 0] fn (fls fl) wx))
  case first =>
    go_wp2_with fail
    go_loopw [4] (fun si wr => ∃ k : Nat, k ≤ fn ∧ si = .int .i64 k ∧ Hid (GrO W3 b3 39 62 6 4 #[.int .i64 x, .int .i64 r, .int .i64 q, .bool b, .int .i64 t, .int .i64 g, .slice none 0 0, .slice none 0 0] k (fls (fl.take k)) wr)) (fun si _ => fn - (RowKit.intOf si).toNat)
    case atStart => exact ⟨0, by omega, rfl, Lib.hid (by simpa using HG0.out)⟩
    case round =>
      obtain ⟨k, hk, rfl, HGk⟩ := hrel
      have HC := Lib.hid HGk.out.chg
      have HBk := Lib.hid ((HC.out.block b1 (block_lt HB13.out) (by have := HBN.out; omega)).trans HB13.out)
      have c6 := cell_of_block HBk.out 6
      by_cases hlt : k < fn
      · have hext : Ext w wr := ((Chg.of_ext HX3.out).trans HC.out (fun _ _ e => e)).ext (fun i hi e => by have := HBN.out; omega)
        obtain ⟨fb, fo, p, rfl, hp, p0, p1, p2, p3⟩ := fls_src (HS.out.fl.ext hext) hlt
        have HNX : Hid (fls (fl.take k) ++ fls [p] = fls (fl.take (k + 1))) := Lib.hid (by rw [← fls_append, List.take_add_one, (show fl[k]? = some p from hp)]; rfl)
        have g1 : ∀ (d : Nat) (f : Nat → Obj) (os : Array Obj), (Instr.loadAt 48 (.pointer (some ⟨fb, fo + k * 4, none⟩))).run Tryz.prog (turned wr (fun _ => false) d f os) = .ok p.val (turned wr (fun _ => false) d f os) := fun d f os => by
          have h1 := run_loadAt_mid (P := Tryz.prog) (turned wr (fun _ => false) d f os) fb (fo + k * 4) 48 p.cells _ (fun i u hu => by
            have : w.heap.size = w.heap.size := rfl
            rcases i with _ | _ | _ | _ | i
            · simp [Fl.cells] at hu; subst hu; exact cell_turned (T := fun _ => false) p0 rfl d f os
            · simp [Fl.cells] at hu; subst hu; exact cell_turned (T := fun _ => false) p1 rfl d f os
            · simp [Fl.cells] at hu; subst hu; exact cell_turned (T := fun _ => false) p2 rfl d f os
            · simp [Fl.cells] at hu; subst hu; exact cell_turned (T := fun _ => false) p3 rfl d f os
            · simp [Fl.cells] at hu) Tryz.underlying48 rfl file_info
          exact h1
        obtain ⟨ga, gc, hbq, hrow, hown⟩ := HGk.out.blk
        have HROW := Lib.hid hrow
        have HOWN := Lib.hid hown
        have HBq := Lib.hid hbq
        have f0 := cell_turned (T := fun _ => false) (a := ⟨b3, 6, none⟩) (v := .slice ga k gc) (by rw [cell_of_block hbq 6]; rfl) rfl
        have f1 := cell_turned (T := fun _ => false) (a := ⟨b1, 6, none⟩) (v := .slice (some ⟨fb, fo, none⟩) fn fc) (by rw [cell_of_block HBk.out 6]; rfl) rfl
        clear hp p0 p1 p2 p3 hbq hrow hown hext
        go_upto_region 5 with fail
        go_wp2_with fail
        refine wp_region_plan 8 (fun w' => ∃ z : Turned, w' = turned wr (fun _ => false) z.d z.f z.os) (.reads [0, 1, 2, 3, 4, 5, 6] (.one 7 (.one 8 (.one 9 (.one 10 .done))))) (by kernel_rfl) (by kernel_rfl) (fun _ _ dd _ _ hh => by cases dd <;> exact hh) ?_ ?_
        · exact turned_of_ext (Ext.drewN wr 1)
        refine wpPlan_reads ?_
        simp only [pickOps, List.getElem?_cons_succ, List.getElem?_cons_zero]
        iterate 6 (go_big_quiet_step (fail))
        refine wpQuiet_load_box rfl _ _ rfl _ _ rfl (fun w hw => by obtain ⟨z, rfl⟩ := hw; exact g1 z.d z.f z.os) ?_
        refine wpQuiet_nil ?_
        have HXD := Lib.hid (Ext.drewN wr 1)
        clear f0 f1 g1
        refine wpPlan_one ?_
        simp only [pickOps, List.getElem?_cons_succ, List.getElem?_cons_zero]
        go_wp2_with fail
        generalize hw2 : World.drew _ = w2
        have hx2 : Ext wr w2 := by rw [← hw2]; exact ((Ext.refl wr).alloc _).drew
        have hsrc : Src w2 4 (.slice (some ⟨wr.heap.size, 0, none⟩) 1 1) 1 (fls [p]) := src_fl (p := p) (by rw [← hw2]; exact heap_alloc_new wr _)
        have HXX := Lib.hid hx2
        have HSRC := Lib.hid hsrc
        have HBQ2 := Lib.hid (HXX.out.keep HBq.out)
        have HGF := Lib.hid (HGk.out.ext' HXX.out)
        have HTU := Lib.hid (turned_of_ext (T := fun _ => false) HXX.out)
        clear hw2 hx2 hsrc
        refine thenX_mk HTU.out (wpPlan_one ?_)
        simp only [pickOps, List.getElem?_cons_succ, List.getElem?_cons_zero]
        refine wpList_append_to (n := k) (m := 1) elem_rfile rfl _ _ rfl (v := .slice ga k gc) rfl rfl (HROW.out.ext HXX.out) HSRC.out (by unfold maxLen; omega) (by omega) ?_
        intro v3 w3 happ
        rw [HNX.out] at happ
        obtain ⟨hq3, hfin⟩ := HGF.out.add HBQ2.out HOWN.out happ
        have HFIN := Lib.hid hfin
        have d0 : w3.cell? ⟨b3, 6, none⟩ = some (.slice ga k gc) := by rw [cell_of_block hq3 6]; rfl
        have z0 := free_of_block hq3 6
        obtain ⟨a3, c3, rfl⟩ := happ.row.shape
        clear happ hq3 hfin
        go_wp2_with fail
        refine thenX_last (wpPlan_one ?_)
        simp only [pickOps, List.getElem?_cons_succ, List.getElem?_cons_zero]
        go_wp2_with fail
        refine thenX_last (wpPlan_one ?_)
        simp only [pickOps, List.getElem?_cons_succ, List.getElem?_cons_zero]
        go_wp2_with fail
        refine thenX_last (wpPlan_done ?_)
        clear d0 z0 HGF HSRC HBQ2 HTU HXX HXD
        generalize World.setCell _ _ _ = w4 at *
        go_wp2_with fail
        go_roundw
        case rel => exact ⟨k + 1, by omega, by go_num, HFIN⟩
        case measure => simp [RowKit.intOf]; omega
      · obtain rfl : k = fn := by omega
        have hFL : fl.take k = fl := List.take_of_length_le (by rw [HFN.out]; exact Nat.le_refl _)
        rw [hFL] at HGk
        go_wp2_with fail
        go_meet
        case rel => exact HGk
  case rest =>
    obtain ⟨ga, gc, hb6, hrow6, hown6⟩ := hcut.out.blk
    have HX4 : Hid (Ext w wc) := Lib.hid (((Chg.of_ext HX3.out).trans hcut.out.chg (fun _ _ e => e)).ext (fun i hi e => by have := HBN.out; omega))
    have HB14 := Lib.hid ((hcut.out.chg.block b1 (block_lt HB13.out) (by have := HBN.out; omega)).trans HB13.out)
    have HB24 := Lib.hid ((hcut.out.chg.block b2 (block_lt HB23.out) (by have := HBN.out; omega)).trans HB23.out)
    have HROW6 := Lib.hid hrow6
    have HOWN6 : Hid (∀ g, (Value.slice ga fn gc).ownBlock = some g → b3 < g) := Lib.hid (fun g hg => by have := hown6 g hg; have := hcut.out.ql; omega)
    have HG1 : Hid (GrO wc b3 39 63 7 5 #[.int .i64 x, .int .i64 r, .int .i64 q, .bool b, .int .i64 t, .int .i64 g, .slice ga fn gc, .slice none 0 0] 0 (trs []) wc) :=
      Lib.hid ⟨⟨none, 0, by simpa using hb6, Row.nil _ _ _, fun g hg => by simp [Value.ownBlock] at hg⟩, Chg.refl _ _, block_lt hb6⟩
    clear hb6 hrow6 hown6 hcut HB13 HB23 HG0 HX3
    go_upto_block 2 with fail
    go_cut [5] (fun _ wx => Hid (GrO wc b3 39 63 7 5 #[.int .i64 x, .int .i64 r, .int .i64 q, .bool b, .int .i64 t, .int .i64 g, .slice ga fn gc, .slice none 0 0] tn (trs ti) wx))
    case first =>
      go_wp2_with fail
      go_loopw [5] (fun si wr => ∃ k : Nat, k ≤ tn ∧ si = .int .i64 k ∧ Hid (GrO wc b3 39 63 7 5 #[.int .i64 x, .int .i64 r, .int .i64 q, .bool b, .int .i64 t, .int .i64 g, .slice ga fn gc, .slice none 0 0] k (trs (ti.take k)) wr)) (fun si _ => tn - (RowKit.intOf si).toNat)
      case atStart => exact ⟨0, by omega, rfl, Lib.hid (by simpa using HG1.out)⟩
      case round =>
        obtain ⟨k, hk, rfl, HGk⟩ := hrel
        have HC := Lib.hid HGk.out.chg
        have HBk := Lib.hid ((HC.out.block b1 (block_lt HB14.out) (by have := HBN.out; omega)).trans HB14.out)
        have c7 := cell_of_block HBk.out 7
        by_cases hlt : k < tn
        · have hext : Ext w wr := ((Chg.of_ext HX4.out).trans HC.out (fun _ _ e => e)).ext (fun i hi e => by have := HBN.out; omega)
          obtain ⟨fb, fo, p, rfl, hp, p0, p1, p2, p3, p4⟩ := trs_src (HS.out.ti.ext hext) hlt
          have HNX : Hid (trs (ti.take k) ++ trs [p] = trs (ti.take (k + 1))) := Lib.hid (by rw [← trs_append, List.take_add_one, (show ti[k]? = some p from hp)]; rfl)
          have g1 : ∀ (d : Nat) (f : Nat → Obj) (os : Array Obj), (Instr.loadAt 50 (.pointer (some ⟨fb, fo + k * 5, none⟩))).run Tryz.prog (turned wr (fun _ => false) d f os) = .ok p.val (turned wr (fun _ => false) d f os) := fun d f os => by
            have h1 := run_loadAt_mid (P := Tryz.prog) (turned wr (fun _ => false) d f os) fb (fo + k * 5) 50 p.cells _ (fun i u hu => by
              rcases i with _ | _ | _ | _ | _ | i
              · simp [Tr.cells] at hu; subst hu; exact cell_turned (T := fun _ => false) p0 rfl d f os
              · simp [Tr.cells] at hu; subst hu; exact cell_turned (T := fun _ => false) p1 rfl d f os
              · simp [Tr.cells] at hu; subst hu; exact cell_turned (T := fun _ => false) p2 rfl d f os
              · simp [Tr.cells] at hu; subst hu; exact cell_turned (T := fun _ => false) p3 rfl d f os
              · simp [Tr.cells] at hu; subst hu; exact cell_turned (T := fun _ => false) p4 rfl d f os
              · simp [Tr.cells] at hu) Tryz.underlying50 rfl tier_info
            exact h1
          obtain ⟨ha, hc, hbq, hrow, hown⟩ := HGk.out.blk
          have HROW := Lib.hid hrow
          have HOWN := Lib.hid hown
          have HBq := Lib.hid hbq
          have f0 := cell_turned (T := fun _ => false) (a := ⟨b3, 7, none⟩) (v := .slice ha k hc) (by rw [cell_of_block hbq 7]; rfl) rfl
          have f1 := cell_turned (T := fun _ => false) (a := ⟨b1, 7, none⟩) (v := .slice (some ⟨fb, fo, none⟩) tn tc) (by rw [cell_of_block HBk.out 7]; rfl) rfl
          clear hp p0 p1 p2 p3 p4 hbq hrow hown hext
          go_upto_region 9 with fail
          go_wp2_with fail
          refine wp_region_plan 8 (fun w' => ∃ z : Turned, w' = turned wr (fun _ => false) z.d z.f z.os) (.reads [0, 1, 2, 3, 4, 5, 6] (.one 7 (.one 8 (.one 9 (.one 10 .done))))) (by kernel_rfl) (by kernel_rfl) (fun _ _ dd _ _ hh => by cases dd <;> exact hh) ?_ ?_
          · exact turned_of_ext (Ext.drewN wr 1)
          refine wpPlan_reads ?_
          simp only [pickOps, List.getElem?_cons_succ, List.getElem?_cons_zero]
          iterate 6 (go_big_quiet_step (fail))
          refine wpQuiet_load_box rfl _ _ rfl _ _ rfl (fun w hw => by obtain ⟨z, rfl⟩ := hw; exact g1 z.d z.f z.os) ?_
          refine wpQuiet_nil ?_
          have HXD := Lib.hid (Ext.drewN wr 1)
          clear f0 f1 g1
          refine wpPlan_one ?_
          simp only [pickOps, List.getElem?_cons_succ, List.getElem?_cons_zero]
          go_wp2_with fail
          generalize hw2 : World.drew _ = w2
          have hx2 : Ext wr w2 := by rw [← hw2]; exact ((Ext.refl wr).alloc _).drew
          have hsrc : Src w2 5 (.slice (some ⟨wr.heap.size, 0, none⟩) 1 1) 1 (trs [p]) := src_tr (p := p) (by rw [← hw2]; exact heap_alloc_new wr _)
          have HXX := Lib.hid hx2
          have HSRC := Lib.hid hsrc
          have HBQ2 := Lib.hid (HXX.out.keep HBq.out)
          have HGF := Lib.hid (HGk.out.ext' HXX.out)
          have HTU := Lib.hid (turned_of_ext (T := fun _ => false) HXX.out)
          clear hw2 hx2 hsrc
          refine thenX_mk HTU.out (wpPlan_one ?_)
          simp only [pickOps, List.getElem?_cons_succ, List.getElem?_cons_zero]
          refine wpList_append_to (n := k) (m := 1) elem_rtier rfl _ _ rfl (v := .slice ha k hc) rfl rfl (HROW.out.ext HXX.out) HSRC.out (by unfold maxLen; omega) (by omega) ?_
          intro v3 w3 happ
          rw [HNX.out] at happ
          obtain ⟨hq3, hfin⟩ := HGF.out.add HBQ2.out HOWN.out happ
          have HFIN := Lib.hid hfin
          have d0 : w3.cell? ⟨b3, 7, none⟩ = some (.slice ha k hc) := by rw [cell_of_block hq3 7]; rfl
          have z0 := free_of_block hq3 7
          obtain ⟨a3, c3, rfl⟩ := happ.row.shape
          clear happ hq3 hfin
          go_wp2_with fail
          refine thenX_last (wpPlan_one ?_)
          simp only [pickOps, List.getElem?_cons_succ, List.getElem?_cons_zero]
          go_wp2_with fail
          refine thenX_last (wpPlan_one ?_)
          simp only [pickOps, List.getElem?_cons_succ, List.getElem?_cons_zero]
          go_wp2_with fail
          refine thenX_last (wpPlan_done ?_)
          clear d0 z0 HGF HSRC HBQ2 HTU HXX HXD
          generalize World.setCell _ _ _ = w4 at *
          go_wp2_with fail
          go_roundw
          case rel => exact ⟨k + 1, by omega, by go_num, HFIN⟩
          case measure => simp [RowKit.intOf]; omega
        · obtain rfl : k = tn := by omega
          have hFL : ti.take k = ti := List.take_of_length_le (by rw [HTN.out]; exact Nat.le_refl _)
          rw [hFL] at HGk
          go_wp2_with fail
          go_meet
          case rel => exact HGk
    case rest =>
      obtain ⟨ha, hc, hb7, hrow7, hown7⟩ := hcut.out.blk
      have HX5 : Hid (Ext w wc) := Lib.hid (((Chg.of_ext HX4.out).trans hcut.out.chg (fun _ _ e => e)).ext (fun i hi e => by have := HBN.out; omega))
      have HB25 := Lib.hid ((hcut.out.chg.block b2 (block_lt HB24.out) (by have := HBN.out; omega)).trans HB24.out)
      have HR6 := Lib.hid (HROW6.out.chg hcut.out.chg (fun g hg e => by have := HOWN6.out g hg; omega))
      have HR7 := Lib.hid hrow7
      have HO7 : Hid (∀ g, (Value.slice ha tn hc).ownBlock = some g → b3 < g) := Lib.hid (fun g hg => by have := hown7 g hg; have := hcut.out.ql; omega)
      have HBQ : Hid (wc.heap[b3]? = some (.cells #[.int .i64 x, .int .i64 r, .int .i64 q, .bool b, .int .i64 t, .int .i64 g, .slice ga fn gc, .slice ha tn hc] 39 (0, 0))) := Lib.hid (by simpa using hb7)
      clear hb7 hrow7 hown7 hcut HB14 HB24 HROW6 HG1 HX4
      have c0 := cell_of_block HBQ.out 0
      have c1 := cell_of_block HBQ.out 1
      have c2 := cell_of_block HBQ.out 2
      have c3 := cell_of_block HBQ.out 3
      have c4 := cell_of_block HBQ.out 4
      have c5 := cell_of_block HBQ.out 5
      have c6 := cell_of_block HBQ.out 6
      have c7 := cell_of_block HBQ.out 7
      go_wp2_with (first | (refine wpList_store_box rfl _ _ _ rfl _ _ _ _ rfl rfl HB25.out rfl rsta_info (by simp [Value.oneCell']) ?_; rintro wx hbx hcx; have HBX := Lib.hid hbx; have HCX := Lib.hid hcx; clear hbx hcx))
      refine bodyPost_ret (results_box Tryz.results7 _ _ rfl HBX.out Tryz.underlying39 rfl rsta_info) rfl ?_
      refine ⟨ga, gc, ha, hc, rfl, ((Chg.of_ext HX5.out).trans HCX.out (fun _ _ e => e)).ext (fun i hi e => by have := HBN.out; omega), ?_⟩
      exact ⟨(HR6.out.chg HCX.out (fun g' hg e => by have := HOWN6.out g' hg; have := HBN.out; omega)).src (fls_one _), (HR7.out.chg HCX.out (fun g' hg e => by have := HO7.out g' hg; have := HBN.out; omega)).src (trs_one _), HOK.out, by omega, by omega⟩
end Go.Proofs.YtdgmnhcgjbkafaaGreatDoor

/-! tidemillref18.Same: two states that have the same are the same. -/

namespace Go.Proofs.YtdgmnhcgjbkafaaGreatDoor
open Go.RowKit Go.Sort Go.Lib

theorem rfile_info : (Tryz.prog.info? 62).map (·.size) = some 4 := by kernel_rfl
theorem rtier_info : (Tryz.prog.info? 63).map (·.size) = some 5 := by kernel_rfl
set_option maxHeartbeats 16000000 in
set_option maxRecDepth 100000 in
theorem ref18Same_any (w : World) (s : Sta) (fa ta ga ha : Option Addr) (fn fc tn tc gc hc : Nat) (hs : StIn w s fa fn fc ta tn tc) (hs2 : StIn w s ga fn gc ha tn hc) :
    Calls Tryz.prog 10 #[.agg (staC s fa fn fc ta tn tc), .agg (staC s ga fn gc ha tn hc)] w fun e w' => e = .returned (.bool true) ∧ Ext w w' := by
  have HF1 := Lib.hid hs.fl
  have HT1 := Lib.hid hs.ti
  have HF2 := Lib.hid hs2.fl
  have HT2 := Lib.hid hs2.ti
  have hf := hs.fn63
  have ht := hs.tn63
  clear hs hs2
  obtain ⟨x, r, q, ⟨b, t, g⟩, fl, ti⟩ := s
  simp only at HF1 HT1 HF2 HT2
  go_enter Tryz.func10, Tryz.ntmps10
  go_upto_region 1 with fail
  generalize hW : (w.alloc _).alloc _ = W
  obtain ⟨b1, hb1⟩ : ∃ k, k = w.heap.size := ⟨_, rfl⟩
  obtain ⟨b2, hb2⟩ : ∃ k, k = w.heap.size + 1 := ⟨_, rfl⟩
  rw [← hb2, ← hb1]
  have HB1 : Hid (W.heap[b1]? = some (.cells #[.int .i64 x, .int .i64 r, .int .i64 q, .bool b, .int .i64 t, .int .i64 g, .slice fa fn fc, .slice ta tn tc] 39 (0, 0))) := Lib.hid (by subst hW; rw [hb1, heap_alloc_old _ _ (by simp)]; exact heap_alloc_new w _)
  have HB2 : Hid (W.heap[b2]? = some (.cells #[.int .i64 x, .int .i64 r, .int .i64 q, .bool b, .int .i64 t, .int .i64 g, .slice ga fn gc, .slice ha tn hc] 39 (0, 0))) := Lib.hid (by subst hW; rw [hb2]; exact heap_alloc2 w _ _)
  have HX : Hid (Ext w W) := Lib.hid (by subst hW; exact ((Ext.refl w).alloc _).alloc _)
  clear hW hb1 hb2
  have c0 := cell_of_block HB1.out 0
  have c1 := cell_of_block HB1.out 1
  have c2 := cell_of_block HB1.out 2
  have c3 := cell_of_block HB1.out 3
  have c4 := cell_of_block HB1.out 4
  have c5 := cell_of_block HB1.out 5
  have c6 := cell_of_block HB1.out 6
  have c7 := cell_of_block HB1.out 7
  have d0 := cell_of_block HB2.out 0
  have d1 := cell_of_block HB2.out 1
  have d2 := cell_of_block HB2.out 2
  have d3 := cell_of_block HB2.out 3
  have d4 := cell_of_block HB2.out 4
  have d5 := cell_of_block HB2.out 5
  have d6 := cell_of_block HB2.out 6
  have d7 := cell_of_block HB2.out 7
  go_upto_block 0 with fail
  clear c0 c1 c2 c3 c4 c5 c6 c7 d0 d1 d2 d3 d4 d5 d6 d7
  go_cut [5] (fun _ wx => Hid (Ext W wx))
  case first =>
    go_wp2_with fail
    go_loopw [5] (fun si wr => ∃ k : Nat, k ≤ fn ∧ si = .int .i64 k ∧ Hid (Ext W wr)) (fun si _ => fn - (RowKit.intOf si).toNat)
    case atStart => exact ⟨0, by omega, rfl, Lib.hid (Ext.refl _)⟩
    case round =>
      obtain ⟨k, hk, rfl, HE⟩ := hrel
      have HBa := Lib.hid (HE.out.keep HB1.out)
      have HBb := Lib.hid (HE.out.keep HB2.out)
      have c6 := cell_of_block HBa.out 6
      have d6 := cell_of_block HBb.out 6
      by_cases hlt : k < fn
      · obtain ⟨fb, fo, p, rfl, hp, p0, p1, p2, p3⟩ := fls_src (HF1.out.ext (HX.out.trans HE.out)) hlt
        obtain ⟨gb, go, p', rfl, hp', q0, q1, q2, q3⟩ := fls_src (HF2.out.ext (HX.out.trans HE.out)) hlt
        obtain rfl : p = p' := Option.some.inj (hp.symm.trans hp')
        have g1 : ∀ (d : Nat) (f : Nat → Obj) (os : Array Obj), (Instr.loadAt 62 (.pointer (some ⟨fb, fo + k * 4, none⟩))).run Tryz.prog (turned wr (fun _ => false) d f os) = .ok p.val (turned wr (fun _ => false) d f os) := fun d f os => by
            have h1 := run_loadAt_mid (P := Tryz.prog) (turned wr (fun _ => false) d f os) fb (fo + k * 4) 62 p.cells _ (fun i u hu => by
              rcases i with _ | _ | _ | _ | i
              · simp [Fl.cells] at hu; subst hu; exact cell_turned (T := fun _ => false) p0 rfl d f os
              · simp [Fl.cells] at hu; subst hu; exact cell_turned (T := fun _ => false) p1 rfl d f os
              · simp [Fl.cells] at hu; subst hu; exact cell_turned (T := fun _ => false) p2 rfl d f os
              · simp [Fl.cells] at hu; subst hu; exact cell_turned (T := fun _ => false) p3 rfl d f os
              · simp [Fl.cells] at hu) Tryz.underlying62 rfl rfile_info
            exact h1
        have g2 : ∀ (d : Nat) (f : Nat → Obj) (os : Array Obj), (Instr.loadAt 62 (.pointer (some ⟨gb, go + k * 4, none⟩))).run Tryz.prog (turned wr (fun _ => false) d f os) = .ok p.val (turned wr (fun _ => false) d f os) := fun d f os => by
            have h1 := run_loadAt_mid (P := Tryz.prog) (turned wr (fun _ => false) d f os) gb (go + k * 4) 62 p.cells _ (fun i u hu => by
              rcases i with _ | _ | _ | _ | i
              · simp [Fl.cells] at hu; subst hu; exact cell_turned (T := fun _ => false) q0 rfl d f os
              · simp [Fl.cells] at hu; subst hu; exact cell_turned (T := fun _ => false) q1 rfl d f os
              · simp [Fl.cells] at hu; subst hu; exact cell_turned (T := fun _ => false) q2 rfl d f os
              · simp [Fl.cells] at hu; subst hu; exact cell_turned (T := fun _ => false) q3 rfl d f os
              · simp [Fl.cells] at hu) Tryz.underlying62 rfl rfile_info
            exact h1
        have f0 := cell_turned (T := fun _ => false) (a := ⟨b1, 6, none⟩) (v := .slice (some ⟨fb, fo, none⟩) fn fc) (by rw [cell_of_block HBa.out 6]; rfl) rfl
        have f1 := cell_turned (T := fun _ => false) (a := ⟨b2, 6, none⟩) (v := .slice (some ⟨gb, go, none⟩) fn gc) (by rw [cell_of_block HBb.out 6]; rfl) rfl
        clear hp hp' p0 p1 p2 p3 q0 q1 q2 q3
        obtain ⟨pn, pa, pb, pk⟩ := p
        unfold Fl.val at g1 g2
        simp only at g1 g2
        go_upto_region 6 with fail
        go_wp2_with fail
        refine wp_region_plan 10 (fun w' => ∃ z : Turned, w' = turned wr (fun _ => false) z.d z.f z.os) (.reads [0, 1, 2, 3, 5, 6, 7, 8, 4, 9] (.one 10 .done)) (by kernel_rfl) (by kernel_rfl) (fun _ _ dd _ _ hh => by cases dd <;> exact hh) ?_ ?_
        · exact turned_of_ext (Ext.drewN wr 1)
        refine wpPlan_reads ?_
        simp only [pickOps, List.getElem?_cons_succ, List.getElem?_cons_zero]
        iterate 8 (go_big_quiet_step (fail))
        refine wpQuiet_load_box rfl _ _ rfl _ _ rfl (fun w hw => by obtain ⟨z, rfl⟩ := hw; exact g1 z.d z.f z.os) ?_
        refine wpQuiet_load_box rfl _ _ rfl _ _ rfl (fun w hw => by obtain ⟨z, rfl⟩ := hw; exact g2 z.d z.f z.os) ?_
        refine wpQuiet_nil ?_
        clear f0 f1 g1 g2
        refine wpPlan_one ?_
        simp only [pickOps, List.getElem?_cons_succ, List.getElem?_cons_zero]
        have HXD := Lib.hid (HE.out.trans (Ext.drewN wr 1))
        go_wp2_with fail
        refine thenX_last (wpPlan_done ?_)
        go_wp2_with fail
        go_roundw
        case rel => exact ⟨k + 1, by omega, by go_num, HXD⟩
        case measure => simp [RowKit.intOf]; omega
      · obtain rfl : k = fn := by omega
        go_wp2_with fail
        go_meet
        case rel => exact HE
  case rest =>
    have HX' := Lib.hid (HX.out.trans hcut.out)
    have HB1' := Lib.hid (hcut.out.keep HB1.out)
    have HB2' := Lib.hid (hcut.out.keep HB2.out)
    clear hcut HX HB1 HB2
    have HX := HX'
    have HB1 := HB1'
    have HB2 := HB2'
    clear HX' HB1' HB2'
    go_wp2_with fail
    go_loopw [6] (fun si wr => ∃ k : Nat, k ≤ tn ∧ si = .int .i64 k ∧ Hid (Ext wc wr)) (fun si _ => tn - (RowKit.intOf si).toNat)
    case atStart => exact ⟨0, by omega, rfl, Lib.hid (Ext.refl _)⟩
    case round =>
      obtain ⟨k, hk, rfl, HE⟩ := hrel
      have HBa := Lib.hid (HE.out.keep HB1.out)
      have HBb := Lib.hid (HE.out.keep HB2.out)
      have c7 := cell_of_block HBa.out 7
      have d7 := cell_of_block HBb.out 7
      by_cases hlt : k < tn
      · obtain ⟨fb, fo, p, rfl, hp, p0, p1, p2, p3, p4⟩ := trs_src (HT1.out.ext (HX.out.trans HE.out)) hlt
        obtain ⟨gb, go, p', rfl, hp', q0, q1, q2, q3, q4⟩ := trs_src (HT2.out.ext (HX.out.trans HE.out)) hlt
        obtain rfl : p = p' := Option.some.inj (hp.symm.trans hp')
        have g1 : ∀ (d : Nat) (f : Nat → Obj) (os : Array Obj), (Instr.loadAt 63 (.pointer (some ⟨fb, fo + k * 5, none⟩))).run Tryz.prog (turned wr (fun _ => false) d f os) = .ok p.val (turned wr (fun _ => false) d f os) := fun d f os => by
            have h1 := run_loadAt_mid (P := Tryz.prog) (turned wr (fun _ => false) d f os) fb (fo + k * 5) 63 p.cells _ (fun i u hu => by
              rcases i with _ | _ | _ | _ | _ | i
              · simp [Tr.cells] at hu; subst hu; exact cell_turned (T := fun _ => false) p0 rfl d f os
              · simp [Tr.cells] at hu; subst hu; exact cell_turned (T := fun _ => false) p1 rfl d f os
              · simp [Tr.cells] at hu; subst hu; exact cell_turned (T := fun _ => false) p2 rfl d f os
              · simp [Tr.cells] at hu; subst hu; exact cell_turned (T := fun _ => false) p3 rfl d f os
              · simp [Tr.cells] at hu; subst hu; exact cell_turned (T := fun _ => false) p4 rfl d f os
              · simp [Tr.cells] at hu) Tryz.underlying63 rfl rtier_info
            exact h1
        have g2 : ∀ (d : Nat) (f : Nat → Obj) (os : Array Obj), (Instr.loadAt 63 (.pointer (some ⟨gb, go + k * 5, none⟩))).run Tryz.prog (turned wr (fun _ => false) d f os) = .ok p.val (turned wr (fun _ => false) d f os) := fun d f os => by
            have h1 := run_loadAt_mid (P := Tryz.prog) (turned wr (fun _ => false) d f os) gb (go + k * 5) 63 p.cells _ (fun i u hu => by
              rcases i with _ | _ | _ | _ | _ | i
              · simp [Tr.cells] at hu; subst hu; exact cell_turned (T := fun _ => false) q0 rfl d f os
              · simp [Tr.cells] at hu; subst hu; exact cell_turned (T := fun _ => false) q1 rfl d f os
              · simp [Tr.cells] at hu; subst hu; exact cell_turned (T := fun _ => false) q2 rfl d f os
              · simp [Tr.cells] at hu; subst hu; exact cell_turned (T := fun _ => false) q3 rfl d f os
              · simp [Tr.cells] at hu; subst hu; exact cell_turned (T := fun _ => false) q4 rfl d f os
              · simp [Tr.cells] at hu) Tryz.underlying63 rfl rtier_info
            exact h1
        have f0 := cell_turned (T := fun _ => false) (a := ⟨b1, 7, none⟩) (v := .slice (some ⟨fb, fo, none⟩) tn tc) (by rw [cell_of_block HBa.out 7]; rfl) rfl
        have f1 := cell_turned (T := fun _ => false) (a := ⟨b2, 7, none⟩) (v := .slice (some ⟨gb, go, none⟩) tn hc) (by rw [cell_of_block HBb.out 7]; rfl) rfl
        clear hp hp' p0 p1 p2 p3 p4 q0 q1 q2 q3 q4
        obtain ⟨pw, po, pu, pm, pf⟩ := p
        unfold Tr.val at g1 g2
        simp only at g1 g2
        go_upto_region 11 with fail
        go_wp2_with fail
        refine wp_region_plan 10 (fun w' => ∃ z : Turned, w' = turned wr (fun _ => false) z.d z.f z.os) (.reads [0, 1, 2, 3, 5, 6, 7, 8, 4, 9] (.one 10 .done)) (by kernel_rfl) (by kernel_rfl) (fun _ _ dd _ _ hh => by cases dd <;> exact hh) ?_ ?_
        · exact turned_of_ext (Ext.drewN wr 1)
        refine wpPlan_reads ?_
        simp only [pickOps, List.getElem?_cons_succ, List.getElem?_cons_zero]
        iterate 8 (go_big_quiet_step (fail))
        refine wpQuiet_load_box rfl _ _ rfl _ _ rfl (fun w hw => by obtain ⟨z, rfl⟩ := hw; exact g1 z.d z.f z.os) ?_
        refine wpQuiet_load_box rfl _ _ rfl _ _ rfl (fun w hw => by obtain ⟨z, rfl⟩ := hw; exact g2 z.d z.f z.os) ?_
        refine wpQuiet_nil ?_
        clear f0 f1 g1 g2
        refine wpPlan_one ?_
        simp only [pickOps, List.getElem?_cons_succ, List.getElem?_cons_zero]
        have HXD := Lib.hid (HE.out.trans (Ext.drewN wr 1))
        go_wp2_with fail
        refine thenX_last (wpPlan_done ?_)
        go_wp2_with fail
        go_roundw
        case rel => exact ⟨k + 1, by omega, by go_num, HXD⟩
        case measure => simp [RowKit.intOf]; omega
      · obtain rfl : k = tn := by omega
        go_wp2_with fail
        go_ret
        exact ⟨rfl, HX.out.trans HE.out⟩
end Go.Proofs.YtdgmnhcgjbkafaaGreatDoor

/-! ManifestReads: the walk. -/

namespace Go.Proofs.YtdgmnhcgjbkafaaGreatDoor
open Go.RowKit Go.Sort Go.Lib

theorem mq_load {P : Program} {C : World → Prop} {o : Oper} {a : Act} {K : Act → Prop} (ty : TypeId) (x : Operand) (ho : o.op = .load ty x) (p v : Value) (hx : a.eval x = p)
    (hl : ∀ w, C w → (Instr.loadAt ty p).run P w = .ok v w) (hk : K (a.put o.dst v)) : o.quiet P a C K :=
  ⟨v, fun w hw => by
    unfold Oper.quietAt execOp
    simp only [ho, hx, Sem.run_bind, hl w hw, Result.andThen_ok, Sem.run_pure]
    exact ⟨rfl, rfl⟩, hk⟩
theorem msrc_hi {w : World} {a : Option Addr} {n c k : Nat} {l : List UInt8} (h : Src w 1 (.slice a n c) n (u8s l)) (hk : k ≤ n) (h0 : 0 < k) : Src w 1 (.slice a k c) k (u8s (l.take k)) := by
  have hln := u8s_src_len h
  rcases h with ⟨_, e, _⟩ | ⟨ad, c', e, hl, hc, ho⟩
  · omega
  · simp only [Value.slice.injEq] at e
    obtain ⟨rfl, _, rfl⟩ := e
    refine .inr ⟨ad, c, rfl, by simp [u8s]; omega, fun j u hj => hc j u ?_, fun u hu => ho u ?_⟩
    · rw [← u8s_take, List.getElem?_take] at hj
      split at hj
      · exact hj
      · cases hj
    · rw [← u8s_take] at hu
      exact List.mem_of_mem_take hu
/-- What is told of a state: its bytes, the error. -/
def bytL (s : Sta) : List UInt8 := if staR s = true then sealL 7 (staP s) else []
def bytE (s : Sta) : Int := if staR s = true then 0 else 2
theorem bytesTo_out {w w' : World} {s : Sta} {e : Ending} (h : BytesTo w s e w') : ∃ a c, e = .returned (.tuple #[.slice a (bytL s).length c, .int .i64 (bytE s)]) ∧ Ext w w' ∧ Src w' 1 (.slice a (bytL s).length c) (bytL s).length (u8s (bytL s)) := by
  unfold BytesTo at h
  unfold bytL bytE
  split at h
  · rename_i hr
    rw [if_pos hr, if_pos hr]
    obtain ⟨a, c, rfl, hm⟩ := h
    exact ⟨a, c, rfl, hm.ext, hm.row.src (u8s_one _)⟩
  · rename_i hr
    rw [if_neg hr, if_neg hr]
    obtain ⟨rfl, hx⟩ := h
    exact ⟨none, 0, rfl, hx, .inl ⟨rfl, rfl, rfl⟩⟩
/-- The state that the law asks for. -/
def sta5 : Sta := ⟨5, 0, 0, ⟨false, 0, 0⟩, [], []⟩
theorem sta5_bytes : 9 < (bytL sta5).length ∧ bytE sta5 = 0 := by
  have hr : staR sta5 = true := by decide
  unfold bytL bytE
  rw [if_pos hr, if_pos hr, sealL_len]
  refine ⟨?_, rfl⟩
  have h1 := (varR_bounds (varP (u64n 5))).2.2.2 (by rw [varR_one _ (u64n_lt 5)])
  rw [varR_one _ (u64n_lt 5)] at h1
  simp only at h1
  have h2 : (varP (u64n sta5.x)).length ≤ (staP sta5).length := by
    unfold staP
    simp only [List.length_append]
    omega
  have h3 : u64n sta5.x = u64n 5 := rfl
  rw [h3] at h2
  omega
theorem staRd_fits {l : List UInt8} {s : Sta} (h : (staRd l).getD staZ = s) : s.fl.length ≤ 512 ∧ s.ti.length ≤ 4 := by
  subst h
  unfold staRd
  split
  · exact ⟨by decide, by decide⟩
  · unfold staOk
    split
    · exact ⟨by decide, by decide⟩
    · rename_i h
      have : staR (staFrom ⟨(openR l).2.1, false⟩).1 = true := by
        cases hr : staR (staFrom ⟨(openR l).2.1, false⟩).1 with
        | true => rfl
        | false => exact absurd (.inr (.inr hr)) h
      have := staR_few this
      simpa using this

set_option maxHeartbeats 16000000 in
set_option maxRecDepth 100000 in
theorem manReads_any (w : World) (s : Sta) (fa ta : Option Addr) (fn fc tn tc : Nat) (hs : StIn w s fa fn fc ta tn tc) (a : Option Addr) (n c : Nat) (l : List UInt8) (hl : Src w 1 (.slice a n c) n (u8s l)) (hnc : n ≤ c) (hg : HasET w) :
    Calls Tryz.prog 3 #[.agg (staC s fa fn fc ta tn tc), .slice a n c] w fun e w' => e = .returned (.bool true) ∧ Ext w w' := by
  have HS := Lib.hid hs
  have HG := Lib.hid hg
  have HL := Lib.hid hl
  have HFEW := Lib.hid (fun W hx => few_any W s fa ta fn fc tn tc (hs.ext hx))
  have HBY := Lib.hid (fun W hx => manBytes_any W s fa ta fn fc tn tc (hs.ext hx) (hg.ext hx))
  have HOW := Lib.hid (fun W hx (h1 : fn ≤ 4096) (h2 : tn ≤ 4096) => manOwn_any W s fa ta fn fc tn tc (hs.ext hx) h1 h2)
  have HLB := Lib.hid (fun e W W' => bytesTo_out (w := W) (w' := W') (s := s) (e := e))
  have HRB := Lib.hid (fun W fa' fc' ta' tc' h => ref18Bytes_any W s fa' ta' fn fc' tn tc' h)
  generalize bytL s = BL at *
  generalize bytE s = BE at *
  obtain ⟨x, r, q, ⟨mb, mt, mg⟩, fl, ti⟩ := s
  clear hs hg hl
  go_enter Tryz.func3, Tryz.ntmps3
  go_wp2_with fail
  generalize hW : World.alloc _ _ = W
  have HX0 : Hid (Ext w W) := Lib.hid (by subst hW; exact (Ext.refl w).alloc _)
  have HBX : Hid (W.heap[w.heap.size]? = some (.cells #[.int .i64 x, .int .i64 r, .int .i64 q, .bool mb, .int .i64 mt, .int .i64 mg, .slice fa fn fc, .slice ta tn tc] 27 (0, 0))) := Lib.hid (by subst hW; exact heap_alloc_new w _)
  clear hW
  refine (HFEW.out W HX0.out).mono ?_
  rintro e w1 ⟨B, rfl, hx, hfew⟩
  replace HBX := Lib.hid (hx.keep HBX.out)
  have HX := Lib.hid (HX0.out.trans hx)
  clear hx HX0 HFEW
  cases B
  · go_wp2_with fail
    go_ret
    exact ⟨rfl, HX.out⟩
  · have hfew' := hfew rfl
    clear hfew
    go_upto_if 20 with fail
    go_cut [1] (fun s1 wx => ∃ (n' : Nat) (l' : List UInt8), s1 = .slice a n' c ∧ n' ≤ 3000 ∧ Hid (SlB wx a n' c l') ∧ Hid (Ext w1 wx))
    case first =>
      rcases Nat.lt_or_ge 3000 n with h3 | h3
      · have HSL : Hid (SlB w1 a 3000 c (l.take 3000)) := Lib.hid ⟨(msrc_hi HL.out (by omega) (by omega)).ext HX.out, by omega, by omega⟩
        have hbc : 3000 ≤ c := by omega
        have h3' : (3000 : Int) < (n : Int) := by omega
        go_wp2_with fail
        go_meet
        case rel => exact ⟨3000, _, rfl, by omega, HSL, Lib.hid (Ext.refl _)⟩
      · have HSL : Hid (SlB w1 a n c l) := Lib.hid ⟨HL.out.ext HX.out, hnc, by omega⟩
        have h3' : ¬ (3000 : Int) < (n : Int) := by omega
        go_wp2_with fail
        go_meet
        case rel => exact ⟨n, _, rfl, by omega, HSL, Lib.hid (Ext.refl _)⟩
    case rest =>
      obtain ⟨n', l', rfl, hn', HSL, HE⟩ := hcut
      replace HBX := Lib.hid (HE.out.keep HBX.out)
      have HX2 := Lib.hid (HX.out.trans HE.out)
      clear HX HE HL hnc
      have c0 := cell_of_block HBX.out 0
      have c1 := cell_of_block HBX.out 1
      have c2 := cell_of_block HBX.out 2
      have c3 := cell_of_block HBX.out 3
      have c4 := cell_of_block HBX.out 4
      have c5 := cell_of_block HBX.out 5
      have c6 := cell_of_block HBX.out 6
      have c7 := cell_of_block HBX.out 7
      go_wp2_with fail
      clear c0 c1 c2 c3 c4 c5 c6 c7
      refine (HBY.out wc HX2.out).mono ?_
      rintro e w3 hby
      obtain ⟨a3, c3, rfl, hx, hsrc⟩ := HLB.out _ _ _ hby
      have HS3 := Lib.hid hsrc
      have HX3 := Lib.hid (HX2.out.trans hx)
      have HSL3 := Lib.hid (HSL.out.ext hx)
      replace HBX := Lib.hid (hx.keep HBX.out)
      clear hby hx hsrc HBY HX2 HSL
      have c0 := cell_of_block HBX.out 0
      have c1 := cell_of_block HBX.out 1
      have c2 := cell_of_block HBX.out 2
      have c3' := cell_of_block HBX.out 3
      have c4 := cell_of_block HBX.out 4
      have c5 := cell_of_block HBX.out 5
      have c6 := cell_of_block HBX.out 6
      have c7 := cell_of_block HBX.out 7
      go_wp2_with fail
      clear c0 c1 c2 c3' c4 c5 c6 c7
      refine (HOW.out w3 HX3.out (by omega) (by omega)).mono ?_
      rintro e w4 ⟨ga, gc, ha, hc, rfl, hx, hin⟩
      have HIN4 := Lib.hid hin
      have HX4 := Lib.hid (HX3.out.trans hx)
      have HS4 := Lib.hid (HS3.out.ext hx)
      have HSL4 := Lib.hid (HSL3.out.ext hx)
      clear hx hin HOW HX3 HS3 HSL3 HBX
      go_wp2_with fail
      refine (HRB.out w4 ga gc ha hc HIN4.out).mono ?_
      rintro e w5 hby
      obtain ⟨a5, c5, rfl, hx, hsrc⟩ := HLB.out _ _ _ hby
      have HT5 := Lib.hid hsrc
      have HX5 := Lib.hid (HX4.out.trans hx)
      have HS5 := Lib.hid (HS4.out.ext hx)
      have HSL5 := Lib.hid (HSL4.out.ext hx)
      clear hby hx hsrc HRB HX4 HS4 HSL4 HIN4 HLB
      go_wp2_with fail
      refine (manRead_any w5 a n' c l' HSL5.out (by omega) (HG.out.ext HX5.out)).mono ?_
      rintro e w6 ⟨za, zn, zc, ya, yn, yc, rfl, hx, hin⟩
      have HZ6 := Lib.hid hin
      have HX6 := Lib.hid (HX5.out.trans hx)
      have HS6 := Lib.hid (HS5.out.ext hx)
      have HT6 := Lib.hid (HT5.out.ext hx)
      have HSL6 := Lib.hid (HSL5.out.ext hx)
      clear hx hin HX5 HS5 HT5 HSL5
      have HRR := Lib.hid (refRd_alike l')
      have HFIT := Lib.hid (fun s => staRd_fits (l := l') (s := s))
      generalize staRd l' = O at *
      obtain ⟨Z, hZ⟩ : ∃ Z, O.getD staZ = Z := ⟨_, rfl⟩
      rw [hZ] at HZ6 ⊢
      have HFT := Lib.hid (HFIT.out Z hZ)
      have HZO := Lib.hid hZ
      clear hZ HFIT
      have HZN : Hid (Z.fl.length = zn ∧ Z.ti.length = yn) := Lib.hid ⟨fls_src_len HZ6.out.fl, trs_src_len HZ6.out.ti⟩
      obtain ⟨zx, zr, zq, ⟨zb, zt, zg⟩, zfl, zti⟩ := Z
      generalize hK : (if O.isSome = true then (0 : Int) else 24) = K at *
      have HK := Lib.hid hK
      clear hK
      go_upto_region 8 with fail
      obtain ⟨b9, hb9⟩ : ∃ k, k = w6.heap.size := ⟨_, rfl⟩
      rw [← hb9]
      generalize hW : w6.alloc _ = w7
      have hx7 : Ext w6 w7 := by rw [← hW]; exact (Ext.refl w6).alloc _
      have HB9 : Hid (w7.heap[b9]? = some (.cells #[.int .i64 zx, .int .i64 zr, .int .i64 zq, .bool zb, .int .i64 zt, .int .i64 zg, .slice za zn zc, .slice ya yn yc] 27 (0, 0))) := Lib.hid (by rw [← hW, hb9]; exact heap_alloc_new w6 _)
      have HX7 := Lib.hid (HX6.out.trans hx7)
      have HS7 := Lib.hid (HS6.out.ext hx7)
      have HT7 := Lib.hid (HT6.out.ext hx7)
      have HSL7 := Lib.hid (HSL6.out.ext hx7)
      have HZ7 := Lib.hid (HZ6.out.ext hx7)
      clear hW hb9 hx7 HX6 HS6 HT6 HSL6 HZ6
      go_wp2_with fail
      refine (ref18Read_any w7 a n' c l' HSL7.out (by omega) (HG.out.ext HX7.out)).mono ?_
      rw [HRR.out]
      rintro e w8 ⟨va, vn, vc, ua, un, uc, rfl, hx, hin⟩
      rw [HZO.out] at hin ⊢
      rw [HK.out]
      have HV8 := Lib.hid hin
      have HX8 := Lib.hid (HX7.out.trans hx)
      have HS8 := Lib.hid (HS7.out.ext hx)
      have HT8 := Lib.hid (HT7.out.ext hx)
      have HZ8 := Lib.hid (HZ7.out.ext hx)
      have HB98 := Lib.hid (hx.keep HB9.out)
      clear hx hin HX7 HS7 HT7 HSL7 HZ7 HB9 HRR
      obtain ⟨rfl, rfl⟩ : vn = zn ∧ un = yn := by
        have h1 := fls_src_len HV8.out.fl
        have h2 := trs_src_len HV8.out.ti
        have h3 := HZN.out
        simp only at h1 h2
        omega
      go_upto_region 9 with fail
      obtain ⟨b11, hb11⟩ : ∃ k, k = w8.heap.size := ⟨_, rfl⟩
      rw [← hb11]
      generalize hW : w8.alloc _ = w9
      have hx9 : Ext w8 w9 := by rw [← hW]; exact (Ext.refl w8).alloc _
      have HB11 : Hid (w9.heap[b11]? = some (.cells #[.int .i64 zx, .int .i64 zr, .int .i64 zq, .bool zb, .int .i64 zt, .int .i64 zg, .slice va vn vc, .slice ua un uc] 39 (0, 0))) := Lib.hid (by rw [← hW, hb11]; exact heap_alloc_new w8 _)
      have HX9 := Lib.hid (HX8.out.trans hx9)
      have HS9 := Lib.hid (HS8.out.ext hx9)
      have HT9 := Lib.hid (HT8.out.ext hx9)
      have HZ9 := Lib.hid (HZ8.out.ext hx9)
      have HV9 := Lib.hid (HV8.out.ext hx9)
      have HB99 := Lib.hid (hx9.keep HB98.out)
      clear hW hb11 hx9 HX8 HS8 HT8 HZ8 HV8 HB98
      have HB5 := Lib.hid (manBytes_any w9 sta5 none none 0 0 0 0 ⟨.inl ⟨rfl, rfl, rfl⟩, .inl ⟨rfl, rfl, rfl⟩, ⟨by decide, by decide, by decide, by decide⟩, by decide, by decide⟩ (HG.out.ext HX9.out))
      go_wp2_with fail
      refine HB5.out.mono ?_
      rintro e w10 hby
      obtain ⟨a10, c10, rfl, hx, -⟩ := bytesTo_out hby
      obtain ⟨h9, h0⟩ := sta5_bytes
      rw [h0]
      generalize (bytL sta5).length = N5 at *
      have HX10 := Lib.hid (HX9.out.trans hx)
      have HS10 := Lib.hid (HS9.out.ext hx)
      have HT10 := Lib.hid (HT9.out.ext hx)
      have HZ10 := Lib.hid (HZ9.out.ext hx)
      have HV10 := Lib.hid (HV9.out.ext hx)
      have HB910 := Lib.hid (hx.keep HB99.out)
      have HB1110 := Lib.hid (hx.keep HB11.out)
      clear hby hx HX9 HS9 HT9 HZ9 HV9 HB99 HB11 h0 HB5
      go_upto_region 10 with fail
      have hex : ∀ (d : Nat) (f : Nat → Obj) (os : Array Obj), Ext w10 (turned w10 (fun _ => false) d f os) := fun d f os => (chg_turned w10 (fun _ => false) d f os).ext (fun i hi e => by simp at e)
      obtain ⟨TX, hTX⟩ : ∃ TX : ByteArray, TX = ⟨BL.toArray⟩ := ⟨_, rfl⟩
      have hq : (TX.toList == TX.toList) = true := beq_self_eq_true _
      have g0 : ∀ (d : Nat) (f : Nat → Obj) (os : Array Obj), (Go.convert 28 9 (.slice a3 BL.length c3)).run Tryz.prog (turned w10 (fun _ => false) d f os) = .ok (.string TX) (turned w10 (fun _ => false) d f os) := fun d f os => by rw [hTX]; exact conv_text (HS10.out.ext (hex d f os))
      have g1 : ∀ (d : Nat) (f : Nat → Obj) (os : Array Obj), (Go.convert 28 9 (.slice a5 BL.length c5)).run Tryz.prog (turned w10 (fun _ => false) d f os) = .ok (.string TX) (turned w10 (fun _ => false) d f os) := fun d f os => by rw [hTX]; exact conv_text (HT10.out.ext (hex d f os))
      have g2 : ∀ (d : Nat) (f : Nat → Obj) (os : Array Obj), (Instr.loadAt 27 (.pointer (some ⟨b9, 0, none⟩))).run Tryz.prog (turned w10 (fun _ => false) d f os) = .ok (.agg #[.int .i64 zx, .int .i64 zr, .int .i64 zq, .bool zb, .int .i64 zt, .int .i64 zg, .slice za vn zc, .slice ya un yc]) (turned w10 (fun _ => false) d f os) := fun d f os => load_box_turned HB910.out rfl Tryz.underlying27 rfl sta_info d f os
      have g3 : ∀ (d : Nat) (f : Nat → Obj) (os : Array Obj), (Instr.loadAt 39 (.pointer (some ⟨b11, 0, none⟩))).run Tryz.prog (turned w10 (fun _ => false) d f os) = .ok (.agg #[.int .i64 zx, .int .i64 zr, .int .i64 zq, .bool zb, .int .i64 zt, .int .i64 zg, .slice va vn vc, .slice ua un uc]) (turned w10 (fun _ => false) d f os) := fun d f os => load_box_turned HB1110.out rfl Tryz.underlying39 rfl rsta_info d f os
      clear hTX hex
      go_wp2_with fail
      refine wp_region_plan 30 (fun w' => ∃ z : Turned, w' = turned w10 (fun _ => false) z.d z.f z.os) (.reads [0, 1, 2, 3, 4, 5, 6, 7, 8, 9, 10, 11, 13] (.one 12 (.one 14 (.reads [15, 16, 17, 18, 19, 20, 21, 22, 23, 24, 25, 26, 27, 28, 29] (.one 30 .done))))) (by kernel_rfl) (by kernel_rfl) (fun _ _ dd _ _ hh => by cases dd <;> exact hh) ?_ ?_
      · exact turned_of_ext (Ext.drewN w10 1)
      refine wpPlan_reads ?_
      simp only [pickOps, List.getElem?_cons_succ, List.getElem?_cons_zero]
      repeat (first | (go_big_quiet_want; refine mq_load _ _ rfl _ _ rfl (fun w hw => by obtain ⟨z, rfl⟩ := hw; exact g2 z.d z.f z.os) ?_; go_big_quiet_on; simp only [Act.put, List.setIfInBounds_toArray, List.set_cons_succ, List.set_cons_zero]) | (go_big_quiet_want; refine mq_load _ _ rfl _ _ rfl (fun w hw => by obtain ⟨z, rfl⟩ := hw; exact g3 z.d z.f z.os) ?_; go_big_quiet_on; simp only [Act.put, List.setIfInBounds_toArray, List.set_cons_succ, List.set_cons_zero]) | (go_big_quiet_step (fail)))
      refine wpQuiet_nil ?_
      clear g0 g1 g2 g3
      refine wpPlan_one ?_
      simp only [pickOps, List.getElem?_cons_succ, List.getElem?_cons_zero]
      have hz1 : vn ≤ 4096 := by have := HFT.out; have := HZN.out; omega
      have hz2 : un ≤ 4096 := by have := HFT.out; have := HZN.out; omega
      go_wp2_with fail
      refine (manOwn_any _ ⟨zx, zr, zq, ⟨zb, zt, zg⟩, zfl, zti⟩ za ya vn zc un yc (HZ10.out.ext (Ext.drewN w10 1)) hz1 hz2).mono ?_
      rintro e w11 ⟨oa, oc, pa, pc, rfl, hx, hin⟩
      have HXE := Lib.hid ((Ext.drewN w10 1).trans hx)
      have HOI := Lib.hid hin
      clear hx hin
      go_wp2_with fail
      refine thenX_mk (turned_of_ext HXE.out) (wpPlan_one ?_)
      simp only [pickOps, List.getElem?_cons_succ, List.getElem?_cons_zero]
      go_wp2_with fail
      refine (ref18Same_any w11 ⟨zx, zr, zq, ⟨zb, zt, zg⟩, zfl, zti⟩ oa pa va ua vn oc un pc vc uc HOI.out (HV10.out.ext HXE.out)).mono ?_
      rintro e w12 ⟨rfl, hx⟩
      have HXF := Lib.hid (HXE.out.trans hx)
      clear hx
      go_wp2_with fail
      refine thenX_mk (turned_of_ext HXF.out) (wpPlan_reads ?_)
      simp only [pickOps, List.getElem?_cons_succ, List.getElem?_cons_zero]
      have hk1 : (K == K) = true := beq_self_eq_true _
      have h9i : decide ((9 : Int) < (N5 : Int)) = true := by simp; omega
      repeat (go_big_quiet_step (fail))
      refine wpQuiet_nil ?_
      refine wpPlan_one ?_
      simp only [pickOps, List.getElem?_cons_succ, List.getElem?_cons_zero]
      go_wp2_with fail
      refine thenX_last (wpPlan_done ?_)
      go_wp2_with fail
      go_ret
      exact ⟨rfl, HX10.out.trans HXF.out⟩
end Go.Proofs.YtdgmnhcgjbkafaaGreatDoor
