/- tidemilllaw18.few: it tells yes or no. -/
import Derived.Test.YtgdgjnecgelalaaGreatDoorMfd
import Derived.Test.YtgdgjnecgelalaaGreatDoorMr5
namespace Go.Proofs.YtgdgjnecgelalaaGreatDoor
open Go.RowKit Go.Sort Go.Lib

/-- What few tells. -/
def FewPost (w : World) (n : Nat) (e : Ending) (w' : World) : Prop := ∃ B, e = .returned (.bool B) ∧ Ext w w' ∧ (B = true → n < 900)
set_option maxHeartbeats 8000000 in
set_option maxRecDepth 100000 in
theorem few_any (w : World) (s : Sta) (fa ta : Option Addr) (fn fc tn tc : Nat) (hs : StIn w s fa fn fc ta tn tc) :
    Calls Tryz.prog 9 #[.agg (staC s fa fn fc ta tn tc)] w (FewPost w (fn + tn)) := by
  have HS := Lib.hid hs
  have hf := hs.fn63
  have ht := hs.tn63
  clear hs
  obtain ⟨x, r, q, ⟨b, t, g⟩, fl, ti⟩ := s
  go_enter Tryz.func9, Tryz.ntmps9
  go_upto_region 1 with fail
  generalize hW : World.alloc _ _ = W
  have HX : Hid (Ext w W) := Lib.hid (by subst hW; exact (Ext.refl w).alloc _)
  have HBX : Hid (W.heap[w.heap.size]? = some (.cells #[.int .i64 x, .int .i64 r, .int .i64 q, .bool b, .int .i64 t, .int .i64 g, .slice fa fn fc, .slice ta tn tc] 40 (0, 0))) := Lib.hid (by subst hW; exact heap_alloc_new w _)
  clear hW
  have c6 := cell_of_block HBX.out 6
  have c7 := cell_of_block HBX.out 7
  go_upto_block 0 with fail
  go_cut [3] (fun s3 wx => ∃ z : Int, s3 = .int .i64 z ∧ Hid (900 ≤ fn + tn → 900 ≤ z) ∧ Hid (Ext W wx))
  case first =>
    go_wp2_with fail
    go_loopw [4, 3] (fun si sz wr => ∃ (k : Nat) (z : Int), k ≤ fn ∧ si = .int .i64 k ∧ sz = .int .i64 z ∧ Hid (900 ≤ fn + tn → 900 ≤ z) ∧ Hid (Ext W wr)) (fun si _ _ => fn - (RowKit.intOf si).toNat)
    case atStart => exact ⟨0, (fn : Int) + (tn : Int), by omega, rfl, by go_num, Lib.hid (fun _ => by omega), Lib.hid (Ext.refl _)⟩
    case round =>
      obtain ⟨k, z, hk, rfl, rfl, HZ1, HE⟩ := hrel
      have HBY := Lib.hid (HE.out.keep HBX.out)
      clear c6 c7
      have c6 := cell_of_block HBY.out 6
      by_cases hlt : k < fn
      · by_cases hz : z < 900
        · obtain ⟨fb, fo, p, rfl, hp, p0, p1, p2, p3⟩ := fls_src (HS.out.fl.ext (HX.out.trans HE.out)) hlt
          clear hp
          go_wp2_with fail
          go_roundw
          case rel => exact ⟨k + 1, _, by omega, by go_num, rfl, Lib.hid (fun h => by have := HZ1.out h; omega), HE⟩
          case measure => simp [RowKit.intOf]; omega
        · go_wp2_with fail
          go_meet
          case rel => exact ⟨z, rfl, HZ1, HE⟩
      · obtain rfl : k = fn := by omega
        go_wp2_with fail
        go_meet
        case rel => exact ⟨z, rfl, HZ1, HE⟩
  case rest =>
    obtain ⟨z, rfl, HZ1, HE0⟩ := hcut
    have HBZ := Lib.hid (HE0.out.keep HBX.out)
    clear c6 c7
    have c7 := cell_of_block HBZ.out 7
    go_wp2_with fail
    go_loopw [5, 3] (fun si sz wr => ∃ (k : Nat) (z : Int), k ≤ tn ∧ si = .int .i64 k ∧ sz = .int .i64 z ∧ Hid (900 ≤ fn + tn → 900 ≤ z) ∧ Hid (Ext W wr)) (fun si _ _ => tn - (RowKit.intOf si).toNat)
    case atStart => exact ⟨0, z, by omega, rfl, rfl, HZ1, HE0⟩
    case round =>
      obtain ⟨k, z, hk, rfl, rfl, HZ1, HE⟩ := hrel
      have HBY := Lib.hid (HE.out.keep HBX.out)
      clear c7
      have c7 := cell_of_block HBY.out 7
      by_cases hlt : k < tn
      · by_cases hz : z < 900
        · obtain ⟨fb, fo, p, rfl, hp, p0, p1, p2, p3, p4⟩ := trs_src (HS.out.ti.ext (HX.out.trans HE.out)) hlt
          clear hp
          go_wp2_with fail
          go_roundw
          case rel => exact ⟨k + 1, _, by omega, by go_num, rfl, Lib.hid (fun h => by have := HZ1.out h; omega), HE⟩
          case measure => simp [RowKit.intOf]; omega
        · go_wp2_with fail
          go_ret
          exact ⟨_, rfl, HX.out.trans HE.out, fun h => by simp at h⟩
      · obtain rfl : k = tn := by omega
        go_wp2_with fail
        go_ret
        exact ⟨_, rfl, HX.out.trans HE.out, fun h => by simp at h; have := HZ1.out; omega⟩
end Go.Proofs.YtgdgjnecgelalaaGreatDoor

/-! tidemilllaw18.own: a state for the document. -/

namespace Go.Proofs.YtgdgjnecgelalaaGreatDoor
open Go.RowKit Go.Sort Go.Lib

/-- A field of a struct in a box grows. -/
structure GrO (ws : World) (q : Nat) (ts te : TypeId) (i size : Nat) (base : Array Value) (n : Nat) (xs : List Value) (w : World) : Prop where
  blk : ∃ a c, w.heap[q]? = some (.cells (base.setIfInBounds i (.slice a n c)) ts (0, 0)) ∧ Row w te size (.slice a n c) n xs ∧ ∀ g, (Value.slice a n c).ownBlock = some g → ws.heap.size ≤ g
  chg : Chg (· = q) ws w
  ql : q < ws.heap.size
section
variable {ws w w1 : World} {q : Nat} {ts te : TypeId} {i size n : Nat} {base : Array Value} {xs : List Value}
theorem GrO.ext' (h : GrO ws q ts te i size base n xs w) (hx : Ext w w1) : GrO ws q ts te i size base n xs w1 := by
  obtain ⟨a, c, hb, hrow, ho⟩ := h.blk
  exact ⟨⟨a, c, hx.keep hb, hrow.ext hx, ho⟩, h.chg.trans (Chg.of_ext (S := fun _ => False) hx) (fun _ _ e => e.elim), h.ql⟩
theorem GrO.add {a : Option Addr} {c m : Nat} {ys : List Value} {v' : Value} (h : GrO ws q ts te i size base n xs w)
    (hb : w.heap[q]? = some (.cells (base.setIfInBounds i (.slice a n c)) ts (0, 0))) (ho : ∀ g, (Value.slice a n c).ownBlock = some g → ws.heap.size ≤ g)
    (happ : Appended w te size (.slice a n c) m ys v' w1) : w1.heap[q]? = some (.cells (base.setIfInBounds i (.slice a n c)) ts (0, 0)) ∧ GrO ws q ts te i size base m ys (w1.setCell ⟨q, i, none⟩ v') := by
  have hq1 : w1.heap[q]? = some (.cells (base.setIfInBounds i (.slice a n c)) ts (0, 0)) := (happ.chg.block q (block_lt hb) (fun e => by have := ho q e; have := h.ql; omega)).trans hb
  obtain ⟨a', c', rfl⟩ := happ.row.shape
  have hs := setCell_chg w1 q i (.slice a' m c')
  have ho' : ∀ g, (Value.slice a' m c').ownBlock = some g → ws.heap.size ≤ g := fun g hg => by
    rcases happ.loc with e | e
    · exact ho g (by rw [← e]; exact hg)
    · rw [e] at hg; simp at hg; have := h.chg.size; omega
  have hc : Chg (· = q) ws (w1.setCell ⟨q, i, none⟩ (.slice a' m c')) := (h.chg.trans happ.chg (fun k hk e => by have := ho k e; omega)).trans hs (fun _ _ e => e)
  refine ⟨hq1, ⟨a', c', ?_, happ.row.chg hs (fun g hg e => by have := ho' g hg; have := h.ql; omega), ho'⟩, hc, h.ql⟩
  have := setCell_block hq1 (i := i) (.slice a' m c')
  rw [this]
  simp [Array.setIfInBounds_setIfInBounds]
end
/-- What own leaves. -/
def OwnPost (w : World) (s : Sta) (fn tn : Nat) (e : Ending) (w' : World) : Prop := ∃ fa fc ta tc, e = .returned (.agg (staC s fa fn fc ta tn tc)) ∧ Ext w w' ∧ StIn w' s fa fn fc ta tn tc

set_option maxHeartbeats 16000000 in
set_option maxRecDepth 100000 in
theorem manOwn_any (w : World) (s : Sta) (fa ta : Option Addr) (fn fc tn tc : Nat) (hs : StIn w s fa fn fc ta tn tc) (hf : fn ≤ 4096) (ht : tn ≤ 4096) :
    Calls Tryz.prog 12 #[.agg (staC s fa fn fc ta tn tc)] w (OwnPost w s fn tn) := by
  have HS := Lib.hid hs
  have HFN := Lib.hid (fls_src_len hs.fl)
  have HTN := Lib.hid (trs_src_len hs.ti)
  have HOK := Lib.hid hs.ok
  clear hs
  obtain ⟨x, r, q, ⟨b, t, g⟩, fl, ti⟩ := s
  go_enter Tryz.func12, Tryz.ntmps12
  go_upto_region 1 with fail
  generalize hW : (w.alloc _).alloc _ = W
  obtain ⟨b1, hb1⟩ : ∃ k, k = w.heap.size := ⟨_, rfl⟩
  obtain ⟨b2, hb2⟩ : ∃ k, k = w.heap.size + 1 := ⟨_, rfl⟩
  rw [← hb2, ← hb1]
  have HB1 : Hid (W.heap[b1]? = some (.cells #[.int .i64 x, .int .i64 r, .int .i64 q, .bool b, .int .i64 t, .int .i64 g, .slice fa fn fc, .slice ta tn tc] 40 (0, 0))) := Lib.hid (by subst hW; rw [hb1, heap_alloc_old _ _ (by simp)]; exact heap_alloc_new w _)
  have HB2 : Hid (W.heap[b2]? = some (.cells #[.int .i64 0, .int .i64 0, .int .i64 0, .bool false, .int .i64 0, .int .i64 0, .slice none 0 0, .slice none 0 0] 47 (0, 0))) := Lib.hid (by subst hW; rw [hb2]; exact heap_alloc2 w _ _)
  have HX : Hid (Ext w W) := Lib.hid (by subst hW; exact ((Ext.refl w).alloc _).alloc _)
  have HBB : Hid (w.heap.size = b1 ∧ b2 = b1 + 1 ∧ W.heap.size = b1 + 2) := Lib.hid (by subst hW; refine ⟨hb1.symm, by omega, ?_⟩; simp; omega)
  clear hW hb1 hb2
  have c0 := cell_of_block HB1.out 0
  have c1 := cell_of_block HB1.out 1
  have c2 := cell_of_block HB1.out 2
  have c3 := cell_of_block HB1.out 3
  have c4 := cell_of_block HB1.out 4
  have c5 := cell_of_block HB1.out 5
  go_upto_block 0 with fail
  clear c0 c1 c2 c3 c4 c5
  obtain ⟨b3, hb3⟩ : ∃ k, k = W.heap.size := ⟨_, rfl⟩
  rw [← hb3]
  generalize hW : W.alloc _ = W3
  have hx3 : Ext W W3 := by rw [← hW]; exact (Ext.refl W).alloc _
  have hq3 : W3.heap[b3]? = some (.cells #[.int .i64 x, .int .i64 r, .int .i64 q, .bool b, .int .i64 t, .int .i64 g, .slice none 0 0, .slice none 0 0] 47 (0, 0)) := by rw [← hW, hb3]; exact heap_alloc_new W _
  have HB13 := Lib.hid (hx3.keep HB1.out)
  have HB23 := Lib.hid (hx3.keep HB2.out)
  have HX3 := Lib.hid (HX.out.trans hx3)
  have HBN : Hid (b1 < b3 ∧ b2 < b3 ∧ w.heap.size ≤ b1 ∧ w.heap.size ≤ b2 ∧ b1 < b2) := Lib.hid (by have := HBB.out; omega)
  have HG0 : Hid (GrO W3 b3 47 88 6 4 #[.int .i64 x, .int .i64 r, .int .i64 q, .bool b, .int .i64 t, .int .i64 g, .slice none 0 0, .slice none 0 0] 0 (fls []) W3) :=
    Lib.hid ⟨⟨none, 0, by simpa using hq3, Row.nil _ _ _, fun g hg => by simp [Value.ownBlock] at hg⟩, Chg.refl _ _, block_lt hq3⟩
  clear hW hx3 hq3 hb3 HB1 HB2 HX HBB
  go_cut [4] (fun _ wx => Hid (GrO W3 b3 47 88 6 4 #[.int .i64 x, .int .i64 r, .int .i64 q, .bool b, .int .i64 t, .int .i64 g, .slice none 0 0, .slice none 0 0] fn (fls fl) wx))
  case first =>
    go_wp2_with fail
    go_loopw [4] (fun si wr => ∃ k : Nat, k ≤ fn ∧ si = .int .i64 k ∧ Hid (GrO W3 b3 47 88 6 4 #[.int .i64 x, .int .i64 r, .int .i64 q, .bool b, .int .i64 t, .int .i64 g, .slice none 0 0, .slice none 0 0] k (fls (fl.take k)) wr)) (fun si _ => fn - (RowKit.intOf si).toNat)
    case atStart => exact ⟨0, by omega, rfl, Lib.hid (by simpa using HG0.out)⟩
    case round =>
      obtain ⟨k, hk, rfl, HGk⟩ := hrel
      have HC := Lib.hid HGk.out.chg
      have HBk := Lib.hid ((HC.out.block b1 (block_lt HB13.out) (by have := HBN.out; omega)).trans HB13.out)
      have c6 := cell_of_block HBk.out 6
      by_cases hlt : k < fn
      · have hext : Ext w wr := ((Chg.of_ext HX3.out).trans HC.out (fun _ _ e => e)).ext (fun i hi e => by have := HBN.out; omega)
        obtain ⟨fb, fo, p, rfl, hp, p0, p1, p2, p3⟩ := fls_src (HS.out.fl.ext hext) hlt
        have HNX : Hid (fls (fl.take k) ++ fls [p] = fls (fl.take (k + 1))) := Lib.hid (by rw [← fls_append, List.take_add_one, (show fl[k]? = some p from hp)]; rfl)
        have g1 : ∀ (d : Nat) (f : Nat → Obj) (os : Array Obj), (Instr.loadAt 74 (.pointer (some ⟨fb, fo + k * 4, none⟩))).run Tryz.prog (turned wr (fun _ => false) d f os) = .ok p.val (turned wr (fun _ => false) d f os) := fun d f os => by
          have h1 := run_loadAt_mid (P := Tryz.prog) (turned wr (fun _ => false) d f os) fb (fo + k * 4) 74 p.cells _ (fun i u hu => by
            have : w.heap.size = w.heap.size := rfl
            rcases i with _ | _ | _ | _ | i
            · simp [Fl.cells] at hu; subst hu; exact cell_turned (T := fun _ => false) p0 rfl d f os
            · simp [Fl.cells] at hu; subst hu; exact cell_turned (T := fun _ => false) p1 rfl d f os
            · simp [Fl.cells] at hu; subst hu; exact cell_turned (T := fun _ => false) p2 rfl d f os
            · simp [Fl.cells] at hu; subst hu; exact cell_turned (T := fun _ => false) p3 rfl d f os
            · simp [Fl.cells] at hu) Tryz.underlying74 rfl mfile_info
          exact h1
        obtain ⟨ga, gc, hbq, hrow, hown⟩ := HGk.out.blk
        have HROW := Lib.hid hrow
        have HOWN := Lib.hid hown
        have HBq := Lib.hid hbq
        have f0 := cell_turned (T := fun _ => false) (a := ⟨b3, 6, none⟩) (v := .slice ga k gc) (by rw [cell_of_block hbq 6]; rfl) rfl
        have f1 := cell_turned (T := fun _ => false) (a := ⟨b1, 6, none⟩) (v := .slice (some ⟨fb, fo, none⟩) fn fc) (by rw [cell_of_block HBk.out 6]; rfl) rfl
        clear hp p0 p1 p2 p3 hbq hrow hown hext
        go_upto_region 5 with fail
        go_wp2_with fail
        refine wp_region_plan 8 (fun w' => ∃ z : Turned, w' = turned wr (fun _ => false) z.d z.f z.os) (.reads [0, 1, 2, 3, 4, 5, 6] (.one 7 (.one 8 (.one 9 (.one 10 .done))))) (by kernel_rfl) (by kernel_rfl) (fun _ _ dd _ _ hh => by cases dd <;> exact hh) ?_ ?_
        · exact turned_of_ext (Ext.drewN wr 1)
        refine wpPlan_reads ?_
        simp only [pickOps, List.getElem?_cons_succ, List.getElem?_cons_zero]
        iterate 6 (go_big_quiet_step (fail))
        refine wpQuiet_load_box rfl _ _ rfl _ _ rfl (fun w hw => by obtain ⟨z, rfl⟩ := hw; exact g1 z.d z.f z.os) ?_
        refine wpQuiet_nil ?_
        have HXD := Lib.hid (Ext.drewN wr 1)
        clear f0 f1 g1
        refine wpPlan_one ?_
        simp only [pickOps, List.getElem?_cons_succ, List.getElem?_cons_zero]
        go_wp2_with fail
        generalize hw2 : World.drew _ = w2
        have hx2 : Ext wr w2 := by rw [← hw2]; exact ((Ext.refl wr).alloc _).drew
        have hsrc : Src w2 4 (.slice (some ⟨wr.heap.size, 0, none⟩) 1 1) 1 (fls [p]) := src_fl (p := p) (by rw [← hw2]; exact heap_alloc_new wr _)
        have HXX := Lib.hid hx2
        have HSRC := Lib.hid hsrc
        have HBQ2 := Lib.hid (HXX.out.keep HBq.out)
        have HGF := Lib.hid (HGk.out.ext' HXX.out)
        have HTU := Lib.hid (turned_of_ext (T := fun _ => false) HXX.out)
        clear hw2 hx2 hsrc
        refine thenX_mk HTU.out (wpPlan_one ?_)
        simp only [pickOps, List.getElem?_cons_succ, List.getElem?_cons_zero]
        refine wpList_append_to (n := k) (m := 1) elem_rfile rfl _ _ rfl (v := .slice ga k gc) rfl rfl (HROW.out.ext HXX.out) HSRC.out (by unfold maxLen; omega) (by omega) ?_
        intro v3 w3 happ
        rw [HNX.out] at happ
        obtain ⟨hq3, hfin⟩ := HGF.out.add HBQ2.out HOWN.out happ
        have HFIN := Lib.hid hfin
        have d0 : w3.cell? ⟨b3, 6, none⟩ = some (.slice ga k gc) := by rw [cell_of_block hq3 6]; rfl
        have z0 := free_of_block hq3 6
        obtain ⟨a3, c3, rfl⟩ := happ.row.shape
        clear happ hq3 hfin
        go_wp2_with fail
        refine thenX_last (wpPlan_one ?_)
        simp only [pickOps, List.getElem?_cons_succ, List.getElem?_cons_zero]
        go_wp2_with fail
        refine thenX_last (wpPlan_one ?_)
        simp only [pickOps, List.getElem?_cons_succ, List.getElem?_cons_zero]
        go_wp2_with fail
        refine thenX_last (wpPlan_done ?_)
        clear d0 z0 HGF HSRC HBQ2 HTU HXX HXD
        generalize World.setCell _ _ _ = w4 at *
        go_wp2_with fail
        go_roundw
        case rel => exact ⟨k + 1, by omega, by go_num, HFIN⟩
        case measure => simp [RowKit.intOf]; omega
      · obtain rfl : k = fn := by omega
        have hFL : fl.take k = fl := List.take_of_length_le (by rw [HFN.out]; exact Nat.le_refl _)
        rw [hFL] at HGk
        go_wp2_with fail
        go_meet
        case rel => exact HGk
  case rest =>
    obtain ⟨ga, gc, hb6, hrow6, hown6⟩ := hcut.out.blk
    have HX4 : Hid (Ext w wc) := Lib.hid (((Chg.of_ext HX3.out).trans hcut.out.chg (fun _ _ e => e)).ext (fun i hi e => by have := HBN.out; omega))
    have HB14 := Lib.hid ((hcut.out.chg.block b1 (block_lt HB13.out) (by have := HBN.out; omega)).trans HB13.out)
    have HB24 := Lib.hid ((hcut.out.chg.block b2 (block_lt HB23.out) (by have := HBN.out; omega)).trans HB23.out)
    have HROW6 := Lib.hid hrow6
    have HOWN6 : Hid (∀ g, (Value.slice ga fn gc).ownBlock = some g → b3 < g) := Lib.hid (fun g hg => by have := hown6 g hg; have := hcut.out.ql; omega)
    have HG1 : Hid (GrO wc b3 47 89 7 5 #[.int .i64 x, .int .i64 r, .int .i64 q, .bool b, .int .i64 t, .int .i64 g, .slice ga fn gc, .slice none 0 0] 0 (trs []) wc) :=
      Lib.hid ⟨⟨none, 0, by simpa using hb6, Row.nil _ _ _, fun g hg => by simp [Value.ownBlock] at hg⟩, Chg.refl _ _, block_lt hb6⟩
    clear hb6 hrow6 hown6 hcut HB13 HB23 HG0 HX3
    go_upto_block 2 with fail
    go_cut [5] (fun _ wx => Hid (GrO wc b3 47 89 7 5 #[.int .i64 x, .int .i64 r, .int .i64 q, .bool b, .int .i64 t, .int .i64 g, .slice ga fn gc, .slice none 0 0] tn (trs ti) wx))
    case first =>
      go_wp2_with fail
      go_loopw [5] (fun si wr => ∃ k : Nat, k ≤ tn ∧ si = .int .i64 k ∧ Hid (GrO wc b3 47 89 7 5 #[.int .i64 x, .int .i64 r, .int .i64 q, .bool b, .int .i64 t, .int .i64 g, .slice ga fn gc, .slice none 0 0] k (trs (ti.take k)) wr)) (fun si _ => tn - (RowKit.intOf si).toNat)
      case atStart => exact ⟨0, by omega, rfl, Lib.hid (by simpa using HG1.out)⟩
      case round =>
        obtain ⟨k, hk, rfl, HGk⟩ := hrel
        have HC := Lib.hid HGk.out.chg
        have HBk := Lib.hid ((HC.out.block b1 (block_lt HB14.out) (by have := HBN.out; omega)).trans HB14.out)
        have c7 := cell_of_block HBk.out 7
        by_cases hlt : k < tn
        · have hext : Ext w wr := ((Chg.of_ext HX4.out).trans HC.out (fun _ _ e => e)).ext (fun i hi e => by have := HBN.out; omega)
          obtain ⟨fb, fo, p, rfl, hp, p0, p1, p2, p3, p4⟩ := trs_src (HS.out.ti.ext hext) hlt
          have HNX : Hid (trs (ti.take k) ++ trs [p] = trs (ti.take (k + 1))) := Lib.hid (by rw [← trs_append, List.take_add_one, (show ti[k]? = some p from hp)]; rfl)
          have g1 : ∀ (d : Nat) (f : Nat → Obj) (os : Array Obj), (Instr.loadAt 76 (.pointer (some ⟨fb, fo + k * 5, none⟩))).run Tryz.prog (turned wr (fun _ => false) d f os) = .ok p.val (turned wr (fun _ => false) d f os) := fun d f os => by
            have h1 := run_loadAt_mid (P := Tryz.prog) (turned wr (fun _ => false) d f os) fb (fo + k * 5) 76 p.cells _ (fun i u hu => by
              rcases i with _ | _ | _ | _ | _ | i
              · simp [Tr.cells] at hu; subst hu; exact cell_turned (T := fun _ => false) p0 rfl d f os
              · simp [Tr.cells] at hu; subst hu; exact cell_turned (T := fun _ => false) p1 rfl d f os
              · simp [Tr.cells] at hu; subst hu; exact cell_turned (T := fun _ => false) p2 rfl d f os
              · simp [Tr.cells] at hu; subst hu; exact cell_turned (T := fun _ => false) p3 rfl d f os
              · simp [Tr.cells] at hu; subst hu; exact cell_turned (T := fun _ => false) p4 rfl d f os
              · simp [Tr.cells] at hu) Tryz.underlying76 rfl tier_info
            exact h1
          obtain ⟨ha, hc, hbq, hrow, hown⟩ := HGk.out.blk
          have HROW := Lib.hid hrow
          have HOWN := Lib.hid hown
          have HBq := Lib.hid hbq
          have f0 := cell_turned (T := fun _ => false) (a := ⟨b3, 7, none⟩) (v := .slice ha k hc) (by rw [cell_of_block hbq 7]; rfl) rfl
          have f1 := cell_turned (T := fun _ => false) (a := ⟨b1, 7, none⟩) (v := .slice (some ⟨fb, fo, none⟩) tn tc) (by rw [cell_of_block HBk.out 7]; rfl) rfl
          clear hp p0 p1 p2 p3 p4 hbq hrow hown hext
          go_upto_region 9 with fail
          go_wp2_with fail
          refine wp_region_plan 8 (fun w' => ∃ z : Turned, w' = turned wr (fun _ => false) z.d z.f z.os) (.reads [0, 1, 2, 3, 4, 5, 6] (.one 7 (.one 8 (.one 9 (.one 10 .done))))) (by kernel_rfl) (by kernel_rfl) (fun _ _ dd _ _ hh => by cases dd <;> exact hh) ?_ ?_
          · exact turned_of_ext (Ext.drewN wr 1)
          refine wpPlan_reads ?_
          simp only [pickOps, List.getElem?_cons_succ, List.getElem?_cons_zero]
          iterate 6 (go_big_quiet_step (fail))
          refine wpQuiet_load_box rfl _ _ rfl _ _ rfl (fun w hw => by obtain ⟨z, rfl⟩ := hw; exact g1 z.d z.f z.os) ?_
          refine wpQuiet_nil ?_
          have HXD := Lib.hid (Ext.drewN wr 1)
          clear f0 f1 g1
          refine wpPlan_one ?_
          simp only [pickOps, List.getElem?_cons_succ, List.getElem?_cons_zero]
          go_wp2_with fail
          generalize hw2 : World.drew _ = w2
          have hx2 : Ext wr w2 := by rw [← hw2]; exact ((Ext.refl wr).alloc _).drew
          have hsrc : Src w2 5 (.slice (some ⟨wr.heap.size, 0, none⟩) 1 1) 1 (trs [p]) := src_tr (p := p) (by rw [← hw2]; exact heap_alloc_new wr _)
          have HXX := Lib.hid hx2
          have HSRC := Lib.hid hsrc
          have HBQ2 := Lib.hid (HXX.out.keep HBq.out)
          have HGF := Lib.hid (HGk.out.ext' HXX.out)
          have HTU := Lib.hid (turned_of_ext (T := fun _ => false) HXX.out)
          clear hw2 hx2 hsrc
          refine thenX_mk HTU.out (wpPlan_one ?_)
          simp only [pickOps, List.getElem?_cons_succ, List.getElem?_cons_zero]
          refine wpList_append_to (n := k) (m := 1) elem_rtier rfl _ _ rfl (v := .slice ha k hc) rfl rfl (HROW.out.ext HXX.out) HSRC.out (by unfold maxLen; omega) (by omega) ?_
          intro v3 w3 happ
          rw [HNX.out] at happ
          obtain ⟨hq3, hfin⟩ := HGF.out.add HBQ2.out HOWN.out happ
          have HFIN := Lib.hid hfin
          have d0 : w3.cell? ⟨b3, 7, none⟩ = some (.slice ha k hc) := by rw [cell_of_block hq3 7]; rfl
          have z0 := free_of_block hq3 7
          obtain ⟨a3, c3, rfl⟩ := happ.row.shape
          clear happ hq3 hfin
          go_wp2_with fail
          refine thenX_last (wpPlan_one ?_)
          simp only [pickOps, List.getElem?_cons_succ, List.getElem?_cons_zero]
          go_wp2_with fail
          refine thenX_last (wpPlan_one ?_)
          simp only [pickOps, List.getElem?_cons_succ, List.getElem?_cons_zero]
          go_wp2_with fail
          refine thenX_last (wpPlan_done ?_)
          clear d0 z0 HGF HSRC HBQ2 HTU HXX HXD
          generalize World.setCell _ _ _ = w4 at *
          go_wp2_with fail
          go_roundw
          case rel => exact ⟨k + 1, by omega, by go_num, HFIN⟩
          case measure => simp [RowKit.intOf]; omega
        · obtain rfl : k = tn := by omega
          have hFL : ti.take k = ti := List.take_of_length_le (by rw [HTN.out]; exact Nat.le_refl _)
          rw [hFL] at HGk
          go_wp2_with fail
          go_meet
          case rel => exact HGk
    case rest =>
      obtain ⟨ha, hc, hb7, hrow7, hown7⟩ := hcut.out.blk
      have HX5 : Hid (Ext w wc) := Lib.hid (((Chg.of_ext HX4.out).trans hcut.out.chg (fun _ _ e => e)).ext (fun i hi e => by have := HBN.out; omega))
      have HB25 := Lib.hid ((hcut.out.chg.block b2 (block_lt HB24.out) (by have := HBN.out; omega)).trans HB24.out)
      have HR6 := Lib.hid (HROW6.out.chg hcut.out.chg (fun g hg e => by have := HOWN6.out g hg; omega))
      have HR7 := Lib.hid hrow7
      have HO7 : Hid (∀ g, (Value.slice ha tn hc).ownBlock = some g → b3 < g) := Lib.hid (fun g hg => by have := hown7 g hg; have := hcut.out.ql; omega)
      have HBQ : Hid (wc.heap[b3]? = some (.cells #[.int .i64 x, .int .i64 r, .int .i64 q, .bool b, .int .i64 t, .int .i64 g, .slice ga fn gc, .slice ha tn hc] 47 (0, 0))) := Lib.hid (by simpa using hb7)
      clear hb7 hrow7 hown7 hcut HB14 HB24 HROW6 HG1 HX4
      have c0 := cell_of_block HBQ.out 0
      have c1 := cell_of_block HBQ.out 1
      have c2 := cell_of_block HBQ.out 2
      have c3 := cell_of_block HBQ.out 3
      have c4 := cell_of_block HBQ.out 4
      have c5 := cell_of_block HBQ.out 5
      have c6 := cell_of_block HBQ.out 6
      have c7 := cell_of_block HBQ.out 7
      go_wp2_with (first | (refine wpList_store_box rfl _ _ _ rfl _ _ _ _ rfl rfl HB25.out rfl rsta_info (by simp [Value.oneCell']) ?_; rintro wx hbx hcx; have HBX := Lib.hid hbx; have HCX := Lib.hid hcx; clear hbx hcx))
      refine bodyPost_ret (results_box Tryz.results12 _ _ rfl HBX.out Tryz.underlying47 rfl rsta_info) rfl ?_
      refine ⟨ga, gc, ha, hc, rfl, ((Chg.of_ext HX5.out).trans HCX.out (fun _ _ e => e)).ext (fun i hi e => by have := HBN.out; omega), ?_⟩
      exact ⟨(HR6.out.chg HCX.out (fun g' hg e => by have := HOWN6.out g' hg; have := HBN.out; omega)).src (fls_one _), (HR7.out.chg HCX.out (fun g' hg e => by have := HO7.out g' hg; have := HBN.out; omega)).src (trs_one _), HOK.out, by omega, by omega⟩
end Go.Proofs.YtgdgjnecgelalaaGreatDoor
