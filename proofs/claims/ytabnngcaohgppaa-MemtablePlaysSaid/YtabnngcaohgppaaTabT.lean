/- memtable.Table: Parts, Take. -/
import Derived.Test.YtabnngcaohgppaaTabN
import Derived.Test.YtabnngcaohgppaaTabP
import Derived.Test.YtabnngcaohgppaaPlan
namespace Go.Proofs.Ytabnngcaohgppaa
open Go.RowKit Go.Sort Go.Lib

def prs (L : List (ByteArray × Sl)) : List Value := L.flatMap fun p => [.string p.1, p.2.v]
theorem prs_len (L : List (ByteArray × Sl)) : (prs L).length = L.length * 2 := by
  induction L with
  | nil => rfl
  | cons p L ih => simp [prs] at ih ⊢; omega
theorem prs_snoc (L : List (ByteArray × Sl)) (p : ByteArray × Sl) : prs (L ++ [p]) = prs L ++ prs [p] := by simp [prs]
theorem elem_part : ElemOk Try.prog 43 46 2 40 :=
  ⟨Try.underlying43, by
    obtain ⟨i0, hi, hz0, hz1, hz2⟩ := info_parts (show (Try.prog.info? 46).map (fun i => (i.zero, i.size, i.bytes)) = some (some (.agg #[.string ByteArray.empty, .slice none 0 0]), 2, 40) from by kernel_rfl)
    exact ⟨i0, _, hi, hz0, hz1, hz2, rfl⟩, by decide⟩
theorem src_part {W : World} {b : Nat} {s : ByteArray} {x : Sl} {t : TypeId} {fr : Nat × Nat} (h : W.heap[b]? = some (.cells #[.string s, x.v] t fr)) : Src W 2 (.slice (some ⟨b, 0, none⟩) 1 1) 1 (prs [(s, x)]) := by
  refine .inr ⟨_, _, rfl, rfl, fun j u hj => ?_, fun u hu => ?_⟩
  · rw [Go.WideShapes.add_plain, Nat.zero_add, cell_of_block h]
    simpa [prs] using hj
  · simp [prs] at hu
    rcases hu with rfl | rfl <;> rfl

/-- The parts while they are gathered: 'ob' holds the slice. -/
structure PartsR (w : World) (ob : Nat) (v : Value) (L : List (ByteArray × Sl)) (wr : World) : Prop where
  blk : wr.heap[ob]? = some (.cells #[v] 43 (0, 0))
  row : Row wr 46 2 v L.length (prs L)
  ok : ∀ p ∈ L, p.2.Ok wr ∧ ∀ g, p.2.v.ownBlock = some g → w.heap.size ≤ g ∧ g ≠ ob ∧ v.ownBlock ≠ some g ∧ g < wr.heap.size
  own : ∀ g, v.ownBlock = some g → w.heap.size ≤ g ∧ g ≠ ob
  ob : w.heap.size ≤ ob
  ext : Ext w wr

theorem PartsR.ext' {w wr w1 : World} {ob : Nat} {v : Value} {L : List (ByteArray × Sl)} (h : PartsR w ob v L wr) (hx : Ext wr w1) : PartsR w ob v L w1 :=
  ⟨(hx.block (block_lt h.blk)).trans h.blk, h.row.ext hx, fun p hp => ⟨(h.ok p hp).1.ext hx, fun g hg => by obtain ⟨h1, h2, h3, h4⟩ := (h.ok p hp).2 g hg; have := hx.size; exact ⟨h1, h2, h3, by omega⟩⟩, h.own, h.ob, h.ext.trans hx⟩

theorem PartsR.add {w wr w1 w2 : World} {ob n : Nat} {v v' : Value} {L : List (ByteArray × Sl)} {s : ByteArray} {x : Sl} (h : PartsR w ob v L wr) (hx : Ext wr w1) (ha : Appended w1 46 2 v n (prs L ++ prs [(s, x)]) v' w2) (hn : n = L.length + 1)
    (hok : x.Ok w1) (hown : ∀ g, x.v.ownBlock = some g → wr.heap.size ≤ g) (hxlt : ∀ g, x.v.ownBlock = some g → g < w1.heap.size) : PartsR w ob v' (L ++ [(s, x)]) (w2.setCell ⟨ob, 0, none⟩ v') := by
  subst hn
  have hobl := block_lt h.blk
  have hsz := hx.size
  have hC := setCell_chg w2 ob 0 v'
  have hv' : ∀ g, v'.ownBlock = some g → v.ownBlock = some g ∨ w1.heap.size ≤ g := fun g hg => by
    rcases ha.loc with e | e
    · exact .inl (by rw [← e]; exact hg)
    · rw [e] at hg; simp at hg; exact .inr (by omega)
  have hv'n : ∀ g, v'.ownBlock = some g → w.heap.size ≤ g ∧ g ≠ ob := fun g hg => by
    rcases hv' g hg with e | e
    · exact h.own g e
    · have := h.ext.size; omega
  have hb2 : w2.heap[ob]? = some (.cells #[v] 43 (0, 0)) := by
    rw [ha.chg.block ob (by omega) (fun e => (h.own ob e).2 rfl), hx.block hobl]; exact h.blk
  have hS : Chg (fun b => b = ob ∨ v.ownBlock = some b) w1 (w2.setCell ⟨ob, 0, none⟩ v') := (ha.chg.mono (fun _ _ e => .inr e)).trans hC (fun _ _ e => .inl e)
  refine ⟨?_, ?_, fun p hp => ?_, hv'n, h.ob, ?_⟩
  · have := setCell_block (i := 0) hb2 v'; simpa using this
  · rw [prs_snoc, List.length_append]
    exact ha.row.chg hC (fun g hg => (hv'n g hg).2)
  · rcases List.mem_append.1 hp with hp | hp
    · obtain ⟨h1, h2⟩ := h.ok p hp
      refine ⟨⟨(h1.ext hx).1.chg hS (fun g hg e => ?_), h1.2⟩, fun g hg => ⟨(h2 g hg).1, (h2 g hg).2.1, fun e => ?_, by have := (h2 g hg).2.2.2; have := hS.size; omega⟩⟩
      · rcases e with e | e
        · exact (h2 g hg).2.1 e
        · exact (h2 g hg).2.2.1 e
      · rcases hv' g e with e | e
        · exact (h2 g hg).2.2.1 e
        · have := (h2 g hg).2.2.2; omega
    · simp at hp
      subst hp
      refine ⟨⟨hok.1.chg hS (fun g hg e => ?_), hok.2⟩, fun g hg => ?_⟩
      · have := hown g hg
        rcases e with e | e
        · omega
        · have := h.row.lt e; omega
      · have h1 := hown g hg
        have h2 := h.ext.size
        refine ⟨by omega, by omega, fun e => ?_, by have := hxlt g hg; have := hS.size; omega⟩
        rcases hv' g e with e | e
        · have := h.row.lt e; omega
        · have := hxlt g hg; omega
  · exact ((Chg.of_ext (S := fun b => b = ob ∨ v.ownBlock = some b) (h.ext.trans hx)).trans hS (fun _ _ e => e)).ext (fun i hi e => by
      rcases e with e | e
      · have := h.ob; omega
      · have := (h.own i e).1; omega)

set_option maxHeartbeats 8000000 in
set_option maxRecDepth 100000 in
theorem parts1_any {w W : World} {d mb cnt most ob tb : Nat} {T : List (ByteArray × Sl)} {v : Value} {L : List (ByteArray × Sl)} (hT : TabAt W d mb T cnt most) (hP : PartsR w ob v L W) (hL : L.length ≤ 70000) (htb : W.cell? ⟨tb, 0, none⟩ = some (.pointer (some ⟨d, 0, none⟩))) (s : ByteArray) :
    Calls Try.prog 28 #[.string s, .pointer (some ⟨ob, 0, none⟩), .pointer (some ⟨tb, 0, none⟩)] W fun e w' => e = .returned (.tuple #[]) ∧ ∃ v' x, x.l = tabPts T s ∧ PartsR w ob v' (L ++ [(s, x)]) w' ∧ Chg (fun b => b = ob ∨ v.ownBlock = some b) W w' ∧ ∀ g, v'.ownBlock = some g → v.ownBlock = some g ∨ W.heap.size ≤ g := by
  obtain ⟨hok, hdrop, hdrop2, hn⟩ := hT.at s
  have hcap := hT.cap
  have hle := hT.le
  have d0 : W.cell? ⟨d, 0, none⟩ = some (.map (some mb)) := by have := cell_of_block hT.blk 0; simpa using this
  have o0 : W.cell? ⟨ob, 0, none⟩ = some v := by have := cell_of_block hP.blk 0; simpa using this
  have hlk := fun dd f os => (hT.ext ((Chg.ext (chg_turned W (fun _ => false) dd f os) (fun _ _ e => by cases e)) : Ext W (turned W (fun _ => false) dd f os))).look s
  have f0 := cell_turned (T := fun _ => false) d0 rfl
  have f1 := cell_turned (T := fun _ => false) o0 rfl
  have f2 := cell_turned (T := fun _ => false) htb rfl
  unfold tabPts
  obtain ⟨y, hy⟩ : ∃ y, y = tabSl T s := ⟨_, rfl⟩
  rw [← hy] at hok hn hlk ⊢
  obtain ⟨oa, oc, rfl⟩ := hP.row.shape
  have HO := Lib.hid hok
  have HP := Lib.hid hP
  clear hdrop hdrop2 d0 o0 htb hT hP hok hy
  go_enter Try.func28, Try.ntmps28
  go_wp2_with fail
  refine wp_region_plan 12 (fun w' => ∃ p : Turned, w' = turned W (fun _ => false) p.d p.f p.os) (.reads [0, 1, 3, 4, 5, 6, 7, 8] (.one 2 (.one 9 (.reads [10] (.one 11 (.one 12 (.one 13 .done))))))) (by kernel_rfl) (by kernel_rfl) (fun _ _ dd _ _ hh => by cases dd <;> exact hh) ?_ ?_
  · exact turned_of_ext (Ext.drewN W 1)
  refine wpPlan_reads ?_
  simp only [pickOps, List.getElem?_cons_succ, List.getElem?_cons_zero]
  repeat (go_big_quiet_step (fail))
  refine wpQuiet_nil ?_
  refine wpPlan_one ?_
  simp only [pickOps, List.getElem?_cons_succ, List.getElem?_cons_zero]
  clear f0 f1 f2 hlk
  go_wp2_with fail
  refine thenX_mk (turned_of_ext (((Ext.refl W).alloc _).drew)) (wpPlan_one ?_)
  simp only [pickOps, List.getElem?_cons_succ, List.getElem?_cons_zero]
  refine wpList_append_to (n := 0) (m := y.n) elem_pt rfl _ _ rfl (v := .slice _ _ _) rfl rfl (row_made (W := (W.alloc (.cells #[] 33 (0, 0))).drew) (heap_alloc_new W _) 3) (HO.out.1.ext (((Ext.refl W).alloc _).drew)) (by unfold maxLen; omega) (by omega) ?_
  intro v3 w3 happ
  rw [Nat.zero_add, List.nil_append] at happ
  have hx3 : Ext W w3 := Chg.ext ((Chg.of_ext (((Ext.refl W).alloc _).drew)).trans happ.chg (fun _ _ h => h)) (fun i hi e => by simp [Value.ownBlock] at e; omega)
  have ho3 : ∀ g, v3.ownBlock = some g → W.heap.size ≤ g := fun g hg => by
    rcases happ.loc with e | e
    · rw [e] at hg; simp [Value.ownBlock] at hg; omega
    · rw [e] at hg; simp at hg; omega
  have hrow3 := happ.row
  obtain ⟨a3, c3, rfl⟩ := happ.row.shape
  have HX3 := Lib.hid hx3
  have HO3 := Lib.hid ho3
  have HLT3 := Lib.hid (fun g hg => hrow3.lt (g := g) hg)
  have HOK3 : Hid ((Sl.mk a3 y.n c3 y.l).Ok w3) := Lib.hid ⟨hrow3.src (pts_one _), row_cap hrow3⟩
  clear happ hx3 ho3 hrow3
  go_wp2_with fail
  refine thenX_mk (turned_of_ext HX3.out) (wpPlan_reads ?_)
  simp only [pickOps, List.getElem?_cons_succ, List.getElem?_cons_zero]
  repeat (go_big_quiet_step (fail))
  refine wpQuiet_nil ?_
  refine wpPlan_one ?_
  simp only [pickOps, List.getElem?_cons_succ, List.getElem?_cons_zero]
  go_wp2_with fail
  refine thenX_mk (turned_of_ext (HX3.out.alloc _)) (wpPlan_one ?_)
  simp only [pickOps, List.getElem?_cons_succ, List.getElem?_cons_zero]
  refine wpList_append_to (n := L.length) (m := 1) elem_part rfl _ _ rfl (v := .slice _ _ _) rfl rfl (HP.out.row.ext (HX3.out.alloc _)) (src_part (s := s) (x := ⟨a3, y.n, c3, y.l⟩) (heap_alloc_new w3 _)) (by unfold maxLen; omega) (by omega) ?_
  intro v4 w4 happ
  have K := Lib.hid (HP.out.add (HX3.out.alloc _) happ rfl (HOK3.out.ext ((Ext.refl _).alloc _)) HO3.out (fun g hg => by have h1 := HLT3.out g hg; have h2 := ((Ext.refl w3).alloc (.cells #[.string s, .slice a3 y.n c3] 46 (0, 0))).size; omega))
  have HCH : Hid (Chg (fun b => b = ob ∨ (Value.slice oa L.length oc).ownBlock = some b) W (w4.setCell ⟨ob, 0, none⟩ v4)) := Lib.hid (((Chg.of_ext (HX3.out.alloc _)).trans happ.chg (fun _ _ e => .inr e)).trans (setCell_chg _ _ _ _) (fun _ _ e => .inl e))
  have hb4 : w4.heap[ob]? = some (.cells #[.slice oa L.length oc] 43 (0, 0)) := by
    have hl := block_lt HP.out.blk
    have hs := (HX3.out.alloc (.cells #[.string s, .slice a3 y.n c3] 46 (0, 0))).size
    rw [happ.chg.block ob (by simp at hs ⊢; omega) (fun e => (HP.out.own ob e).2 rfl), (HX3.out.alloc _).block hl]
    exact HP.out.blk
  have g0 : w4.cell? ⟨ob, 0, none⟩ = some (.slice oa L.length oc) := by have := cell_of_block hb4 0; simpa using this
  have g1 : w4.frozen? ⟨ob, 0, none⟩ = false := free_of_block hb4 0
  have HLOC : Hid (∀ g, v4.ownBlock = some g → (Value.slice oa L.length oc).ownBlock = some g ∨ W.heap.size ≤ g) := Lib.hid (fun g hg => by
    rcases happ.loc with e | e
    · exact .inl (by rw [← e]; exact hg)
    · have hs := (HX3.out.alloc (.cells #[.string s, .slice a3 y.n c3] 46 (0, 0))).size
      rw [e] at hg; simp at hg hs; exact .inr (by omega))
  obtain ⟨a4, c4, rfl⟩ := happ.row.shape
  clear happ hb4
  go_wp2_with fail
  refine thenX_last (wpPlan_one ?_)
  simp only [pickOps, List.getElem?_cons_succ, List.getElem?_cons_zero]
  go_wp2_with fail
  refine thenX_last (wpPlan_done ?_)
  go_wp2_with fail
  go_end0
  exact ⟨rfl, _, ⟨a3, y.n, c3, y.l⟩, rfl, K.out, HCH.out, HLOC.out⟩

/-- All parts. -/
structure PartsTo (w : World) (T : List (ByteArray × Sl)) (v : Value) (L : List (ByteArray × Sl)) (w' : World) : Prop where
  row : Row w' 46 2 v L.length (prs L)
  names : L.map (·.1) = tabNames T
  pts : ∀ p ∈ L, p.2.l = tabPts T p.1
  ok : ∀ p ∈ L, p.2.Ok w'
  own : ∀ g, v.ownBlock = some g → w.heap.size ≤ g
  owns : ∀ p ∈ L, ∀ g, p.2.v.ownBlock = some g → w.heap.size ≤ g
  ext : Ext w w'

set_option maxHeartbeats 8000000 in
set_option maxRecDepth 100000 in
theorem tab_parts {w : World} {d mb : Nat} {T : List (ByteArray × Sl)} {cnt most : Nat} (h : TabAt w d mb T cnt most) (hT : T.length ≤ 69999) :
    Calls Try.prog 14 #[.pointer (some ⟨d, 0, none⟩)] w fun e w' => ∃ v L, e = .returned v ∧ PartsTo w T v L w' := by
  have H := Lib.hid h
  clear h
  go_enter Try.func14, Try.ntmps14
  go_wp2_with fail
  generalize hW : World.alloc _ _ = W
  have HXW : Hid (Ext w W) := Lib.hid (by subst hW; exact ((Ext.refl w).alloc _).alloc _)
  have BT : Hid (W.heap[w.heap.size]? = some (.cells #[.pointer (some ⟨d, 0, none⟩)] 23 (0, 0))) := Lib.hid (by subst hW; rw [heap_alloc_old _ _ (by simp)]; exact heap_alloc_new w _)
  have BO : Hid (W.heap[w.heap.size + 1]? = some (.cells #[.slice none 0 0] 43 (0, 0))) := Lib.hid (by subst hW; exact heap_alloc2 w _ _)
  clear hW
  refine (tab_names (H.out.ext HXW.out) (by omega)).mono ?_
  rintro e w3 ⟨v3, rfl, hto⟩
  have HX3 : Hid (Ext w w3) := Lib.hid (HXW.out.trans hto.ext)
  have BT3 : Hid (w3.cell? ⟨w.heap.size, 0, none⟩ = some (.pointer (some ⟨d, 0, none⟩))) := Lib.hid (by
    rw [hto.ext.cell (p := ⟨w.heap.size, 0, none⟩) (block_lt BT.out)]
    have := cell_of_block BT.out 0; simpa using this)
  have P3 : Hid (PartsR w (w.heap.size + 1) (.slice none 0 0) [] w3) := Lib.hid ⟨(hto.ext.block (block_lt BO.out)).trans BO.out, Row.nil _ _ _, by simp, fun g hg => by simp [Value.ownBlock] at hg, by omega, HX3.out⟩
  have HNO : Hid (∀ g, v3.ownBlock = some g → g ≠ w.heap.size + 1) := Lib.hid (fun g hg e => by have h1 := hto.own g hg; have h2 := block_lt BO.out; omega)
  obtain ⟨m, hm⟩ : ∃ m, m = (tabNames T).length := ⟨_, rfl⟩
  have hml : m ≤ 69999 := by rw [hm, tabNames, sortS_length, List.length_map]; exact hT
  have HS3 : Hid (Row w3 9 1 v3 m (strs (tabNames T))) := Lib.hid (by rw [hm]; exact hto.row)
  obtain ⟨a3, c3, rfl⟩ := HS3.out.shape
  have HM := Lib.hid hm
  have HB3 : Hid (w.heap.size + 1 < w3.heap.size ∧ w.heap.size < w3.heap.size) := Lib.hid (by have := block_lt BO.out; have := hto.ext.size; omega)
  clear hto hm BT BO HXW
  obtain ⟨ob, hob⟩ : ∃ ob, ob = w.heap.size + 1 := ⟨_, rfl⟩
  obtain ⟨tb, htb⟩ : ∃ tb, tb = w.heap.size := ⟨_, rfl⟩
  have HOB := Lib.hid hob
  have HTB := Lib.hid htb
  rw [← hob] at P3 HNO HB3 ⊢
  rw [← htb] at BT3 HB3 ⊢
  clear hob htb
  go_wp2_with fail
  go_loopw [11] (fun i wr => ∃ k : Nat, k ≤ m ∧ i = .int .i64 k ∧ ∃ v L, Hid (PartsR w ob v L wr) ∧ Hid (L.map (·.1) = (tabNames T).take k ∧ (∀ p ∈ L, p.2.l = tabPts T p.1) ∧ Chg (· = ob) w3 wr ∧ ∀ g, v.ownBlock = some g → w3.heap.size ≤ g)) (fun i _ => m - (RowKit.intOf i).toNat)
  case atStart => exact ⟨0, by omega, rfl, _, [], P3, Lib.hid ⟨by simp, by simp, Chg.refl _ _, fun g hg => by simp [Value.ownBlock] at hg⟩⟩
  case round =>
    clear P3
    obtain ⟨k, hk, rfl, v, L, HP, HI⟩ := hrel
    have hLl : L.length ≤ 70000 := by
      have := congrArg List.length HI.out.1
      simp at this; omega
    by_cases hlt : k < m
    · obtain ⟨b5, o5, s, rfl, hs, c5⟩ := strs_src ((HS3.out.chg HI.out.2.2.1 (fun g hg e => HNO.out g hg e)).strs_src) hlt
      have HSS := Lib.hid hs
      clear hs
      go_wp2_with fail
      refine (parts1_any (H.out.ext HP.out.ext) HP.out hLl ((HI.out.2.2.1.cell (p := ⟨tb, 0, none⟩) HB3.out.2 (by have h1 := HOB.out; have h2 := HTB.out; show tb ≠ ob; omega)).trans BT3.out) s).mono ?_
      rintro e w5 ⟨rfl, v', x, hx, hp, hch, hloc⟩
      have HP5 := Lib.hid hp
      have HI5 : Hid ((L ++ [(s, x)]).map (·.1) = (tabNames T).take (k + 1) ∧ (∀ p ∈ L ++ [(s, x)], p.2.l = tabPts T p.1) ∧ Chg (· = ob) w3 w5 ∧ ∀ g, v'.ownBlock = some g → w3.heap.size ≤ g) := Lib.hid ⟨by
          rw [List.map_append, HI.out.1, List.take_add_one, HSS.out]; rfl, fun p hp => by
          rcases List.mem_append.1 hp with hp | hp
          · exact HI.out.2.1 p hp
          · simp at hp; subst hp; exact hx,
          HI.out.2.2.1.trans hch (fun i hi e => by
            rcases e with e | e
            · exact e
            · have := HI.out.2.2.2 i e; omega), fun g hg => by
          rcases hloc g hg with e | e
          · exact HI.out.2.2.2 g e
          · have := HI.out.2.2.1.size; omega⟩
      clear hx hp hch hloc
      go_wp2_with fail
      go_roundw
      case rel => exact ⟨k + 1, by omega, by go_num, v', _, HP5, HI5⟩
      case measure => simp [RowKit.intOf]; omega
    · have o0 : wr.cell? ⟨ob, 0, none⟩ = some v := by have := cell_of_block HP.out.blk 0; simpa using this
      go_wp2_with fail
      go_ret
      have hkm : k = (tabNames T).length := by have := HM.out; omega
      exact ⟨v, L, rfl, HP.out.row, by rw [HI.out.1, hkm, List.take_length], HI.out.2.1, fun p hp => (HP.out.ok p hp).1, fun g hg => (HP.out.own g hg).1, fun p hp g hg => ((HP.out.ok p hp).2 g hg).1, HP.out.ext⟩
end Go.Proofs.Ytabnngcaohgppaa
