/- manifest.Read: the walk. -/
import Derived.Test.YtgdgjnecgelalaaGreatDoorMpb
namespace Go.Proofs.YtgdgjnecgelalaaGreatDoor
open Go.RowKit Go.Sort Go.Lib

theorem StaPost.none {w w' : World} {e : Ending} (h : e = .returned (.tuple #[.agg (staC staZ .none 0 0 .none 0 0), .int .i64 24])) (hx : Ext w w') : StaPost w .none e w' :=
  ⟨_, _, _, _, _, _, h, hx, ⟨.inl ⟨rfl, rfl, rfl⟩, .inl ⟨rfl, rfl, rfl⟩, ⟨by decide, by decide, by decide, by decide⟩, by decide, by decide⟩⟩
theorem openR_len (l : List UInt8) : (openR l).2.1.length ≤ l.length := by
  unfold openR
  repeat (split; · simp)
  simp only [List.length_take, List.length_drop]
  omega
theorem manyF_len (k : Nat) (s : List Fl × Rd) : (loopR flStp k s).1.length ≤ s.1.length + k := by
  induction k with
  | zero => exact Nat.le_refl _
  | succ k ih =>
    show (if _ then _ else _ : List Fl × Rd).1.length ≤ _
    split
    · omega
    · simp [flStp]; omega

set_option maxHeartbeats 16000000 in
set_option maxRecDepth 100000 in
theorem manRead_any (w : World) (a : Option Addr) (n c : Nat) (l : List UInt8) (hl : SlB w a n c l) (hn : n ≤ 1099511627776) (hg : HasET w) :
    Calls Tryz.prog 37 #[.slice a n c] w (StaPost w (staRd l)) := by
  have HL := Lib.hid hl
  have HG := Lib.hid hg
  have HR : Hid (staRd l = if (openR l).2.2 ≠ 0 ∨ (openR l).1 ≠ 7 then none else staOk (staFrom ⟨(openR l).2.1, false⟩)) := Lib.hid rfl
  clear hl hg
  go_enter Tryz.func37, Tryz.ntmps37
  go_upto_region 1 with fail
  obtain ⟨g, hg⟩ : ∃ g, g = w.heap.size := ⟨_, rfl⟩
  rw [← hg]
  generalize hW : w.alloc _ = wa
  have hxa : Ext w wa := by rw [← hW]; exact (Ext.refl w).alloc _
  have HB0 : Hid (wa.heap[g]? = some (.cells #[.int .i64 0, .int .i64 0, .int .i64 0, .bool false, .int .i64 0, .int .i64 0, .slice none 0 0, .slice none 0 0] 40 (0, 0))) := Lib.hid (by rw [← hW, hg]; exact heap_alloc_new w _)
  have HXA := Lib.hid hxa
  have HGW := Lib.hid hg
  clear hW hg hxa
  go_wp2_with fail
  refine (open_any wa a n c l (HL.out.src.ext HXA.out) HL.out.le hn).mono ?_
  rintro e w1 ⟨a1, c1, rfl, hm⟩
  have HB1 := Lib.hid (hm.ext.keep HB0.out)
  have HX1 := Lib.hid (HXA.out.trans hm.ext)
  have HM := Lib.hid hm
  clear hm HB0 HXA
  obtain ⟨⟨k, b, x⟩, ho⟩ : ∃ o, o = openR l := ⟨_, rfl⟩
  rw [← ho] at HM HR ⊢
  have HO := Lib.hid ho
  simp only at HR HM
  clear ho
  by_cases hx0 : x = 0
  · subst hx0
    by_cases hk : k = 7
    · subst hk
      have HR2 : Hid (staRd l = staOk (staFrom ⟨b, false⟩)) := Lib.hid (by rw [HR.out]; simp)
      clear HR
      go_upto_region 5 with fail
      obtain ⟨p, hp⟩ : ∃ p, p = w1.heap.size := ⟨_, rfl⟩
      obtain ⟨rp, hrp⟩ : ∃ p, p = w1.heap.size + 1 := ⟨_, rfl⟩
      rw [← hrp, ← hp]
      generalize hW : (w1.alloc _).alloc _ = w5
      have hx5 : Ext w1 w5 := by rw [← hW]; exact ((Ext.refl w1).alloc _).alloc _
      have hsz : w5.heap.size = p + 2 := by rw [← hW, hp]; simp
      have hbp : w5.heap[p]? = some (.cells #[.slice a1 b.length c1, .bool false] 122 (0, 0)) := by
        rw [← hW, hp, heap_alloc_old _ _ (by simp)]
        exact heap_alloc_new w1 _
      have hbr : w5.heap[rp]? = some (.cells #[.pointer (some ⟨p, 0, none⟩)] 120 (0, 0)) := by rw [← hW, hrp, hp]; exact heap_alloc2 w1 _ _
      have hRD : RdAt 122 w1 p ⟨b, false⟩ w5 := ⟨⟨_, _, _, hbp, ⟨HM.out.row.src (u8s_one _), bufRow_le HM.out.row, by
        have := openR_len l
        rw [← HO.out] at this
        simp only at this
        have := HL.out.len
        omega⟩⟩, by omega, hx5, HG.out.ext HX1.out⟩
      have HRD := Lib.hid hRD
      have HP : Hid (p = w1.heap.size ∧ rp = p + 1 ∧ w5.heap.size = p + 2 ∧ w.heap.size ≤ g ∧ g < p) := Lib.hid (by have h1 := block_lt HB1.out; have h2 := HGW.out; refine ⟨hp, ?_, hsz, ?_, ?_⟩ <;> omega)
      have HBR := Lib.hid hbr
      have HB5 := Lib.hid (hx5.keep HB1.out)
      have HX5 := Lib.hid (HX1.out.trans hx5)
      have hRH : RH w5 w1 p 122 40 ⟨b, false⟩ none w5 := ⟨hRD, Chg.refl _ _, fun q e => by simp at e, by omega⟩
      have HH := Lib.hid hRH
      have r0 := cell_turned (T := fun k => k == p) (a := ⟨rp, 0, none⟩) (v := .pointer (some ⟨p, 0, none⟩)) (by rw [cell_of_block hbr 0]; rfl) (by have := HP.out; simp; omega)
      clear hW hp hrp hx5 hsz hbp hbr hRD hRH HB1 HM HX1 HO HGW HL
      go_cut [8] (fun s8 wx => ∃ q, s8 = .pointer (some ⟨q, 0, none⟩) ∧ Hid (w5.heap.size ≤ q ∧ RdAt 122 w1 p (rdMark (rdNum (rdNum (rdNum ⟨b, false⟩).2).2).2).2 wx ∧ Chg (· = p) w5 wx ∧
        wx.heap[q]? = some (.cells (staC ⟨(rdNum ⟨b, false⟩).1, (rdNum (rdNum ⟨b, false⟩).2).1, (rdNum (rdNum (rdNum ⟨b, false⟩).2).2).1, (rdMark (rdNum (rdNum (rdNum ⟨b, false⟩).2).2).2).1, [], []⟩ none 0 0 none 0 0) 40 (0, 0))))
      case first =>
        refine wp_region_plan 7 (fun w' => ∃ z : Turned, w' = turned w5 (fun k => k == p) z.d z.f z.os) (.reads [0, 2, 4, 6] (.two 1 (.two 3 (.two 5 (.two 7 (.two 8 (.one 9 (.one 10 .done)) 9 (.one 8 (.one 10 .done))) 9 (.one 7 (.one 8 (.one 10 .done)))) 9 (.one 5 (.one 7 (.one 8 (.one 10 .done))))) 9 (.one 3 (.one 5 (.one 7 (.one 8 (.one 10 .done)))))) 9 (.one 1 (.one 3 (.one 5 (.one 7 (.one 8 (.one 10 .done)))))))) (by kernel_rfl) (by kernel_rfl) (fun _ _ dd _ _ hh => by cases dd <;> exact hh) ?_ ?_
        · exact turned_of_ext (Ext.drewN w5 1)
        refine wpPlan_reads ?_
        simp only [pickOps, List.getElem?_cons_succ, List.getElem?_cons_zero]
        repeat (go_big_quiet_step (fail))
        refine wpQuiet_nil ?_
        clear r0
        replace HH := Lib.hid (HH.out.read (HH.out.rd.ext' (Ext.drewN w5 1)) (Chg.of_ext (Ext.drewN w5 1)))
        change wpPlan _ _ _ _ _ _ _ _ (w5.drewN 1)
        generalize w5.drewN 1 = wn at *
        clear HRD HBR HB5 HX5 HG HR2 hn
        iterate 6 (all_goals (first | refine wpPlan_two ?_ ?_ | refine wpPlan_one ?_); all_goals (
            simp only [pickOps, List.getElem?_cons_succ, List.getElem?_cons_zero]
            go_wp2_with fail
            first
            | (refine (rdNum_any w1 _ p _ HH.out.rd).mono ?_; rintro e wn ⟨rfl, hr, hc⟩; replace HH := Lib.hid (HH.out.read hr hc); clear hr hc; go_wp2_with fail; refine thenX_mk HH.out.turned ?_)
            | (refine (rdMark_any w1 _ p _ HH.out.rd).mono ?_; rintro e wn ⟨rfl, hr, hc⟩; replace HH := Lib.hid (HH.out.read hr hc); clear hr hc; go_wp2_with fail; refine thenX_mk HH.out.turned ?_)
            | (refine thenX_mk HH.out.turned ?_)
            | (refine thenX_mk HH.out.alloc.turned ?_; replace HH := Lib.hid HH.out.alloc; obtain ⟨q, hq⟩ : ∃ q, q = wn.heap.size := ⟨_, rfl⟩; rw [← hq] at HH ⊢; clear hq; generalize wn.alloc _ = wn at *)))
        all_goals
          refine wpPlan_one ?_
          simp only [pickOps, List.getElem?_cons_succ, List.getElem?_cons_zero]
          go_wp2_with (first | (refine wpList_store_box rfl _ _ _ rfl _ _ _ _ rfl rfl (HH.out.box _ rfl).2 rfl sta_info (by simp [Value.oneCell']) ?_; rintro wx hbx hcx))
          refine thenX_last (wpPlan_done ?_)
          go_wp2_with fail
          go_meet
          case rel => exact ⟨_, rfl, Lib.hid ⟨(HH.out.box _ rfl).1, HH.out.rd.chg hcx (fun e => by have := (HH.out.box _ rfl).1; have := HH.out.lt; omega) (fun i hi => by have := (HH.out.box _ rfl).1; have := HP.out; omega), HH.out.chg.trans hcx (fun i hi e => by have := (HH.out.box _ rfl).1; omega), hbx⟩⟩
      case rest =>
        obtain ⟨q, rfl, hq⟩ := hcut
        have HKM : Hid ((rdMark (rdNum (rdNum (rdNum ⟨b, false⟩).2).2).2).1.ok) := Lib.hid (markR_ok _)
        have HST : Hid (staRd l = staOk (staTail (rdNum ⟨b, false⟩).1 (rdNum (rdNum ⟨b, false⟩).2).1 (rdNum (rdNum (rdNum ⟨b, false⟩).2).2).1 (rdMark (rdNum (rdNum (rdNum ⟨b, false⟩).2).2).2).1 (rdMark (rdNum (rdNum (rdNum ⟨b, false⟩).2).2).2).2)) := Lib.hid HR2.out
        clear HR2
        generalize (rdMark (rdNum (rdNum (rdNum ⟨b, false⟩).2).2).2).2 = r4 at *
        generalize (rdMark (rdNum (rdNum (rdNum ⟨b, false⟩).2).2).2).1 = km at *
        generalize (rdNum (rdNum (rdNum ⟨b, false⟩).2).2).1 = z at *
        generalize (rdNum (rdNum ⟨b, false⟩).2).1 = y at *
        generalize (rdNum ⟨b, false⟩).1 = x at *
        obtain ⟨hq1, hq2, hq3, hq4⟩ := hq.out
        clear r0 HH HRD hq
        have hcr : wc.cell? ⟨rp, 0, none⟩ = some (.pointer (some ⟨p, 0, none⟩)) := by
          rw [hq3.cell (p := ⟨rp, 0, none⟩) (by have := HP.out; show rp < _; omega) (by have := HP.out; show ¬ rp = p; omega), cell_of_block HBR.out 0]
          rfl
        have HCR := Lib.hid hcr
        have HQP : Hid (p < q ∧ rp < q ∧ p ≠ rp ∧ g < p ∧ w.heap.size ≤ g ∧ w1.heap.size ≤ p) := Lib.hid (by have := HP.out; omega)
        have HC6 : Hid (Chg (fun k => w.heap.size ≤ k) w wc) := Lib.hid ((Chg.of_ext HX5.out).trans hq3 (fun i hi e => by have := HQP.out; omega))
        have HB6 := Lib.hid ((hq3.block g (block_lt HB5.out) (by have := HQP.out; omega)).trans HB5.out)
        have hG0 : StG wc w1 q p 122 40 74 6 4 #[.int .i64 x, .int .i64 y, .int .i64 z, .bool km.s, .int .i64 km.t, .int .i64 km.g, .slice none 0 0, .slice none 0 0] 0 (fls []) r4 wc :=
          ⟨⟨none, 0, by simpa using hq4, Row.nil _ _ _, fun g hg => by simp [Value.ownBlock] at hg⟩, hq2, Chg.refl _ _, block_lt hq4, by have := block_lt hq4; have := HQP.out; omega, by have := HQP.out; omega, by have := HQP.out; omega⟩
        have HG0 := Lib.hid hG0
        clear hq1 hq2 hq3 hq4 hcr HX5 HB5 HBR hG0
        have hcfF : ∀ W, (callFunc 68 #[.pointer (some ⟨q, 0, none⟩), .pointer (some ⟨rp, 0, none⟩)]).run Tryz.prog W = .ok (.enter 68 #[.pointer (some ⟨q, 0, none⟩), .pointer (some ⟨rp, 0, none⟩)]) W := fun _ => rfl
        have hcfT : ∀ W, (callFunc 70 #[.pointer (some ⟨q, 0, none⟩), .pointer (some ⟨rp, 0, none⟩)]).run Tryz.prog W = .ok (.enter 70 #[.pointer (some ⟨q, 0, none⟩), .pointer (some ⟨rp, 0, none⟩)]) W := fun _ => rfl
        have HCFF := Lib.hid hcfF
        have HCFT := Lib.hid hcfT
        clear hcfF hcfT
        have HM1 := Lib.hid (many_any flStp 512 68 #[.pointer (some ⟨q, 0, none⟩), .pointer (some ⟨rp, 0, none⟩)] HCFF.out w1 p rp (by decide)
          (fun k s W => s.1.length ≤ k ∧ StG wc w1 q p 122 40 74 6 4 #[.int .i64 x, .int .i64 y, .int .i64 z, .bool km.s, .int .i64 km.t, .int .i64 km.g, .slice none 0 0, .slice none 0 0] s.1.length (fls s.1) s.2 W)
          (fun k s W h => ⟨h.2.rd, (h.2.chg.cell (p := ⟨rp, 0, none⟩) (World.block_lt_of_cell? _ _ HCR.out) (by have := HQP.out; show ¬ (rp = p ∨ rp = q); omega)).trans HCR.out⟩)
          (fun k s r' W W' h hr hc => ⟨h.1, h.2.read hr hc⟩)
          (fun k s W hk h => (readF_any wc w1 W q p rp s.1.length _ _ _ _ _ _ _ _ s.1 s.2 (by have := h.1; omega) h.2 ((h.2.chg.cell (p := ⟨rp, 0, none⟩) (World.block_lt_of_cell? _ _ HCR.out) (by have := HQP.out; show ¬ (rp = p ∨ rp = q); omega)).trans HCR.out)).mono
            (fun e W' he => ⟨he.1, by simp [flStp]; exact h.1, by have := he.2; simpa [flStp] using this⟩))
          ([], r4) wc ⟨Nat.le_refl _, HG0.out⟩)
        go_wp2_with fail
        refine HM1.out.mono ?_
        rintro e w7 ⟨rfl, k, hk, hlen, hG⟩
        clear HM1
        have HS1 : Hid (staRd l = staOk (⟨x, y, z, km, (manyR flStp 512 ([], r4)).1, (manyR trStp 4 ([], (manyR flStp 512 ([], r4)).2)).1⟩, (manyR trStp 4 ([], (manyR flStp 512 ([], r4)).2)).2)) := Lib.hid HST.out
        clear HST
        generalize (manyR flStp 512 ([], r4)).2 = r5 at *
        generalize (manyR flStp 512 ([], r4)).1 = L at *
        obtain ⟨fa, fc, hb7, hrow7, hown7⟩ := hG.blk
        have HC7 := Lib.hid (HC6.out.trans hG.chg (fun i hi e => by have := HQP.out; omega))
        have HB7 := Lib.hid ((hG.chg.block g (block_lt HB6.out) (by have := HQP.out; omega)).trans HB6.out)
        have HCR7 := Lib.hid ((hG.chg.cell (p := ⟨rp, 0, none⟩) (World.block_lt_of_cell? _ _ HCR.out) (by have := HQP.out; show ¬ (rp = p ∨ rp = q); omega)).trans HCR.out)
        have HROW7 := Lib.hid hrow7
        have HOWN7 : Hid (∀ g, (Value.slice fa L.length fc).ownBlock = some g → q < g) := Lib.hid (fun g hg => by have := hown7 g hg; have := hG.ql; omega)
        have HL512 : Hid (L.length ≤ 512) := Lib.hid (by omega)
        have hG2 : StG w7 w1 q p 122 40 76 7 5 #[.int .i64 x, .int .i64 y, .int .i64 z, .bool km.s, .int .i64 km.t, .int .i64 km.g, .slice fa L.length fc, .slice none 0 0] 0 (trs []) r5 w7 :=
          ⟨⟨none, 0, by simpa using hb7, Row.nil _ _ _, fun g hg => by simp [Value.ownBlock] at hg⟩, hG.rd, Chg.refl _ _, block_lt hb7, by have := block_lt hb7; have := HQP.out; omega, by have := HQP.out; omega, by have := HQP.out; omega⟩
        have HG2 := Lib.hid hG2
        clear hG hb7 hrow7 hown7 hG2 hlen HG0 HCR HC6 HB6
        have HM2 := Lib.hid (many_any trStp 4 70 #[.pointer (some ⟨q, 0, none⟩), .pointer (some ⟨rp, 0, none⟩)] HCFT.out w1 p rp (by decide)
          (fun k s W => s.1.length ≤ k ∧ StG w7 w1 q p 122 40 76 7 5 #[.int .i64 x, .int .i64 y, .int .i64 z, .bool km.s, .int .i64 km.t, .int .i64 km.g, .slice fa L.length fc, .slice none 0 0] s.1.length (trs s.1) s.2 W)
          (fun k s W h => ⟨h.2.rd, (h.2.chg.cell (p := ⟨rp, 0, none⟩) (World.block_lt_of_cell? _ _ HCR7.out) (by have := HQP.out; show ¬ (rp = p ∨ rp = q); omega)).trans HCR7.out⟩)
          (fun k s r' W W' h hr hc => ⟨h.1, h.2.read hr hc⟩)
          (fun k s W hk h => (readT_any w7 w1 W q p rp s.1.length _ _ _ _ _ _ _ _ s.1 s.2 (by have := h.1; omega) h.2 ((h.2.chg.cell (p := ⟨rp, 0, none⟩) (World.block_lt_of_cell? _ _ HCR7.out) (by have := HQP.out; show ¬ (rp = p ∨ rp = q); omega)).trans HCR7.out)).mono
            (fun e W' he => ⟨he.1, by simp [trStp]; exact h.1, by have := he.2; simpa [trStp] using this⟩))
          ([], r5) w7 ⟨Nat.le_refl _, HG2.out⟩)
        go_wp2_with fail
        refine HM2.out.mono ?_
        rintro e w8 ⟨rfl, k2, hk2, hlen2, hG⟩
        clear HM2 HG2
        have HS2 : Hid (staRd l = staOk (⟨x, y, z, km, L, (manyR trStp 4 ([], r5)).1⟩, (manyR trStp 4 ([], r5)).2)) := Lib.hid HS1.out
        clear HS1
        generalize (manyR trStp 4 ([], r5)).2 = r6 at *
        generalize (manyR trStp 4 ([], r5)).1 = T at *
        obtain ⟨ta, tc, hb8, hrow8, hown8⟩ := hG.blk
        have HC8 := Lib.hid (HC7.out.trans hG.chg (fun i hi e => by have := HQP.out; omega))
        have HB8 := Lib.hid ((hG.chg.block g (block_lt HB7.out) (by have := HQP.out; omega)).trans HB7.out)
        have HCR8 := Lib.hid ((hG.chg.cell (p := ⟨rp, 0, none⟩) (World.block_lt_of_cell? _ _ HCR7.out) (by have := HQP.out; show ¬ (rp = p ∨ rp = q); omega)).trans HCR7.out)
        have HIN : Hid (StIn w8 ⟨x, y, z, km, L, T⟩ fa L.length fc ta T.length tc) := Lib.hid ⟨(HROW7.out.chg hG.chg (fun g hg e => by have := HOWN7.out g hg; have := HQP.out; omega)).src (fls_one _), hrow8.src (trs_one _), HKM.out, by have := HL512.out; omega, by omega⟩
        have HBQ : Hid (w8.heap[q]? = some (.cells (staC ⟨x, y, z, km, L, T⟩ fa L.length fc ta T.length tc) 40 (0, 0))) := Lib.hid (by simpa using hb8)
        have hrf := HROW7.out.chg hG.chg (fun g hg e => by have := HOWN7.out g hg; have := HQP.out; omega)
        have HRF := Lib.hid hrf
        have HRT := Lib.hid hrow8
        have HOT : Hid (∀ g', (Value.slice ta T.length tc).ownBlock = some g' → q < g') := Lib.hid (fun g hg => by have := hown8 g hg; have := hG.ql; omega)
        obtain ⟨l6, b6⟩ := r6
        obtain ⟨a6, n6, c6, hbp, hsl⟩ := hG.rd.blk
        have HN6 := Lib.hid hsl.len
        have HG8 := Lib.hid (hG.rd.et.ext hG.rd.ext)
        have r0 := HCR8.out
        have d0 := cell_of_block hbp 0
        have d1 := cell_of_block hbp 1
        clear hG hb8 hrow8 hown8 hlen2 hbp hsl HCR7 HROW7 HB7 HC7 hrf
        simp only at HN6 d0 d1
        cases b6
        · by_cases h6 : n6 = 0
          · subst h6
            have hl6 : l6 = [] := List.length_eq_zero_iff.mp HN6.out
            subst hl6
            have HS3 : Hid (staRd l = if staR ⟨x, y, z, km, L, T⟩ = true then some ⟨x, y, z, km, L, T⟩ else none) := Lib.hid (by
              rw [HS2.out]
              unfold staOk
              cases staR ⟨x, y, z, km, L, T⟩ <;> simp)
            have c0 := cell_of_block HBQ.out 0
            have c1 := cell_of_block HBQ.out 1
            have c2 := cell_of_block HBQ.out 2
            have c3 := cell_of_block HBQ.out 3
            have c4 := cell_of_block HBQ.out 4
            have c5 := cell_of_block HBQ.out 5
            have c6' := cell_of_block HBQ.out 6
            have c7 := cell_of_block HBQ.out 7
            have HRI := Lib.hid (staRight_any w8 ⟨x, y, z, km, L, T⟩ fa ta L.length fc T.length tc HIN.out HG8.out)
            obtain ⟨R, hR⟩ : ∃ R, R = staR ⟨x, y, z, km, L, T⟩ := ⟨_, rfl⟩
            rw [← hR] at HS3 HRI
            clear hR HS2
            cases R
            · replace HS3 : Hid (staRd l = none) := Lib.hid (by rw [HS3.out]; simp)
              go_wp2_with fail
              refine HRI.out.mono ?_
              rintro e w9 ⟨rfl, hx⟩
              have HB9 := Lib.hid (hx.keep HB8.out)
              have HC9 := Lib.hid (HC8.out.trans (Chg.of_ext (S := fun _ => False) hx) (fun _ _ e => e.elim))
              clear hx HB8 HC8
              have HB8 := HB9
              have HC8 := HC9
              clear c0 c1 c2 c3 c4 c5 c6' c7 r0 d0 d1
              go_wp2_with (first | (refine wpList_store_box rfl _ _ _ rfl _ _ _ _ rfl rfl HB8.out rfl sta_info (by simp [Value.oneCell']) ?_; rintro wx hbx hcx; have HBX := Lib.hid hbx; have HCX := Lib.hid hcx; clear hbx hcx))
              refine bodyPost_ret (results_box_tmp Tryz.results37 _ _ rfl HBX.out Tryz.underlying40 rfl sta_info) rfl ?_
              rw [HS3.out]
              exact StaPost.none rfl ((HC8.out.trans HCX.out (fun i hi e => by have := HQP.out; omega)).ext (fun i hi e => by omega))
            · replace HS3 : Hid (staRd l = some ⟨x, y, z, km, L, T⟩) := Lib.hid (by rw [HS3.out]; simp)
              go_wp2_with fail
              refine HRI.out.mono ?_
              rintro e w9 ⟨rfl, hx⟩
              have HB9 := Lib.hid (hx.keep HB8.out)
              have HIN9 := Lib.hid (HIN.out.ext hx)
              have HX9 := Lib.hid hx
              have HC9 := Lib.hid (HC8.out.trans (Chg.of_ext (S := fun _ => False) hx) (fun _ _ e => e.elim))
              have HBQ9 := Lib.hid (hx.keep HBQ.out)
              clear hx HB8 HC8 HIN HBQ
              clear c0 c1 c2 c3 c4 c5 c6' c7 r0 d0 d1
              have c0 := cell_of_block HBQ9.out 0
              have c1 := cell_of_block HBQ9.out 1
              have c2 := cell_of_block HBQ9.out 2
              have c3 := cell_of_block HBQ9.out 3
              have c4 := cell_of_block HBQ9.out 4
              have c5 := cell_of_block HBQ9.out 5
              have c6' := cell_of_block HBQ9.out 6
              have c7 := cell_of_block HBQ9.out 7
              go_wp2_with (first | (refine wpList_store_box rfl _ _ _ rfl _ _ _ _ rfl rfl HB9.out rfl sta_info (by simp [Value.oneCell']) ?_; rintro wx hbx hcx; have HBX := Lib.hid hbx; have HCX := Lib.hid hcx; clear hbx hcx))
              refine bodyPost_ret (results_box_tmp Tryz.results37 _ _ rfl HBX.out Tryz.underlying40 rfl sta_info) rfl ?_
              rw [HS3.out]
              have hx9 : Ext w wx := (HC9.out.trans HCX.out (fun i hi e => by have := HQP.out; omega)).ext (fun i hi e => by omega)
              refine ⟨fa, L.length, fc, ta, T.length, tc, rfl, hx9, ?_⟩
              exact ⟨((HRF.out.ext HX9.out).chg HCX.out (fun g' hg e => by have := HOWN7.out g' hg; have := HQP.out; omega)).src (fls_one _), ((HRT.out.ext HX9.out).chg HCX.out (fun g' hg e => by have := HOT.out g' hg; have := HQP.out; omega)).src (trs_one _), HIN9.out.ok, HIN9.out.fn63, HIN9.out.tn63⟩
          · have HS3 : Hid (staRd l = none) := Lib.hid (by
              rw [HS2.out]
              have : l6 ≠ [] := by
                rintro rfl
                exact h6 HN6.out.symm
              unfold staOk
              simp [this])
            have h6i : (0 : Int) < (n6 : Int) := by omega
            clear HS2 h6
            go_wp2_with (first | (refine wpList_store_box rfl _ _ _ rfl _ _ _ _ rfl rfl HB8.out rfl sta_info (by simp [Value.oneCell']) ?_; rintro wx hbx hcx; have HBX := Lib.hid hbx; have HCX := Lib.hid hcx; clear hbx hcx))
            refine bodyPost_ret (results_box_tmp Tryz.results37 _ _ rfl HBX.out Tryz.underlying40 rfl sta_info) rfl ?_
            rw [HS3.out]
            exact StaPost.none rfl ((HC8.out.trans HCX.out (fun i hi e => by have := HQP.out; omega)).ext (fun i hi e => by omega))
        · have HS3 : Hid (staRd l = none) := Lib.hid (by rw [HS2.out]; simp [staOk])
          clear HS2
          go_wp2_with (first | (refine wpList_store_box rfl _ _ _ rfl _ _ _ _ rfl rfl HB8.out rfl sta_info (by simp [Value.oneCell']) ?_; rintro wx hbx hcx; have HBX := Lib.hid hbx; have HCX := Lib.hid hcx; clear hbx hcx))
          refine bodyPost_ret (results_box_tmp Tryz.results37 _ _ rfl HBX.out Tryz.underlying40 rfl sta_info) rfl ?_
          rw [HS3.out]
          exact StaPost.none rfl ((HC8.out.trans HCX.out (fun i hi e => by have := HQP.out; omega)).ext (fun i hi e => by omega))
    · have HR2 : Hid (staRd l = none) := Lib.hid (by rw [HR.out]; simp [hk])
      have hki : ((k.toNat : Int) == 7) = false := by
        simp only [beq_eq_false_iff_ne, ne_eq]
        intro h
        exact hk (by apply UInt8.toNat_inj.mp; show k.toNat = 7; omega)
      have hkn : ((k.toNat : Int) != 7) = true := by simp [hki, bne]
      clear HR hk
      go_wp2_with (first | (refine wpList_store_box rfl _ _ _ rfl _ _ _ _ rfl rfl HB1.out rfl sta_info (by simp [Value.oneCell']) ?_; rintro wx hbx hcx; have HBX := Lib.hid hbx; have HCX := Lib.hid hcx; clear hbx hcx))
      refine bodyPost_ret (results_box_tmp Tryz.results37 _ _ rfl HBX.out Tryz.underlying40 rfl sta_info) rfl ?_
      rw [HR2.out]
      exact StaPost.none rfl (HX1.out.stored HCX.out (by have := HGW.out; omega))
  · have HR2 : Hid (staRd l = none) := Lib.hid (by rw [HR.out]; simp [hx0])
    have hxe : (x == 0) = false := by simp [hx0]
    have hxn : (x != 0) = true := by simp [hx0]
    clear HR hx0
    go_wp2_with (first | (refine wpList_store_box rfl _ _ _ rfl _ _ _ _ rfl rfl HB1.out rfl sta_info (by simp [Value.oneCell']) ?_; rintro wx hbx hcx; have HBX := Lib.hid hbx; have HCX := Lib.hid hcx; clear hbx hcx))
    refine bodyPost_ret (results_box_tmp Tryz.results37 _ _ rfl HBX.out Tryz.underlying40 rfl sta_info) rfl ?_
    rw [HR2.out]
    exact StaPost.none rfl (HX1.out.stored HCX.out (by have := HGW.out; omega))
end Go.Proofs.YtgdgjnecgelalaaGreatDoor
