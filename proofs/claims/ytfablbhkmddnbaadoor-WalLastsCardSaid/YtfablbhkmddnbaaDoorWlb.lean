/- The log: Add (printed by tools/gen_wlb.py). -/
import Derived.Test.YtfablbhkmddnbaaDoorWtq
namespace Go.Proofs.YtfablbhkmddnbaaDoor
open Go.RowKit Go.Sort Go.Lib

set_option maxHeartbeats 16000000 in
set_option maxRecDepth 100000 in
theorem logadd_any {w : World} {lg d k N : Nat} {L : LogS} {S : DiskS} {F : List Nat} (hk : k ≤ 800000) (inv : DInv S k) (h : LogAt w lg d L S F) (hN : N ≤ 1000000000000) (bd : LBd L N) (hfl : L.files.length ≤ 1000000) (a : Option Addr) (n c : Nat) (bl : List UInt8) (hs : Src w 1 (.slice a n c) n (u8s bl)) :
    Calls Tryd.prog 10 #[.pointer (some ⟨lg, 0, none⟩), .slice a n c] w fun e w' => e = .returned (.int .i64 (addW L S bl).1) ∧ LogTo w lg d F (addW L S bl).2.1 (addW L S bl).2.2 w' := by
  have HAT := Lib.hid h
  have HI := Lib.hid inv
  have HBL := Lib.hid bd
  have HREC := Lib.hid (record_any w a n c bl hs)
  obtain ⟨V, B, hl, hFe⟩ := h
  have HL := Lib.hid hl
  obtain ⟨va, vc, rfl⟩ := hl.raw.row.shape
  have HLG : Hid (lg ∈ F) := Lib.hid (by rw [hFe]; exact lfoot_lg _ _ _)
  have HF0 : Hid (∀ b ∈ lfoot lg (.slice va L.files.length vc) B, b ∈ F ∨ w.heap.size ≤ b) := Lib.hid (fun b hb => .inl (by rw [hFe]; exact hb))
  have HFLT : Hid (∀ b ∈ F, b < w.heap.size) := Lib.hid (by rw [hFe]; exact hl.lt)
  have c6 := cell_of_block hl.raw.box 6
  simp only [List.getElem?_toArray] at c6
  obtain ⟨R, hR⟩ : ∃ R, R = addW L S bl := ⟨_, rfl⟩
  rw [← hR]
  have HR := Lib.hid hR
  clear hl inv hs bd hR hFe
  cases hb : L.bad with
  | true =>
    have HRF : Hid (R = (16, L, S)) := Lib.hid (by rw [HR.out]; unfold addW; rw [if_pos hb])
    rw [hb] at c6
    go_enter Tryd.func10, Tryd.ntmps10
    go_wp2_with fail
    refine (lognone_any HL.out.raw).mono ?_
    rintro e w1 ⟨rfl, rfl⟩
    go_wp2_with fail
    go_ret
    rw [HRF.out]
    exact ⟨rfl, LogTo.same HAT.out (Ext.refl _)⟩
  | false =>
    rw [hb] at c6
    have HR1 : Hid (R = if 65536 < bl.length then (3, L, S) else if L.files = [] then putW L S true L.next bl else if L.limit ≤ (L.size : Int) then if (syncW L S).1 ≠ 0 then syncW L S else putW (syncW L S).2.1 (syncW L S).2.2 true L.next bl else putW L S false (lastN L) bl) := Lib.hid (by rw [HR.out]; unfold addW; rw [if_neg (by simp [hb])])
    clear hb
    go_enter Tryd.func10, Tryd.ntmps10
    go_wp2_with fail
    refine (lognone_any HL.out.raw).mono ?_
    rintro e w1 ⟨rfl, rfl⟩
    go_wp2_with fail
    clear c6
    refine HREC.out.mono ?_
    rintro e w2 hrec
    unfold RecPost at hrec
    by_cases h64 : bl.length ≤ 65536
    case neg =>
      have HRF : Hid (R = (3, L, S)) := Lib.hid (by rw [HR1.out, if_pos (by omega)])
      rw [if_neg h64] at hrec
      obtain ⟨rfl, rfl⟩ := hrec
      clear h64
      go_wp2_with fail
      go_ret
      rw [HRF.out]
      exact ⟨rfl, LogTo.same HAT.out (Ext.refl _)⟩
    rw [if_pos h64] at hrec
    obtain ⟨ra, rc, rfl, hm⟩ := hrec
    have HM := Lib.hid hm
    have HR2 := Lib.hid (HR1.out.trans (if_neg (by omega)))
    obtain ⟨rn, hrn⟩ : ∃ rn, rn = (recL bl).length := ⟨_, rfl⟩
    have HRN := Lib.hid hrn
    have hrn6 : rn ≤ 65558 := by rw [hrn, recL_len]; omega
    rw [← hrn] at HM ⊢
    clear hm hrn h64 HREC HR1
    have H2 := Lib.hid (HL.out.ext HM.out.ext)
    have HC2 : Hid (Chg (· ∈ F) w w2) := Lib.hid (Chg.of_ext HM.out.ext)
    have HSR2 := Lib.hid (HM.out.row.src (u8s_one _))
    have HOW2 : Hid (∀ g, (Value.slice ra rn rc).ownBlock = some g → w.heap.size ≤ g ∧ g < w2.heap.size) := Lib.hid (fun g hg => ⟨HM.out.own g hg, HM.out.row.lt hg⟩)
    have l4 := cell_of_block H2.out.raw.box 4
    have l2 := cell_of_block H2.out.raw.box 2
    simp only [List.getElem?_toArray] at l4 l2
    go_wp2_with fail
    by_cases hf : L.files = []
    · as_aux_lemma =>
      have hf0 : ((L.files.length : Int) == 0) = true := by rw [hf]; rfl
      have HRR : Hid (R = putW L S true L.next bl) := Lib.hid (HR2.out.trans (if_pos hf))
      clear hf
      go_big_quiet (fail)
      generalize hW : World.drewN w2 _ = w3
      have HXw3 : Hid (Ext w2 w3) := Lib.hid (by rw [← hW]; exact Ext.drewN _ _)
      clear hW

      go_wp2_with fail
      go_big_quiet (fail)
      generalize hW : World.drewN w3 _ = w5
      have HXw5 : Hid (Ext w3 w5) := Lib.hid (by rw [← hW]; exact Ext.drewN _ _)
      clear hW

      have H5 := Lib.hid (H2.out.ext (HXw3.out.trans HXw5.out))
      have HC5 : Hid (Chg (· ∈ F) w w5) := Lib.hid (HC2.out.trans (Chg.of_ext (S := fun _ => False) (HXw3.out.trans HXw5.out)) (fun _ _ e => e.elim))
      have HF5 := HF0
      have HSR := Lib.hid (HSR2.out.ext (HXw3.out.trans HXw5.out))
      have HOW : Hid (∀ g, (Value.slice ra rn rc).ownBlock = some g → g ∉ B ∧ True) := Lib.hid (fun g hg => ⟨fun e => by have := (HOW2.out g hg).1; have := HL.out.disk.lt g e; omega, trivial⟩)
      have HI5 := HI
      have HBD : Hid (L.next ≤ 2000000000000 ∧ L.files.length ≤ 1000000 ∧ L.size ≤ 2000000000000) := Lib.hid ⟨by have := HBL.out.next; omega, hfl, by have := HBL.out.size; omega⟩
      clear HR2 H2 HC2 HF0 HSR2 HL HI l2 l4

      have HFL : Hid (L.next ≤ 2000000000000) := Lib.hid HBD.out.1
      have c0 := cell_of_block H5.out.raw.box 0
      simp only [List.getElem?_toArray, List.getElem?_cons_zero] at c0
      have f0 := cell_turned (T := fun _ => false) c0 rfl
      clear c0
      go_upto_region 16 with fail
      go_wp2_with fail
      refine wp_region_plan 7 (fun w' => ∃ z : Turned, w' = turned w5 (fun _ => false) z.d z.f z.os) (.reads [0, 1, 2, 3, 4, 6] (.one 5 (.one 7 (.one 8 .done)))) (by kernel_rfl) (by kernel_rfl) (fun _ _ dd _ _ hh => by cases dd <;> exact hh) ?_ ?_
      · exact turned_of_ext (Ext.drewN w5 1)
      refine wpPlan_reads ?_
      simp only [pickOps, List.getElem?_cons_succ, List.getElem?_cons_zero]
      repeat (go_big_quiet_step (fail))
      refine wpQuiet_nil ?_
      clear f0
      refine wpPlan_one ?_
      simp only [pickOps, List.getElem?_cons_succ, List.getElem?_cons_zero]
      go_wp2_with fail
      refine (name_any (w5.drewN 1) L.next (by have := HFL.out; omega)).mono ?_
      rintro e w6 ⟨rfl, hx⟩
      have HX6 := Lib.hid ((Ext.drewN w5 1).trans hx)
      clear hx
      go_wp2_with fail
      refine thenX_mk (turned_of_ext HX6.out) (wpPlan_one ?_)
      simp only [pickOps, List.getElem?_cons_succ, List.getElem?_cons_zero]
      have H6 := Lib.hid (H5.out.ext HX6.out)
      have HAP := Lib.hid (disk_append' HI5.out.ok (by have := HI5.out.ops; omega) H6.out.disk (nameW L.next) (by rw [nameW_size]; decide) ra rn rc (recL bl) (HSR.out.ext HX6.out) (.inr (fun g hg => (HOW.out g hg).1)) (by unfold maxLen; omega))
      generalize hQ : S.append (nameW L.next) (recL bl) = Q at *
      have HRQ : Hid (R = if Q.1 ≠ 0 then (Q.1, { L with bad := decide (Q.1 ≠ 15) && decide (Q.1 ≠ 3) }, Q.2) else (0, { L with files := L.files ++ [L.next], size := 0 + (recL bl).length, dirty := true, next := L.next + 1 }, Q.2)) := Lib.hid (by rw [HRR.out]; unfold putW; rw [hQ]; rfl)
      obtain ⟨y, S2⟩ := Q
      simp only at HRQ HAP
      clear hQ HRR
      go_wp2_with fail
      refine HAP.out.mono ?_
      rintro e w7 ⟨rfl, hto⟩
      obtain ⟨B7, h7, hc7, hf7⟩ := H6.out.onDisk hto
      have H7 := Lib.hid h7
      have HC7 : Hid (Chg (· ∈ F) w w7) := Lib.hid (HC5.out.trans ((Chg.of_ext HX6.out).trans hc7 (fun _ _ e => e)) (fun i hi e => by
        rcases HF5.out i (lfoot_disk e) with e | e
        · exact e
        · omega))
      have HF7 : Hid (∀ b ∈ lfoot lg (.slice va L.files.length vc) B7, b ∈ F ∨ w.heap.size ≤ b) := Lib.hid (fun b hb => by
        rcases hf7 b hb with e | e
        · exact HF5.out b e
        · exact .inr (by have := HC5.out.size; have := HX6.out.size; omega))
      clear hto h7 hc7 hf7 HAP H6 HC5 HF5 H5 HX6
      go_wp2_with fail
      refine thenX_last (wpPlan_one ?_)
      simp only [pickOps, List.getElem?_cons_succ, List.getElem?_cons_zero]
      go_wp2_with fail
      refine thenX_last (wpPlan_done ?_)
      by_cases hy : y = 0
      · subst hy
        have HRF := Lib.hid (HRQ.out.trans (if_neg (by simp)))
        clear HRQ
        have e2 := cell_of_block H7.out.raw.box 2
        simp only [List.getElem?_toArray] at e2
        have hfl5 := HBD.out.2.1
        go_upto_region 22 with (first | (refine wpList_append_to (n := L.files.length) (m := 1) elem_nt rfl _ _ rfl (v := .slice va L.files.length vc) rfl rfl (H7.out.raw.row.ext ((Ext.refl w7).alloc _)) (src_nt (n := L.next) (heap_alloc_new w7 _)) (by unfold maxLen; omega) (by omega) ?_; intro v9 w9 happ; obtain ⟨a9, c9, rfl⟩ := happ.row.shape; have HP := Lib.hid (H7.out.push ((Ext.refl w7).alloc _) happ 0); clear happ; have d2 := cell_of_block HP.out.1 2; have y2 := free_of_block HP.out.1 2; have d3 := cell_of_block HP.out.2.1 3; have y3 := free_of_block HP.out.2.1 3; simp only [List.getElem?_toArray] at d2 d3))
        clear d2 y2 d3 y3 e2
        have H8 := Lib.hid HP.out.2.2.1
        have HC8 : Hid (Chg (· ∈ F) w _) := Lib.hid (HC7.out.trans HP.out.2.2.2.1 (fun i hi e => by
          rcases HF7.out i e with e | e
          · exact e
          · omega))
        have HF8 := Lib.hid (fun b hb => by
          rcases HP.out.2.2.2.2 b hb with e | e
          · exact HF7.out b e
          · exact Or.inr (by have := HC7.out.size; omega))
        clear HP HC7 HF7 H7
        generalize World.setCell _ _ _ = w8 at *
        have e3 := cell_of_block H8.out.raw.box 3
        have z3 := free_of_block H8.out.raw.box 3
        simp only [List.getElem?_toArray] at e3
        have hbs := HBD.out.2.2
        go_upto_region 23 with fail
        clear e3 z3
        have HB9 := Lib.hid (setCell_block H8.out.raw.box (i := 3) (.int .i64 ((rn : Int))))
        have HD9 := Lib.hid (setCell_chg w8 lg 3 (.int .i64 ((rn : Int))))
        generalize World.setCell _ _ _ = w9 at *
        have e5 : w9.cell? ⟨lg, 5, none⟩ = some (.bool L.dirty) := by have := cell_of_block HB9.out 5; simpa using this
        have z5 := free_of_block HB9.out 5
        go_upto_region 24 with fail
        clear e5 z5
        have HB10 := Lib.hid (setCell_block HB9.out (i := 5) (.bool true))
        have HD10 := Lib.hid (HD9.out.trans (setCell_chg w9 lg 5 (.bool true)) (fun _ _ e => e))
        generalize World.setCell _ _ _ = w10 at *
        have e4 : w10.cell? ⟨lg, 4, none⟩ = some (.int .i64 (L.next : Int)) := by have := cell_of_block HB10.out 4; simpa using this
        have z4 := free_of_block HB10.out 4
        have hbn := HBD.out.1
        go_upto_region 25 with fail
        clear e4 z4
        have HB11 := Lib.hid (setCell_block HB10.out (i := 4) (.int .i64 ((L.next : Int) + 1)))
        have HD11 := Lib.hid (HD10.out.trans (setCell_chg w10 lg 4 (.int .i64 ((L.next : Int) + 1))) (fun _ _ e => e))
        generalize World.setCell _ _ _ = w11 at *
        go_wp2_with fail
        go_ret
        rw [HRF.out]
        refine ⟨rfl, H8.out.fin (L' := { L with files := L.files ++ [L.next], size := 0 + (recL bl).length, dirty := true, next := L.next + 1 }) ?_ rfl HD11.out HLG.out HC8.out HF8.out⟩
        have := HB11.out
        rw [HRN.out] at this
        simpa using this
      · have hyi : (y != 0) = true := by simp [hy]
        have HRF := Lib.hid (HRQ.out.trans (if_pos hy))
        have e6 := cell_of_block H7.out.raw.box 6
        have z6 := free_of_block H7.out.raw.box 6
        simp only [List.getElem?_toArray] at e6
        obtain ⟨q, hq⟩ : ∃ q, q = (decide (y ≠ 15) && decide (y ≠ 3)) := ⟨_, rfl⟩
        rw [← hq] at HRF
        have HQ := Lib.hid hq
        have HB6 := Lib.hid (setCell_block H7.out.raw.box (i := 6) (.bool q))
        clear HRQ hq hy
        have HEND : Hid (∀ w8, w8 = w7.setCell ⟨lg, 6, none⟩ (.bool q) → LogTo w lg d F { L with bad := q } S2 w8) := Lib.hid (by
          rintro w8 rfl
          exact H7.out.fin (L' := { L with bad := q }) (by have := HB6.out; simpa using this) rfl (setCell_chg _ _ _ _) HLG.out HC7.out HF7.out)
        by_cases h15 : y = 15
        · have h15i : (y != 15) = false := by simp [h15]
          obtain rfl : q = false := by rw [HQ.out, h15]; rfl
          clear h15
          go_wp2_with fail
          go_ret
          rw [HRF.out]
          exact ⟨rfl, HEND.out _ rfl⟩
        · have h15i : (y != 15) = true := by simp [h15]
          by_cases h3 : y = 3
          · have h3i : (y != 3) = false := by simp [h3]
            obtain rfl : q = false := by rw [HQ.out, h3]; rfl
            clear h15 h3
            go_wp2_with fail
            go_ret
            rw [HRF.out]
            exact ⟨rfl, HEND.out _ rfl⟩
          · have h3i : (y != 3) = true := by simp [h3]
            obtain rfl : q = true := by rw [HQ.out]; simp [h15, h3]
            clear h15 h3
            go_wp2_with fail
            go_ret
            rw [HRF.out]
            exact ⟨rfl, HEND.out _ rfl⟩
    · have hf0 : ((L.files.length : Int) == 0) = false := by
        have : L.files.length ≠ 0 := fun e => hf (List.length_eq_zero_iff.1 e)
        simp; omega
      have HR3 := Lib.hid (HR2.out.trans (if_neg hf))
      have HNE := Lib.hid hf
      clear hf HR2
      have HLIM := Lib.hid HBL.out.lim
      go_big_quiet (fail)
      generalize hW : World.drewN w2 _ = w3
      have HXw3 : Hid (Ext w2 w3) := Lib.hid (by rw [← hW]; exact Ext.drewN _ _)
      clear hW

      go_wp2_with fail
      have H3 := Lib.hid (H2.out.ext HXw3.out)
      have l3 := cell_of_block H3.out.raw.box 3
      have l1 := cell_of_block H3.out.raw.box 1
      have l2 := cell_of_block H3.out.raw.box 2
      simp only [List.getElem?_toArray] at l1 l2 l3
      by_cases hge : L.limit ≤ (L.size : Int)
      · as_aux_lemma =>
        have hged : decide (L.limit ≤ (L.size : Int)) = true := decide_eq_true hge
        have HR4 := Lib.hid (HR3.out.trans (if_pos hge))
        clear hge HR3
        go_big_quiet (fail)
        generalize hW : World.drewN w3 _ = w4
        have HXw4 : Hid (Ext w3 w4) := Lib.hid (by rw [← hW]; exact Ext.drewN _ _)
        clear hW

        clear l1 l2 l3 hged
        go_wp2_with fail
        have H4 := Lib.hid (H3.out.ext HXw4.out)
        have hall : ∀ f ∈ L.files, f ≤ 1000000000000000 := fun f hf => by have := HBL.out.all f hf; omega
        have HX24 := Lib.hid (HXw3.out.trans HXw4.out)
        refine (logsync_any (by omega) HI.out ⟨_, B, H4.out, rfl⟩ HBL.out.dirty hall hfl).mono ?_
        rintro e w5 ⟨rfl, hto⟩
        have hsyn := syncW_inv (L := L) HI.out
        have hkeep : (syncW L S).2.1.files = L.files ∧ (syncW L S).2.1.size = L.size ∧ (syncW L S).2.1.next = L.next := by
          unfold syncW
          split
          · exact ⟨rfl, rfl, rfl⟩
          · split
            · exact ⟨rfl, rfl, rfl⟩
            · exact ⟨rfl, rfl, rfl⟩
        generalize syncW L S = Y at *
        obtain ⟨ye, L1, S1⟩ := Y
        simp only at hto hsyn hkeep HR4 ⊢
        have HK := Lib.hid hkeep
        have HI5 := Lib.hid hsyn
        obtain ⟨_, ⟨V5, B5, h5, rfl⟩, hc5, hf5⟩ := hto
        obtain ⟨va5, vc5, rfl⟩ := h5.raw.row.shape
        have H5 := Lib.hid h5
        have HC5 : Hid (Chg (· ∈ F) w w5) := Lib.hid ((HC2.out.trans (Chg.of_ext (S := fun _ => False) HX24.out) (fun _ _ e => e.elim)).trans hc5 (fun i hi e => by
          rcases HF0.out i e with e | e
          · exact e
          · omega))
        have HF5 : Hid (∀ b ∈ lfoot lg (.slice va5 L1.files.length vc5) B5, b ∈ F ∨ w.heap.size ≤ b) := Lib.hid (fun b hb => by
          rcases hf5 b hb with e | e
          · exact HF0.out b e
          · exact .inr (by have := HC2.out.size; have := HX24.out.size; omega))
        have HSR : Hid (Src w5 1 (.slice ra rn rc) rn (u8s (recL bl))) := Lib.hid ((HSR2.out.ext HX24.out).chg hc5 (fun g hg e => by
          have h1 := (HOW2.out g hg).1
          have := HL.out.lt g e
          omega))
        have HOW : Hid (∀ g, (Value.slice ra rn rc).ownBlock = some g → g ∉ B5 ∧ True) := Lib.hid (fun g hg => ⟨fun e => by
          have h1 := HOW2.out g hg
          rcases hf5 g (lfoot_disk e) with e | e
          · have := HL.out.lt g e; omega
          · have := HX24.out.size; omega, trivial⟩)
        have HBD : Hid (L1.next ≤ 2000000000000 ∧ L1.files.length ≤ 1000000 ∧ L1.size ≤ 2000000000000) := Lib.hid (by
          obtain ⟨k1, k2, k3⟩ := hkeep
          rw [k1, k2, k3]
          exact ⟨by have := HBL.out.next; omega, hfl, by have := HBL.out.size; omega⟩)
        obtain ⟨fl, hfe⟩ : ∃ fl, fl = L.next := ⟨_, rfl⟩
        have HFL : Hid (fl ≤ 2000000000000) := Lib.hid (by rw [hfe]; have := HBL.out.next; omega)
        have HTO : Hid (LogTo w lg d F L1 S1 w5) := Lib.hid ⟨_, ⟨_, B5, h5, rfl⟩, HC5.out, HF5.out⟩
        clear hc5 hf5 h5 hkeep hsyn hall H4 H3 H2 HC2 HF0 HSR2 HL HI
        rw [← hfe]
        by_cases hye : ye = 0
        · subst hye
          have HRR : Hid (R = putW L1 S1 true fl bl) := Lib.hid (by rw [HR4.out, hfe]; exact if_neg (by simp))
          clear HR4 hfe HTO
          have c0 := cell_of_block H5.out.raw.box 0
          simp only [List.getElem?_toArray, List.getElem?_cons_zero] at c0
          have f0 := cell_turned (T := fun _ => false) c0 rfl
          clear c0
          go_upto_region 16 with fail
          go_wp2_with fail
          refine wp_region_plan 7 (fun w' => ∃ z : Turned, w' = turned w5 (fun _ => false) z.d z.f z.os) (.reads [0, 1, 2, 3, 4, 6] (.one 5 (.one 7 (.one 8 .done)))) (by kernel_rfl) (by kernel_rfl) (fun _ _ dd _ _ hh => by cases dd <;> exact hh) ?_ ?_
          · exact turned_of_ext (Ext.drewN w5 1)
          refine wpPlan_reads ?_
          simp only [pickOps, List.getElem?_cons_succ, List.getElem?_cons_zero]
          repeat (go_big_quiet_step (fail))
          refine wpQuiet_nil ?_
          clear f0
          refine wpPlan_one ?_
          simp only [pickOps, List.getElem?_cons_succ, List.getElem?_cons_zero]
          go_wp2_with fail
          refine (name_any (w5.drewN 1) fl (by have := HFL.out; omega)).mono ?_
          rintro e w6 ⟨rfl, hx⟩
          have HX6 := Lib.hid ((Ext.drewN w5 1).trans hx)
          clear hx
          go_wp2_with fail
          refine thenX_mk (turned_of_ext HX6.out) (wpPlan_one ?_)
          simp only [pickOps, List.getElem?_cons_succ, List.getElem?_cons_zero]
          have H6 := Lib.hid (H5.out.ext HX6.out)
          have HAP := Lib.hid (disk_append' HI5.out.ok (by have := HI5.out.ops; omega) H6.out.disk (nameW fl) (by rw [nameW_size]; decide) ra rn rc (recL bl) (HSR.out.ext HX6.out) (.inr (fun g hg => (HOW.out g hg).1)) (by unfold maxLen; omega))
          generalize hQ : S1.append (nameW fl) (recL bl) = Q at *
          have HRQ : Hid (R = if Q.1 ≠ 0 then (Q.1, { L1 with bad := decide (Q.1 ≠ 15) && decide (Q.1 ≠ 3) }, Q.2) else (0, { L1 with files := L1.files ++ [fl], size := 0 + (recL bl).length, dirty := true, next := L1.next + 1 }, Q.2)) := Lib.hid (by rw [HRR.out]; unfold putW; rw [hQ]; rfl)
          obtain ⟨y, S2⟩ := Q
          simp only at HRQ HAP
          clear hQ HRR
          go_wp2_with fail
          refine HAP.out.mono ?_
          rintro e w7 ⟨rfl, hto⟩
          obtain ⟨B7, h7, hc7, hf7⟩ := H6.out.onDisk hto
          have H7 := Lib.hid h7
          have HC7 : Hid (Chg (· ∈ F) w w7) := Lib.hid (HC5.out.trans ((Chg.of_ext HX6.out).trans hc7 (fun _ _ e => e)) (fun i hi e => by
            rcases HF5.out i (lfoot_disk e) with e | e
            · exact e
            · omega))
          have HF7 : Hid (∀ b ∈ lfoot lg (.slice va5 L1.files.length vc5) B7, b ∈ F ∨ w.heap.size ≤ b) := Lib.hid (fun b hb => by
            rcases hf7 b hb with e | e
            · exact HF5.out b e
            · exact .inr (by have := HC5.out.size; have := HX6.out.size; omega))
          clear hto h7 hc7 hf7 HAP H6 HC5 HF5 H5 HX6
          go_wp2_with fail
          refine thenX_last (wpPlan_one ?_)
          simp only [pickOps, List.getElem?_cons_succ, List.getElem?_cons_zero]
          go_wp2_with fail
          refine thenX_last (wpPlan_done ?_)
          by_cases hy : y = 0
          · subst hy
            have HRF := Lib.hid (HRQ.out.trans (if_neg (by simp)))
            clear HRQ
            have e2 := cell_of_block H7.out.raw.box 2
            simp only [List.getElem?_toArray] at e2
            have hfl5 := HBD.out.2.1
            go_upto_region 22 with (first | (refine wpList_append_to (n := L1.files.length) (m := 1) elem_nt rfl _ _ rfl (v := .slice va5 L1.files.length vc5) rfl rfl (H7.out.raw.row.ext ((Ext.refl w7).alloc _)) (src_nt (n := fl) (heap_alloc_new w7 _)) (by unfold maxLen; omega) (by omega) ?_; intro v9 w9 happ; obtain ⟨a9, c9, rfl⟩ := happ.row.shape; have HP := Lib.hid (H7.out.push ((Ext.refl w7).alloc _) happ 0); clear happ; have d2 := cell_of_block HP.out.1 2; have y2 := free_of_block HP.out.1 2; have d3 := cell_of_block HP.out.2.1 3; have y3 := free_of_block HP.out.2.1 3; simp only [List.getElem?_toArray] at d2 d3))
            clear d2 y2 d3 y3 e2
            have H8 := Lib.hid HP.out.2.2.1
            have HC8 : Hid (Chg (· ∈ F) w _) := Lib.hid (HC7.out.trans HP.out.2.2.2.1 (fun i hi e => by
              rcases HF7.out i e with e | e
              · exact e
              · omega))
            have HF8 := Lib.hid (fun b hb => by
              rcases HP.out.2.2.2.2 b hb with e | e
              · exact HF7.out b e
              · exact Or.inr (by have := HC7.out.size; omega))
            clear HP HC7 HF7 H7
            generalize World.setCell _ _ _ = w8 at *
            have e3 := cell_of_block H8.out.raw.box 3
            have z3 := free_of_block H8.out.raw.box 3
            simp only [List.getElem?_toArray] at e3
            have hbs := HBD.out.2.2
            go_upto_region 23 with fail
            clear e3 z3
            have HB9 := Lib.hid (setCell_block H8.out.raw.box (i := 3) (.int .i64 ((rn : Int))))
            have HD9 := Lib.hid (setCell_chg w8 lg 3 (.int .i64 ((rn : Int))))
            generalize World.setCell _ _ _ = w9 at *
            have e5 : w9.cell? ⟨lg, 5, none⟩ = some (.bool L1.dirty) := by have := cell_of_block HB9.out 5; simpa using this
            have z5 := free_of_block HB9.out 5
            go_upto_region 24 with fail
            clear e5 z5
            have HB10 := Lib.hid (setCell_block HB9.out (i := 5) (.bool true))
            have HD10 := Lib.hid (HD9.out.trans (setCell_chg w9 lg 5 (.bool true)) (fun _ _ e => e))
            generalize World.setCell _ _ _ = w10 at *
            have e4 : w10.cell? ⟨lg, 4, none⟩ = some (.int .i64 (L1.next : Int)) := by have := cell_of_block HB10.out 4; simpa using this
            have z4 := free_of_block HB10.out 4
            have hbn := HBD.out.1
            go_upto_region 25 with fail
            clear e4 z4
            have HB11 := Lib.hid (setCell_block HB10.out (i := 4) (.int .i64 ((L1.next : Int) + 1)))
            have HD11 := Lib.hid (HD10.out.trans (setCell_chg w10 lg 4 (.int .i64 ((L1.next : Int) + 1))) (fun _ _ e => e))
            generalize World.setCell _ _ _ = w11 at *
            go_wp2_with fail
            go_ret
            rw [HRF.out]
            refine ⟨rfl, H8.out.fin (L' := { L1 with files := L1.files ++ [fl], size := 0 + (recL bl).length, dirty := true, next := L1.next + 1 }) ?_ rfl HD11.out HLG.out HC8.out HF8.out⟩
            have := HB11.out
            rw [HRN.out] at this
            simpa using this
          · have hyi : (y != 0) = true := by simp [hy]
            have HRF := Lib.hid (HRQ.out.trans (if_pos hy))
            have e6 := cell_of_block H7.out.raw.box 6
            have z6 := free_of_block H7.out.raw.box 6
            simp only [List.getElem?_toArray] at e6
            obtain ⟨q, hq⟩ : ∃ q, q = (decide (y ≠ 15) && decide (y ≠ 3)) := ⟨_, rfl⟩
            rw [← hq] at HRF
            have HQ := Lib.hid hq
            have HB6 := Lib.hid (setCell_block H7.out.raw.box (i := 6) (.bool q))
            clear HRQ hq hy
            have HEND : Hid (∀ w8, w8 = w7.setCell ⟨lg, 6, none⟩ (.bool q) → LogTo w lg d F { L1 with bad := q } S2 w8) := Lib.hid (by
              rintro w8 rfl
              exact H7.out.fin (L' := { L1 with bad := q }) (by have := HB6.out; simpa using this) rfl (setCell_chg _ _ _ _) HLG.out HC7.out HF7.out)
            by_cases h15 : y = 15
            · have h15i : (y != 15) = false := by simp [h15]
              obtain rfl : q = false := by rw [HQ.out, h15]; rfl
              clear h15
              go_wp2_with fail
              go_ret
              rw [HRF.out]
              exact ⟨rfl, HEND.out _ rfl⟩
            · have h15i : (y != 15) = true := by simp [h15]
              by_cases h3 : y = 3
              · have h3i : (y != 3) = false := by simp [h3]
                obtain rfl : q = false := by rw [HQ.out, h3]; rfl
                clear h15 h3
                go_wp2_with fail
                go_ret
                rw [HRF.out]
                exact ⟨rfl, HEND.out _ rfl⟩
              · have h3i : (y != 3) = true := by simp [h3]
                obtain rfl : q = true := by rw [HQ.out]; simp [h15, h3]
                clear h15 h3
                go_wp2_with fail
                go_ret
                rw [HRF.out]
                exact ⟨rfl, HEND.out _ rfl⟩
        · have hyi : (ye != 0) = true := by simp [hye]
          have HRF : Hid (R = (ye, L1, S1)) := Lib.hid (HR4.out.trans (if_pos hye))
          clear HR4 hye
          go_wp2_with fail
          go_ret
          rw [HRF.out]
          exact ⟨rfl, HTO.out⟩
      · as_aux_lemma =>
        have hged : decide (L.limit ≤ (L.size : Int)) = false := decide_eq_false hge
        have HR4 := Lib.hid (HR3.out.trans (if_neg hge))
        clear hge HR3
        go_big_quiet (fail)
        generalize hW : World.drewN w3 _ = w4
        have HXw4 : Hid (Ext w3 w4) := Lib.hid (by rw [← hW]; exact Ext.drewN _ _)
        clear hW

        clear l1 l2 l3 hged
        have H4 := Lib.hid (H3.out.ext HXw4.out)
        obtain ⟨j, hj⟩ : ∃ j, j + 1 = L.files.length := ⟨L.files.length - 1, by have : L.files.length ≠ 0 := fun e => HNE.out (List.length_eq_zero_iff.1 e); omega⟩
        obtain ⟨vb, vo, x, hva, hx, cx⟩ := nts_src (k := j) (H4.out.raw.row.src (nts_one _)) (by omega)
        obtain rfl := lastN_eq hj hx
        subst hva
        have l2 := cell_of_block H4.out.raw.box 2
        simp only [List.getElem?_toArray] at l2
        have hw1 : IntKind.i64.wrap ((L.files.length : Int) - 1) = (j : Int) := by rw [IntKind.wrap_i64]; omega
        have hall : ∀ f ∈ L.files, f ≤ N := HBL.out.all
        have HFL : Hid (lastN L ≤ 2000000000000) := Lib.hid (by have := lastN_le hall; omega)
        clear hx hall
        go_wp2_with fail
        go_big_quiet (fail)
        generalize hW : World.drewN w4 _ = w5
        have HXw5 : Hid (Ext w4 w5) := Lib.hid (by rw [← hW]; exact Ext.drewN _ _)
        clear hW

        clear l2 cx hw1
        have HRR : Hid (R = putW L S false (lastN L) bl) := HR4
        clear HR4
        have HX25 := Lib.hid ((HXw3.out.trans HXw4.out).trans HXw5.out)
        have H5 := Lib.hid (H2.out.ext HX25.out)
        have HC5 : Hid (Chg (· ∈ F) w w5) := Lib.hid (HC2.out.trans (Chg.of_ext (S := fun _ => False) HX25.out) (fun _ _ e => e.elim))
        have HF5 := HF0
        have HSR := Lib.hid (HSR2.out.ext HX25.out)
        have HOW : Hid (∀ g, (Value.slice ra rn rc).ownBlock = some g → g ∉ B ∧ True) := Lib.hid (fun g hg => ⟨fun e => by have := (HOW2.out g hg).1; have := HL.out.disk.lt g e; omega, trivial⟩)
        have HI5 := HI
        have HBD : Hid (L.next ≤ 2000000000000 ∧ L.files.length ≤ 1000000 ∧ L.size ≤ 2000000000000) := Lib.hid ⟨by have := HBL.out.next; omega, hfl, by have := HBL.out.size; omega⟩
        clear H2 HC2 HF0 HSR2 HL HI H3 H4

        have c0 := cell_of_block H5.out.raw.box 0
        simp only [List.getElem?_toArray, List.getElem?_cons_zero] at c0
        have f0 := cell_turned (T := fun _ => false) c0 rfl
        clear c0
        go_upto_region 16 with fail
        go_wp2_with fail
        refine wp_region_plan 7 (fun w' => ∃ z : Turned, w' = turned w5 (fun _ => false) z.d z.f z.os) (.reads [0, 1, 2, 3, 4, 6] (.one 5 (.one 7 (.one 8 .done)))) (by kernel_rfl) (by kernel_rfl) (fun _ _ dd _ _ hh => by cases dd <;> exact hh) ?_ ?_
        · exact turned_of_ext (Ext.drewN w5 1)
        refine wpPlan_reads ?_
        simp only [pickOps, List.getElem?_cons_succ, List.getElem?_cons_zero]
        repeat (go_big_quiet_step (fail))
        refine wpQuiet_nil ?_
        clear f0
        refine wpPlan_one ?_
        simp only [pickOps, List.getElem?_cons_succ, List.getElem?_cons_zero]
        go_wp2_with fail
        refine (name_any (w5.drewN 1) (lastN L) (by have := HFL.out; omega)).mono ?_
        rintro e w6 ⟨rfl, hx⟩
        have HX6 := Lib.hid ((Ext.drewN w5 1).trans hx)
        clear hx
        go_wp2_with fail
        refine thenX_mk (turned_of_ext HX6.out) (wpPlan_one ?_)
        simp only [pickOps, List.getElem?_cons_succ, List.getElem?_cons_zero]
        have H6 := Lib.hid (H5.out.ext HX6.out)
        have HAP := Lib.hid (disk_append' HI5.out.ok (by have := HI5.out.ops; omega) H6.out.disk (nameW (lastN L)) (by rw [nameW_size]; decide) ra rn rc (recL bl) (HSR.out.ext HX6.out) (.inr (fun g hg => (HOW.out g hg).1)) (by unfold maxLen; omega))
        generalize hQ : S.append (nameW (lastN L)) (recL bl) = Q at *
        have HRQ : Hid (R = if Q.1 ≠ 0 then (Q.1, { L with bad := decide (Q.1 ≠ 15) && decide (Q.1 ≠ 3) }, Q.2) else (0, { L with files := L.files, size := L.size + (recL bl).length, dirty := true, next := L.next + 1 }, Q.2)) := Lib.hid (by rw [HRR.out]; unfold putW; rw [hQ]; rfl)
        obtain ⟨y, S2⟩ := Q
        simp only at HRQ HAP
        clear hQ HRR
        go_wp2_with fail
        refine HAP.out.mono ?_
        rintro e w7 ⟨rfl, hto⟩
        obtain ⟨B7, h7, hc7, hf7⟩ := H6.out.onDisk hto
        have H7 := Lib.hid h7
        have HC7 : Hid (Chg (· ∈ F) w w7) := Lib.hid (HC5.out.trans ((Chg.of_ext HX6.out).trans hc7 (fun _ _ e => e)) (fun i hi e => by
          rcases HF5.out i (lfoot_disk e) with e | e
          · exact e
          · omega))
        have HF7 : Hid (∀ b ∈ lfoot lg (.slice (some ⟨vb, vo, none⟩) L.files.length vc) B7, b ∈ F ∨ w.heap.size ≤ b) := Lib.hid (fun b hb => by
          rcases hf7 b hb with e | e
          · exact HF5.out b e
          · exact .inr (by have := HC5.out.size; have := HX6.out.size; omega))
        clear hto h7 hc7 hf7 HAP H6 HC5 HF5 H5 HX6
        go_wp2_with fail
        refine thenX_last (wpPlan_one ?_)
        simp only [pickOps, List.getElem?_cons_succ, List.getElem?_cons_zero]
        go_wp2_with fail
        refine thenX_last (wpPlan_done ?_)
        by_cases hy : y = 0
        · subst hy
          have HRF := Lib.hid (HRQ.out.trans (if_neg (by simp)))
          clear HRQ
          go_upto_region 22 with fail
          have H8 := H7
          have HC8 := HC7
          have HF8 := HF7
          clear H7 HC7 HF7
          obtain ⟨w8, hw8⟩ : ∃ w8, w8 = w7 := ⟨_, rfl⟩
          subst hw8
          have e3 := cell_of_block H8.out.raw.box 3
          have z3 := free_of_block H8.out.raw.box 3
          simp only [List.getElem?_toArray] at e3
          have hbs := HBD.out.2.2
          go_upto_region 23 with fail
          clear e3 z3
          have HB9 := Lib.hid (setCell_block H8.out.raw.box (i := 3) (.int .i64 ((L.size : Int) + (rn : Int))))
          have HD9 := Lib.hid (setCell_chg w8 lg 3 (.int .i64 ((L.size : Int) + (rn : Int))))
          generalize World.setCell _ _ _ = w9 at *
          have e5 : w9.cell? ⟨lg, 5, none⟩ = some (.bool L.dirty) := by have := cell_of_block HB9.out 5; simpa using this
          have z5 := free_of_block HB9.out 5
          go_upto_region 24 with fail
          clear e5 z5
          have HB10 := Lib.hid (setCell_block HB9.out (i := 5) (.bool true))
          have HD10 := Lib.hid (HD9.out.trans (setCell_chg w9 lg 5 (.bool true)) (fun _ _ e => e))
          generalize World.setCell _ _ _ = w10 at *
          have e4 : w10.cell? ⟨lg, 4, none⟩ = some (.int .i64 (L.next : Int)) := by have := cell_of_block HB10.out 4; simpa using this
          have z4 := free_of_block HB10.out 4
          have hbn := HBD.out.1
          go_upto_region 25 with fail
          clear e4 z4
          have HB11 := Lib.hid (setCell_block HB10.out (i := 4) (.int .i64 ((L.next : Int) + 1)))
          have HD11 := Lib.hid (HD10.out.trans (setCell_chg w10 lg 4 (.int .i64 ((L.next : Int) + 1))) (fun _ _ e => e))
          generalize World.setCell _ _ _ = w11 at *
          go_wp2_with fail
          go_ret
          rw [HRF.out]
          refine ⟨rfl, H8.out.fin (L' := { L with files := L.files, size := L.size + (recL bl).length, dirty := true, next := L.next + 1 }) ?_ rfl HD11.out HLG.out HC8.out HF8.out⟩
          have := HB11.out
          rw [HRN.out] at this
          simpa using this
        · have hyi : (y != 0) = true := by simp [hy]
          have HRF := Lib.hid (HRQ.out.trans (if_pos hy))
          have e6 := cell_of_block H7.out.raw.box 6
          have z6 := free_of_block H7.out.raw.box 6
          simp only [List.getElem?_toArray] at e6
          obtain ⟨q, hq⟩ : ∃ q, q = (decide (y ≠ 15) && decide (y ≠ 3)) := ⟨_, rfl⟩
          rw [← hq] at HRF
          have HQ := Lib.hid hq
          have HB6 := Lib.hid (setCell_block H7.out.raw.box (i := 6) (.bool q))
          clear HRQ hq hy
          have HEND : Hid (∀ w8, w8 = w7.setCell ⟨lg, 6, none⟩ (.bool q) → LogTo w lg d F { L with bad := q } S2 w8) := Lib.hid (by
            rintro w8 rfl
            exact H7.out.fin (L' := { L with bad := q }) (by have := HB6.out; simpa using this) rfl (setCell_chg _ _ _ _) HLG.out HC7.out HF7.out)
          by_cases h15 : y = 15
          · have h15i : (y != 15) = false := by simp [h15]
            obtain rfl : q = false := by rw [HQ.out, h15]; rfl
            clear h15
            go_wp2_with fail
            go_ret
            rw [HRF.out]
            exact ⟨rfl, HEND.out _ rfl⟩
          · have h15i : (y != 15) = true := by simp [h15]
            by_cases h3 : y = 3
            · have h3i : (y != 3) = false := by simp [h3]
              obtain rfl : q = false := by rw [HQ.out, h3]; rfl
              clear h15 h3
              go_wp2_with fail
              go_ret
              rw [HRF.out]
              exact ⟨rfl, HEND.out _ rfl⟩
            · have h3i : (y != 3) = true := by simp [h3]
              obtain rfl : q = true := by rw [HQ.out]; simp [h15, h3]
              clear h15 h3
              go_wp2_with fail
              go_ret
              rw [HRF.out]
              exact ⟨rfl, HEND.out _ rfl⟩
end Go.Proofs.YtfablbhkmddnbaaDoor
