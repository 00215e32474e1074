/- tidemillref18.Same: two states that have the same are the same. -/
import Derived.Test.YtgdgjnecgelalaaGreatDoorMow
namespace Go.Proofs.YtgdgjnecgelalaaGreatDoor
open Go.RowKit Go.Sort Go.Lib

theorem rfile_info : (Tryz.prog.info? 88).map (·.size) = some 4 := by kernel_rfl
theorem rtier_info : (Tryz.prog.info? 89).map (·.size) = some 5 := by kernel_rfl
set_option maxHeartbeats 16000000 in
set_option maxRecDepth 100000 in
theorem ref18Same_any (w : World) (s : Sta) (fa ta ga ha : Option Addr) (fn fc tn tc gc hc : Nat) (hs : StIn w s fa fn fc ta tn tc) (hs2 : StIn w s ga fn gc ha tn hc) :
    Calls Tryz.prog 18 #[.agg (staC s fa fn fc ta tn tc), .agg (staC s ga fn gc ha tn hc)] w fun e w' => e = .returned (.bool true) ∧ Ext w w' := by
  have HF1 := Lib.hid hs.fl
  have HT1 := Lib.hid hs.ti
  have HF2 := Lib.hid hs2.fl
  have HT2 := Lib.hid hs2.ti
  have hf := hs.fn63
  have ht := hs.tn63
  clear hs hs2
  obtain ⟨x, r, q, ⟨b, t, g⟩, fl, ti⟩ := s
  simp only at HF1 HT1 HF2 HT2
  go_enter Tryz.func18, Tryz.ntmps18
  go_upto_region 1 with fail
  generalize hW : (w.alloc _).alloc _ = W
  obtain ⟨b1, hb1⟩ : ∃ k, k = w.heap.size := ⟨_, rfl⟩
  obtain ⟨b2, hb2⟩ : ∃ k, k = w.heap.size + 1 := ⟨_, rfl⟩
  rw [← hb2, ← hb1]
  have HB1 : Hid (W.heap[b1]? = some (.cells #[.int .i64 x, .int .i64 r, .int .i64 q, .bool b, .int .i64 t, .int .i64 g, .slice fa fn fc, .slice ta tn tc] 47 (0, 0))) := Lib.hid (by subst hW; rw [hb1, heap_alloc_old _ _ (by simp)]; exact heap_alloc_new w _)
  have HB2 : Hid (W.heap[b2]? = some (.cells #[.int .i64 x, .int .i64 r, .int .i64 q, .bool b, .int .i64 t, .int .i64 g, .slice ga fn gc, .slice ha tn hc] 47 (0, 0))) := Lib.hid (by subst hW; rw [hb2]; exact heap_alloc2 w _ _)
  have HX : Hid (Ext w W) := Lib.hid (by subst hW; exact ((Ext.refl w).alloc _).alloc _)
  clear hW hb1 hb2
  have c0 := cell_of_block HB1.out 0
  have c1 := cell_of_block HB1.out 1
  have c2 := cell_of_block HB1.out 2
  have c3 := cell_of_block HB1.out 3
  have c4 := cell_of_block HB1.out 4
  have c5 := cell_of_block HB1.out 5
  have c6 := cell_of_block HB1.out 6
  have c7 := cell_of_block HB1.out 7
  have d0 := cell_of_block HB2.out 0
  have d1 := cell_of_block HB2.out 1
  have d2 := cell_of_block HB2.out 2
  have d3 := cell_of_block HB2.out 3
  have d4 := cell_of_block HB2.out 4
  have d5 := cell_of_block HB2.out 5
  have d6 := cell_of_block HB2.out 6
  have d7 := cell_of_block HB2.out 7
  go_upto_block 0 with fail
  clear c0 c1 c2 c3 c4 c5 c6 c7 d0 d1 d2 d3 d4 d5 d6 d7
  go_cut [5] (fun _ wx => Hid (Ext W wx))
  case first =>
    go_wp2_with fail
    go_loopw [5] (fun si wr => ∃ k : Nat, k ≤ fn ∧ si = .int .i64 k ∧ Hid (Ext W wr)) (fun si _ => fn - (RowKit.intOf si).toNat)
    case atStart => exact ⟨0, by omega, rfl, Lib.hid (Ext.refl _)⟩
    case round =>
      obtain ⟨k, hk, rfl, HE⟩ := hrel
      have HBa := Lib.hid (HE.out.keep HB1.out)
      have HBb := Lib.hid (HE.out.keep HB2.out)
      have c6 := cell_of_block HBa.out 6
      have d6 := cell_of_block HBb.out 6
      by_cases hlt : k < fn
      · obtain ⟨fb, fo, p, rfl, hp, p0, p1, p2, p3⟩ := fls_src (HF1.out.ext (HX.out.trans HE.out)) hlt
        obtain ⟨gb, go, p', rfl, hp', q0, q1, q2, q3⟩ := fls_src (HF2.out.ext (HX.out.trans HE.out)) hlt
        obtain rfl : p = p' := Option.some.inj (hp.symm.trans hp')
        have g1 : ∀ (d : Nat) (f : Nat → Obj) (os : Array Obj), (Instr.loadAt 88 (.pointer (some ⟨fb, fo + k * 4, none⟩))).run Tryz.prog (turned wr (fun _ => false) d f os) = .ok p.val (turned wr (fun _ => false) d f os) := fun d f os => by
            have h1 := run_loadAt_mid (P := Tryz.prog) (turned wr (fun _ => false) d f os) fb (fo + k * 4) 88 p.cells _ (fun i u hu => by
              rcases i with _ | _ | _ | _ | i
              · simp [Fl.cells] at hu; subst hu; exact cell_turned (T := fun _ => false) p0 rfl d f os
              · simp [Fl.cells] at hu; subst hu; exact cell_turned (T := fun _ => false) p1 rfl d f os
              · simp [Fl.cells] at hu; subst hu; exact cell_turned (T := fun _ => false) p2 rfl d f os
              · simp [Fl.cells] at hu; subst hu; exact cell_turned (T := fun _ => false) p3 rfl d f os
              · simp [Fl.cells] at hu) Tryz.underlying88 rfl rfile_info
            exact h1
        have g2 : ∀ (d : Nat) (f : Nat → Obj) (os : Array Obj), (Instr.loadAt 88 (.pointer (some ⟨gb, go + k * 4, none⟩))).run Tryz.prog (turned wr (fun _ => false) d f os) = .ok p.val (turned wr (fun _ => false) d f os) := fun d f os => by
            have h1 := run_loadAt_mid (P := Tryz.prog) (turned wr (fun _ => false) d f os) gb (go + k * 4) 88 p.cells _ (fun i u hu => by
              rcases i with _ | _ | _ | _ | i
              · simp [Fl.cells] at hu; subst hu; exact cell_turned (T := fun _ => false) q0 rfl d f os
              · simp [Fl.cells] at hu; subst hu; exact cell_turned (T := fun _ => false) q1 rfl d f os
              · simp [Fl.cells] at hu; subst hu; exact cell_turned (T := fun _ => false) q2 rfl d f os
              · simp [Fl.cells] at hu; subst hu; exact cell_turned (T := fun _ => false) q3 rfl d f os
              · simp [Fl.cells] at hu) Tryz.underlying88 rfl rfile_info
            exact h1
        have f0 := cell_turned (T := fun _ => false) (a := ⟨b1, 6, none⟩) (v := .slice (some ⟨fb, fo, none⟩) fn fc) (by rw [cell_of_block HBa.out 6]; rfl) rfl
        have f1 := cell_turned (T := fun _ => false) (a := ⟨b2, 6, none⟩) (v := .slice (some ⟨gb, go, none⟩) fn gc) (by rw [cell_of_block HBb.out 6]; rfl) rfl
        clear hp hp' p0 p1 p2 p3 q0 q1 q2 q3
        obtain ⟨pn, pa, pb, pk⟩ := p
        unfold Fl.val at g1 g2
        simp only at g1 g2
        go_upto_region 6 with fail
        go_wp2_with fail
        refine wp_region_plan 10 (fun w' => ∃ z : Turned, w' = turned wr (fun _ => false) z.d z.f z.os) (.reads [0, 1, 2, 3, 5, 6, 7, 8, 4, 9] (.one 10 .done)) (by kernel_rfl) (by kernel_rfl) (fun _ _ dd _ _ hh => by cases dd <;> exact hh) ?_ ?_
        · exact turned_of_ext (Ext.drewN wr 1)
        refine wpPlan_reads ?_
        simp only [pickOps, List.getElem?_cons_succ, List.getElem?_cons_zero]
        iterate 8 (go_big_quiet_step (fail))
        refine wpQuiet_load_box rfl _ _ rfl _ _ rfl (fun w hw => by obtain ⟨z, rfl⟩ := hw; exact g1 z.d z.f z.os) ?_
        refine wpQuiet_load_box rfl _ _ rfl _ _ rfl (fun w hw => by obtain ⟨z, rfl⟩ := hw; exact g2 z.d z.f z.os) ?_
        refine wpQuiet_nil ?_
        clear f0 f1 g1 g2
        refine wpPlan_one ?_
        simp only [pickOps, List.getElem?_cons_succ, List.getElem?_cons_zero]
        have HXD := Lib.hid (HE.out.trans (Ext.drewN wr 1))
        go_wp2_with fail
        refine thenX_last (wpPlan_done ?_)
        go_wp2_with fail
        go_roundw
        case rel => exact ⟨k + 1, by omega, by go_num, HXD⟩
        case measure => simp [RowKit.intOf]; omega
      · obtain rfl : k = fn := by omega
        go_wp2_with fail
        go_meet
        case rel => exact HE
  case rest =>
    have HX' := Lib.hid (HX.out.trans hcut.out)
    have HB1' := Lib.hid (hcut.out.keep HB1.out)
    have HB2' := Lib.hid (hcut.out.keep HB2.out)
    clear hcut HX HB1 HB2
    have HX := HX'
    have HB1 := HB1'
    have HB2 := HB2'
    clear HX' HB1' HB2'
    go_wp2_with fail
    go_loopw [6] (fun si wr => ∃ k : Nat, k ≤ tn ∧ si = .int .i64 k ∧ Hid (Ext wc wr)) (fun si _ => tn - (RowKit.intOf si).toNat)
    case atStart => exact ⟨0, by omega, rfl, Lib.hid (Ext.refl _)⟩
    case round =>
      obtain ⟨k, hk, rfl, HE⟩ := hrel
      have HBa := Lib.hid (HE.out.keep HB1.out)
      have HBb := Lib.hid (HE.out.keep HB2.out)
      have c7 := cell_of_block HBa.out 7
      have d7 := cell_of_block HBb.out 7
      by_cases hlt : k < tn
      · obtain ⟨fb, fo, p, rfl, hp, p0, p1, p2, p3, p4⟩ := trs_src (HT1.out.ext (HX.out.trans HE.out)) hlt
        obtain ⟨gb, go, p', rfl, hp', q0, q1, q2, q3, q4⟩ := trs_src (HT2.out.ext (HX.out.trans HE.out)) hlt
        obtain rfl : p = p' := Option.some.inj (hp.symm.trans hp')
        have g1 : ∀ (d : Nat) (f : Nat → Obj) (os : Array Obj), (Instr.loadAt 89 (.pointer (some ⟨fb, fo + k * 5, none⟩))).run Tryz.prog (turned wr (fun _ => false) d f os) = .ok p.val (turned wr (fun _ => false) d f os) := fun d f os => by
            have h1 := run_loadAt_mid (P := Tryz.prog) (turned wr (fun _ => false) d f os) fb (fo + k * 5) 89 p.cells _ (fun i u hu => by
              rcases i with _ | _ | _ | _ | _ | i
              · simp [Tr.cells] at hu; subst hu; exact cell_turned (T := fun _ => false) p0 rfl d f os
              · simp [Tr.cells] at hu; subst hu; exact cell_turned (T := fun _ => false) p1 rfl d f os
              · simp [Tr.cells] at hu; subst hu; exact cell_turned (T := fun _ => false) p2 rfl d f os
              · simp [Tr.cells] at hu; subst hu; exact cell_turned (T := fun _ => false) p3 rfl d f os
              · simp [Tr.cells] at hu; subst hu; exact cell_turned (T := fun _ => false) p4 rfl d f os
              · simp [Tr.cells] at hu) Tryz.underlying89 rfl rtier_info
            exact h1
        have g2 : ∀ (d : Nat) (f : Nat → Obj) (os : Array Obj), (Instr.loadAt 89 (.pointer (some ⟨gb, go + k * 5, none⟩))).run Tryz.prog (turned wr (fun _ => false) d f os) = .ok p.val (turned wr (fun _ => false) d f os) := fun d f os => by
            have h1 := run_loadAt_mid (P := Tryz.prog) (turned wr (fun _ => false) d f os) gb (go + k * 5) 89 p.cells _ (fun i u hu => by
              rcases i with _ | _ | _ | _ | _ | i
              · simp [Tr.cells] at hu; subst hu; exact cell_turned (T := fun _ => false) q0 rfl d f os
              · simp [Tr.cells] at hu; subst hu; exact cell_turned (T := fun _ => false) q1 rfl d f os
              · simp [Tr.cells] at hu; subst hu; exact cell_turned (T := fun _ => false) q2 rfl d f os
              · simp [Tr.cells] at hu; subst hu; exact cell_turned (T := fun _ => false) q3 rfl d f os
              · simp [Tr.cells] at hu; subst hu; exact cell_turned (T := fun _ => false) q4 rfl d f os
              · simp [Tr.cells] at hu) Tryz.underlying89 rfl rtier_info
            exact h1
        have f0 := cell_turned (T := fun _ => false) (a := ⟨b1, 7, none⟩) (v := .slice (some ⟨fb, fo, none⟩) tn tc) (by rw [cell_of_block HBa.out 7]; rfl) rfl
        have f1 := cell_turned (T := fun _ => false) (a := ⟨b2, 7, none⟩) (v := .slice (some ⟨gb, go, none⟩) tn hc) (by rw [cell_of_block HBb.out 7]; rfl) rfl
        clear hp hp' p0 p1 p2 p3 p4 q0 q1 q2 q3 q4
        obtain ⟨pw, po, pu, pm, pf⟩ := p
        unfold Tr.val at g1 g2
        simp only at g1 g2
        go_upto_region 11 with fail
        go_wp2_with fail
        refine wp_region_plan 10 (fun w' => ∃ z : Turned, w' = turned wr (fun _ => false) z.d z.f z.os) (.reads [0, 1, 2, 3, 5, 6, 7, 8, 4, 9] (.one 10 .done)) (by kernel_rfl) (by kernel_rfl) (fun _ _ dd _ _ hh => by cases dd <;> exact hh) ?_ ?_
        · exact turned_of_ext (Ext.drewN wr 1)
        refine wpPlan_reads ?_
        simp only [pickOps, List.getElem?_cons_succ, List.getElem?_cons_zero]
        iterate 8 (go_big_quiet_step (fail))
        refine wpQuiet_load_box rfl _ _ rfl _ _ rfl (fun w hw => by obtain ⟨z, rfl⟩ := hw; exact g1 z.d z.f z.os) ?_
        refine wpQuiet_load_box rfl _ _ rfl _ _ rfl (fun w hw => by obtain ⟨z, rfl⟩ := hw; exact g2 z.d z.f z.os) ?_
        refine wpQuiet_nil ?_
        clear f0 f1 g1 g2
        refine wpPlan_one ?_
        simp only [pickOps, List.getElem?_cons_succ, List.getElem?_cons_zero]
        have HXD := Lib.hid (HE.out.trans (Ext.drewN wr 1))
        go_wp2_with fail
        refine thenX_last (wpPlan_done ?_)
        go_wp2_with fail
        go_roundw
        case rel => exact ⟨k + 1, by omega, by go_num, HXD⟩
        case measure => simp [RowKit.intOf]; omega
      · obtain rfl : k = tn := by omega
        go_wp2_with fail
        go_ret
        exact ⟨rfl, HX.out.trans HE.out⟩
end Go.Proofs.YtgdgjnecgelalaaGreatDoor
