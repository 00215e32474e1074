/- tidemillref18.within, Bytes. -/
import Derived.Test.YtgdgjnecgelalaaGreatDoorMr1
import Derived.Test.YtgdgjnecgelalaaGreatDoorMgc
namespace Go.Proofs.YtgdgjnecgelalaaGreatDoor
open Go.RowKit Go.Sort Go.Lib

set_option maxHeartbeats 2000000 in
theorem ref18num_b {w0 w : World} {l : List UInt8} {n c : Nat} {a : Option Addr} (z : Int) (hB : Buf w0 l n a c w) (hn : n ≤ 70368744177664) :
    Calls Tryz.prog 94 #[.slice a n c, .int .i64 z] w (PutB w0 w (l ++ varP (u64n z)) (n + 10)) := by
  have HB := Lib.hid hB
  clear hB
  go_enter Tryz.func94, Tryz.ntmps94
  go_wp2_with fail
  refine (ref3Put_b (u64n z) (u64n_wrap z) (u64n_lt z) HB.out hn).mono ?_
  rintro e w1 ⟨a1, c1, n1, rfl, hB1, hx1, hn1, ho1⟩
  have HP := Lib.hid (show PutB w0 w (l ++ varP (u64n z)) (n + 10) (.returned (.slice a1 n1 c1)) w1 from ⟨a1, c1, n1, rfl, hB1, hx1, hn1, ho1⟩)
  clear hB1 hx1 hn1 ho1
  go_wp2_with fail
  go_ret
  exact HP.out

set_option maxHeartbeats 16000000 in
set_option maxRecDepth 100000 in
theorem ref18within_any (w : World) (s : Sta) (fa ta : Option Addr) (fn fc tn tc : Nat) (hs : StIn w s fa fn fc ta tn tc) (hr : staR s = true) :
    Calls Tryz.prog 58 #[.agg (staC s fa fn fc ta tn tc)] w fun e w' => ∃ a n c, e = .returned (.slice a n c) ∧ Buf w (staP s) n a c w' ∧ n ≤ 100000 := by
  have HS := Lib.hid hs
  have HFN := Lib.hid (fls_src_len hs.fl)
  have HTN := Lib.hid (trs_src_len hs.ti)
  have HP := Lib.hid (staR_parts hr)
  clear hs hr
  obtain ⟨x, r, q, ⟨b, t, g⟩, fl, ti⟩ := s
  go_enter Tryz.func58, Tryz.ntmps58
  go_upto_region 1 with fail
  generalize hW : World.alloc _ _ = W
  have HX0 : Hid (Ext w W) := Lib.hid (by subst hW; exact (Ext.refl w).alloc _)
  have HBX : Hid (W.heap[w.heap.size]? = some (.cells #[.int .i64 x, .int .i64 r, .int .i64 q, .bool b, .int .i64 t, .int .i64 g, .slice fa fn fc, .slice ta tn tc] 47 (0, 0))) := Lib.hid (by subst hW; exact heap_alloc_new w _)
  clear hW
  have HBB := Lib.hid ((Buf.nil w).ext HX0.out)
  have f0 := cell_turned (T := fun _ => false) (cell_of_block HBX.out 0) rfl
  have f1 := cell_turned (T := fun _ => false) (cell_of_block HBX.out 1) rfl
  have f2 := cell_turned (T := fun _ => false) (cell_of_block HBX.out 2) rfl
  go_wp2_with fail
  refine wp_region_plan 8 (fun w' => ∃ p : Turned, w' = turned W (fun _ => false) p.d p.f p.os) (.reads [0, 1, 3, 4, 6, 7] (.one 2 (.one 5 (.one 8 (.one 9 .done))))) (by kernel_rfl) (by kernel_rfl) (fun _ _ dd _ _ hh => by cases dd <;> exact hh) ?_ ?_
  · exact turned_of_ext (Ext.drewN W 1)
  refine wpPlan_reads ?_
  simp only [pickOps, List.getElem?_cons_succ, List.getElem?_cons_zero]
  iterate 6 (go_big_quiet_step (fail))
  refine wpQuiet_nil ?_
  clear f0 f1 f2
  replace HBX := Lib.hid ((Ext.drewN W 1).keep HBX.out)
  have HXD := Lib.hid (Ext.drewN W 1)
  refine wpPlan_one ?_
  simp only [pickOps, List.getElem?_cons_succ, List.getElem?_cons_zero]
  go_wp2_with fail
  refine (ref18num_b x (HBB.out.ext HXD.out) (by omega)).mono ?_
  rintro e w1 ⟨a1, c1, n1, rfl, hB, hx, hn1, -⟩
  have HB1 := Lib.hid hB
  have HX1 := Lib.hid (HXD.out.trans hx)
  replace HBX := Lib.hid (hx.keep HBX.out)
  clear hB hx HBB
  go_wp2_with fail
  refine thenX_mk (turned_of_ext HX1.out) (wpPlan_one ?_)
  simp only [pickOps, List.getElem?_cons_succ, List.getElem?_cons_zero]
  go_wp2_with fail
  refine (ref18num_b r HB1.out (by omega)).mono ?_
  rintro e w2 ⟨a2, c2, n2, rfl, hB, hx, hn2, -⟩
  have HB2 := Lib.hid hB
  have HX2 := Lib.hid (HX1.out.trans hx)
  replace HBX := Lib.hid (hx.keep HBX.out)
  clear hB hx HB1
  go_wp2_with fail
  refine thenX_mk (turned_of_ext HX2.out) (wpPlan_one ?_)
  simp only [pickOps, List.getElem?_cons_succ, List.getElem?_cons_zero]
  go_wp2_with fail
  refine (ref18num_b q HB2.out (by omega)).mono ?_
  rintro e w3 ⟨a3, c3, n3, rfl, hB, hx, hn3, -⟩
  have HBB := Lib.hid hB
  replace HBX := Lib.hid (hx.keep HBX.out)
  clear hB hx HB2 HX1 HX2 HXD
  go_wp2_with fail
  refine thenX_last (wpPlan_one ?_)
  simp only [pickOps, List.getElem?_cons_succ, List.getElem?_cons_zero]
  go_wp2_with fail
  refine thenX_last (wpPlan_done ?_)
  have hn3' : n3 ≤ 30 := by omega
  clear hn1 hn2 hn3
  have c3' := cell_of_block HBX.out 3
  have c4 := cell_of_block HBX.out 4
  have c5 := cell_of_block HBX.out 5
  go_wp2_with fail
  clear c3'
  refine (ref17Put_b ⟨b, t, g⟩ HS.out.ok HBB.out (by omega)).mono ?_
  (
      rintro e wn ⟨a', c', n', rfl, hB, hx, hn, -⟩
      have HBB' := Lib.hid hB
      replace HBX := Lib.hid (hx.keep HBX.out)
      have HN' := Lib.hid hn
      clear hB hx hn HBB
      have HBB := HBB'
      clear HBB'
      (try clear c0 c1 c2 c3 c4 c5 c6 c7)
      have c3 := cell_of_block HBX.out 3
      have c4 := cell_of_block HBX.out 4
      have c5 := cell_of_block HBX.out 5
      have c6 := cell_of_block HBX.out 6
      have c7 := cell_of_block HBX.out 7)
  go_wp2_with fail
  have k1 : n' ≤ 60 := by have := HN'.out; omega
  clear HN'
  refine (ref18num_b (fn : Int) HBB.out (by omega)).mono ?_
  (
      rintro e wn ⟨a', c', n', rfl, hB, hx, hn, -⟩
      have HBB' := Lib.hid hB
      replace HBX := Lib.hid (hx.keep HBX.out)
      have HN' := Lib.hid hn
      clear hB hx hn HBB
      have HBB := HBB'
      clear HBB'
      (try clear c0 c1 c2 c3 c4 c5 c6 c7)
      have c3 := cell_of_block HBX.out 3
      have c4 := cell_of_block HBX.out 4
      have c5 := cell_of_block HBX.out 5
      have c6 := cell_of_block HBX.out 6
      have c7 := cell_of_block HBX.out 7)
  have k2 : n' ≤ 70 := by have := HN'.out; omega
  clear HN' k1
  obtain ⟨L1, hL1⟩ : ∃ L, L = [] ++ varP (u64n x) ++ varP (u64n r) ++ varP (u64n q) ++ markP ⟨b, t, g⟩ ++ varP (u64n (fn : Int)) := ⟨_, rfl⟩
  rw [← hL1] at HBB
  have HL1 := Lib.hid hL1
  clear hL1
  go_upto_block 0 with fail
  go_cut [3] (fun s3 wx => ∃ a n c, s3 = .slice a n c ∧ Hid (Buf w (L1 ++ fl.flatMap filP) n a c wx) ∧ n ≤ 60000 ∧ Hid (Ext wn wx))
  case first =>
    go_wp2_with fail
    go_loopw [4, 3] (fun i sb wr => ∃ (k : Nat) (a : Option Addr) (n c : Nat), k ≤ fn ∧ i = .int .i64 k ∧ sb = .slice a n c ∧ Hid (Buf w (L1 ++ (fl.take k).flatMap filP) n a c wr) ∧ n ≤ 70 + 104 * k ∧ Hid (Ext wn wr)) (fun i _ _ => fn - (RowKit.intOf i).toNat)
    case atStart => exact ⟨0, _, _, _, by omega, rfl, rfl, Lib.hid (by have h := HBB.out; simp only [List.take_zero, List.flatMap_nil, List.append_nil]; exact h), by omega, Lib.hid (Ext.refl _)⟩
    case round =>
      obtain ⟨k, a4, n4, c4', hk, rfl, rfl, HK, hn4, HC⟩ := hrel
      have HBY := Lib.hid (HC.out.keep HBX.out)
      clear c3 c4 c5 c6 c7
      have c6 := cell_of_block HBY.out 6
      by_cases hlt : k < fn
      · obtain ⟨fb, fo, p, rfl, hp, p0, p1, p2, p3⟩ := fls_src (HS.out.fl.ext HK.out.made.ext) hlt
        have hpm := (HP.out.2.2.1) p (List.mem_of_getElem? hp)
        have HPM := Lib.hid (flR_parts hpm)
        have HK5 := Lib.hid (HP.out.1)
        have hk512 : k ≤ 512 := by have := HFN.out; have := HK5.out; simp only at *; omega
        have HNX : Hid (L1 ++ (fl.take k).flatMap filP ++ txtP p.nm ++ varP (zig p.a) ++ varP (zig p.b) ++ varP (u64n p.k) = L1 ++ (fl.take (k + 1)).flatMap filP) := Lib.hid (by
          rw [List.take_add_one, (show fl[k]? = some p from hp)]
          simp [filP, List.append_assoc])
        clear hpm hp
        go_upto_region 8 with fail
        obtain ⟨f, hf⟩ : ∃ f, f = wr.heap.size := ⟨_, rfl⟩
        have HFX : Hid ((wr.alloc (.cells #[.string p.nm, .int .i64 p.a, .int .i64 p.b, .int .i64 p.k] 88 (0, 0))).heap[f]? = some (.cells #[.string p.nm, .int .i64 p.a, .int .i64 p.b, .int .i64 p.k] 88 (0, 0))) := Lib.hid (by rw [hf]; exact heap_alloc_new wr _)
        have HXA := Lib.hid ((Ext.refl wr).alloc (.cells #[.string p.nm, .int .i64 p.a, .int .i64 p.b, .int .i64 p.k] 88 (0, 0)))
        rw [← hf]
        clear hf p0 p1 p2 p3 c6
        generalize wr.alloc _ = wa at *
        have HKA := Lib.hid (HK.out.ext HXA.out)
        have HCA := Lib.hid (HC.out.trans HXA.out)
        clear HK HXA
        have f0 := cell_of_block HFX.out 0
        go_wp2_with fail
        have q1 := HPM.out.1
        refine (ref3PutText_b p.nm (by omega) HKA.out (by omega)).mono ?_
        rintro e w2' ⟨a5, c5', n5, rfl, hB, hx, hn5, -⟩
        have HB5 := Lib.hid hB
        have HC5 := Lib.hid (HCA.out.trans hx)
        replace HFX := Lib.hid (hx.keep HFX.out)
        clear hB hx f0 HKA HCA
        have f1 := cell_of_block HFX.out 1
        go_wp2_with fail
        have q2 := HPM.out.2.1
        refine (ref3PutInt_b p.a (by omega) (by omega) HB5.out (by omega)).mono ?_
        rintro e w3' ⟨a6, c6', n6, rfl, hB, hx, hn6, -⟩
        have HB6 := Lib.hid hB
        have HC6 := Lib.hid (HC5.out.trans hx)
        replace HFX := Lib.hid (hx.keep HFX.out)
        clear hB hx f1 HB5 HC5
        have f2 := cell_of_block HFX.out 2
        go_wp2_with fail
        have q3 := HPM.out.2.2.1
        refine (ref3PutInt_b p.b (by omega) (by omega) HB6.out (by omega)).mono ?_
        rintro e w4' ⟨a7, c7', n7, rfl, hB, hx, hn7, -⟩
        have HB7 := Lib.hid hB
        have HC7 := Lib.hid (HC6.out.trans hx)
        replace HFX := Lib.hid (hx.keep HFX.out)
        clear hB hx f2 HB6 HC6
        have f3 := cell_of_block HFX.out 3
        go_wp2_with fail
        refine (ref18num_b p.k HB7.out (by omega)).mono ?_
        rintro e w5' ⟨a8, c8', n8, rfl, hB, hx, hn8, -⟩
        rw [HNX.out] at hB
        have HB8 := Lib.hid hB
        have HC8 := Lib.hid (HC7.out.trans hx)
        clear hB hx f3 HB7 HC7 HFX HNX
        go_wp2_with fail
        go_roundw
        case rel => exact ⟨k + 1, _, _, _, by omega, by go_num, rfl, HB8, by omega, HC8⟩
        case measure => simp [RowKit.intOf]; omega
      · obtain rfl : k = fn := by omega
        have hFL : Hid (L1 ++ (fl.take k).flatMap filP = L1 ++ fl.flatMap filP) := Lib.hid (by rw [List.take_of_length_le (by rw [HFN.out]; exact Nat.le_refl _)])
        rw [hFL.out] at HK
        have HK5 := Lib.hid (HP.out.1)
        have hk512 : k ≤ 512 := by have := HFN.out; have := HK5.out; omega
        go_wp2_with fail
        go_meet
        case rel => exact ⟨_, _, _, rfl, HK, by omega, HC⟩
  case rest =>
    obtain ⟨a9, n9, c9, rfl, HBB9, k9, HE0⟩ := hcut
    replace HBX := Lib.hid (HE0.out.keep HBX.out)
    clear HBB c3 c4 c5 c6 c7 HE0
    have HBB := HBB9
    clear HBB9
    have c7 := cell_of_block HBX.out 7
    go_wp2_with fail
    refine (ref18num_b (tn : Int) HBB.out (by omega)).mono ?_
    (
        rintro e wn ⟨a', c', n', rfl, hB, hx, hn, -⟩
        have HBB' := Lib.hid hB
        replace HBX := Lib.hid (hx.keep HBX.out)
        have HN' := Lib.hid hn
        clear hB hx hn HBB
        have HBB := HBB'
        clear HBB'
        (try clear c0 c1 c2 c3 c4 c5 c6 c7)
        have c3 := cell_of_block HBX.out 3
        have c4 := cell_of_block HBX.out 4
        have c5 := cell_of_block HBX.out 5
        have c6 := cell_of_block HBX.out 6
        have c7 := cell_of_block HBX.out 7)
    have k2' : n' ≤ 60010 := by have := HN'.out; omega
    clear HN'
    have HLL : Hid (L1 ++ fl.flatMap filP ++ varP (u64n (tn : Int)) ++ ti.flatMap tirP = staP ⟨x, r, q, ⟨b, t, g⟩, fl, ti⟩) := Lib.hid (by rw [HL1.out]; simp [staP, HFN.out, HTN.out])
    generalize L1 ++ fl.flatMap filP ++ varP (u64n (tn : Int)) = L3 at *
    clear HL1 c3 c4 c5 c6
    go_wp2_with fail
    go_loopw [6, 3] (fun i sb wr => ∃ (k : Nat) (a : Option Addr) (n c : Nat), k ≤ tn ∧ i = .int .i64 k ∧ sb = .slice a n c ∧ Hid (Buf w (L3 ++ (ti.take k).flatMap tirP) n a c wr) ∧ n ≤ 60010 + 114 * k ∧ Hid (Ext wn wr)) (fun i _ _ => tn - (RowKit.intOf i).toNat)
    case atStart => exact ⟨0, _, _, _, by omega, rfl, rfl, Lib.hid (by have h := HBB.out; simp only [List.take_zero, List.flatMap_nil, List.append_nil]; exact h), by omega, Lib.hid (Ext.refl _)⟩
    case round =>
      obtain ⟨k, a4, n4, c4', hk, rfl, rfl, HK, hn4, HC⟩ := hrel
      have HBY := Lib.hid (HC.out.keep HBX.out)
      clear c7
      have c7 := cell_of_block HBY.out 7
      by_cases hlt : k < tn
      · obtain ⟨fb, fo, p, rfl, hp, p0, p1, p2, p3, p4⟩ := trs_src (HS.out.ti.ext HK.out.made.ext) hlt
        have hpm := (HP.out.2.2.2) p (List.mem_of_getElem? hp)
        have HPM := Lib.hid (trR_parts hpm)
        have HK5 := Lib.hid (HP.out.2.1)
        have hk512 : k ≤ 4 := by have := HTN.out; have := HK5.out; simp only at *; omega
        have HNX : Hid (L3 ++ (ti.take k).flatMap tirP ++ tirP p = L3 ++ (ti.take (k + 1)).flatMap tirP) := Lib.hid (by
          rw [List.take_add_one, (show ti[k]? = some p from hp)]
          simp [List.append_assoc])
        clear hpm hp
        go_upto_region 17 with fail
        obtain ⟨f, hf⟩ : ∃ f, f = wr.heap.size := ⟨_, rfl⟩
        have HFX : Hid ((wr.alloc (.cells #[.int .i64 p.w, .int .i64 p.o, .int .i64 p.u, .bool p.m, .string p.f] 89 (0, 0))).heap[f]? = some (.cells #[.int .i64 p.w, .int .i64 p.o, .int .i64 p.u, .bool p.m, .string p.f] 89 (0, 0))) := Lib.hid (by rw [hf]; exact heap_alloc_new wr _)
        have HXA := Lib.hid ((Ext.refl wr).alloc (.cells #[.int .i64 p.w, .int .i64 p.o, .int .i64 p.u, .bool p.m, .string p.f] 89 (0, 0)))
        rw [← hf]
        clear hf p0 p1 p2 p3 p4 c7
        generalize wr.alloc _ = wa at *
        have HKA := Lib.hid (HK.out.ext HXA.out)
        have HCA := Lib.hid (HC.out.trans HXA.out)
        clear HK HXA
        obtain ⟨pw, po, pu, pm, pf⟩ := p
        simp only at *
        have f0 := cell_turned (T := fun _ => false) (cell_of_block HFX.out 0) rfl
        have f1 := cell_turned (T := fun _ => false) (cell_of_block HFX.out 1) rfl
        refine wp_region_plan 6 (fun w' => ∃ p : Turned, w' = turned wa (fun _ => false) p.d p.f p.os) (.reads [0, 1, 2, 4, 5] (.one 3 (.one 6 (.one 7 .done)))) (by kernel_rfl) (by kernel_rfl) (fun _ _ dd _ _ hh => by cases dd <;> exact hh) ?_ ?_
        · exact turned_of_ext (Ext.drewN wa 1)
        refine wpPlan_reads ?_
        simp only [pickOps, List.getElem?_cons_succ, List.getElem?_cons_zero]
        iterate 5 (go_big_quiet_step (fail))
        refine wpQuiet_nil ?_
        clear f0 f1
        refine wpPlan_one ?_
        simp only [pickOps, List.getElem?_cons_succ, List.getElem?_cons_zero]
        go_wp2_with fail
        refine (ref18num_b pw (HKA.out.ext (Ext.drewN wa 1)) (by omega)).mono ?_
        rintro e w2' ⟨a5, c5', n5, rfl, hB, hx, hn5, -⟩
        have HB5 := Lib.hid hB
        have HX5 := Lib.hid ((Ext.drewN wa 1).trans hx)
        clear hB hx HKA
        go_wp2_with fail
        refine thenX_mk (turned_of_ext HX5.out) (wpPlan_one ?_)
        simp only [pickOps, List.getElem?_cons_succ, List.getElem?_cons_zero]
        go_wp2_with fail
        refine (ref18num_b po HB5.out (by omega)).mono ?_
        rintro e w3' ⟨a6, c6', n6, rfl, hB, hx, hn6, -⟩
        have HB6 := Lib.hid hB
        have HC6 := Lib.hid ((HCA.out.trans HX5.out).trans hx)
        replace HFX := Lib.hid ((HX5.out.trans hx).keep HFX.out)
        clear hB hx HB5 HX5 HCA
        go_wp2_with fail
        refine thenX_last (wpPlan_one ?_)
        simp only [pickOps, List.getElem?_cons_succ, List.getElem?_cons_zero]
        go_wp2_with fail
        refine thenX_last (wpPlan_done ?_)
        have f3 := cell_of_block HFX.out 3
        cases pm
        · have HNY : Hid (L3 ++ (ti.take k).flatMap tirP ++ varP (u64n pw) ++ varP (u64n po) ++ varP (u64n 0) = L3 ++ (ti.take (k + 1)).flatMap tirP) := Lib.hid (by rw [← HNX.out]; simp [tirP])
          clear HNX
          go_wp2_with fail
          refine (ref18num_b 0 HB6.out (by omega)).mono ?_
          rintro e w5' ⟨a8, c8', n8, rfl, hB, hx, hn8, -⟩
          rw [HNY.out] at hB
          have HB8 := Lib.hid hB
          have HC8 := Lib.hid (HC6.out.trans hx)
          clear hB hx f3 HB6 HC6 HFX HNY
          go_wp2_with fail
          go_roundw
          case rel => exact ⟨k + 1, _, _, _, by omega, by go_num, rfl, HB8, by omega, HC8⟩
          case measure => simp [RowKit.intOf]; omega
        · have HNY : Hid (L3 ++ (ti.take k).flatMap tirP ++ varP (u64n pw) ++ varP (u64n po) ++ varP (u64n 1) ++ varP (zig pu) ++ txtP pf = L3 ++ (ti.take (k + 1)).flatMap tirP) := Lib.hid (by rw [← HNX.out]; simp [tirP])
          clear HNX
          obtain ⟨hfs, hu0, hu1⟩ : pf.size ≤ 64 ∧ -1152921504606846976 ≤ pu ∧ pu ≤ 1152921504606846976 := by have := HPM.out.2.2.2.2 (by trivial); omega
          go_upto_region 20 with fail
          clear f3
          have f2 := cell_turned (T := fun _ => false) (cell_of_block HFX.out 2) rfl
          go_wp2_with fail
          refine wp_region_plan 4 (fun w' => ∃ p : Turned, w' = turned w3' (fun _ => false) p.d p.f p.os) (.reads [0, 2, 3] (.one 1 (.one 4 (.one 5 .done)))) (by kernel_rfl) (by kernel_rfl) (fun _ _ dd _ _ hh => by cases dd <;> exact hh) ?_ ?_
          · exact turned_of_ext (Ext.drewN w3' 1)
          refine wpPlan_reads ?_
          simp only [pickOps, List.getElem?_cons_succ, List.getElem?_cons_zero]
          iterate 3 (go_big_quiet_step (fail))
          refine wpQuiet_nil ?_
          clear f2
          refine wpPlan_one ?_
          simp only [pickOps, List.getElem?_cons_succ, List.getElem?_cons_zero]
          go_wp2_with fail
          refine (ref18num_b 1 (HB6.out.ext (Ext.drewN w3' 1)) (by omega)).mono ?_
          rintro e w4' ⟨a7, c7', n7, rfl, hB, hx, hn7, -⟩
          have HB7 := Lib.hid hB
          have HX7 := Lib.hid ((Ext.drewN w3' 1).trans hx)
          clear hB hx HB6
          go_wp2_with fail
          refine thenX_mk (turned_of_ext HX7.out) (wpPlan_one ?_)
          simp only [pickOps, List.getElem?_cons_succ, List.getElem?_cons_zero]
          go_wp2_with fail
          refine (ref3PutInt_b pu (by omega) (by omega) HB7.out (by omega)).mono ?_
          rintro e w5' ⟨a8, c8', n8, rfl, hB, hx, hn8, -⟩
          have HB8 := Lib.hid hB
          have HC8 := Lib.hid ((HC6.out.trans HX7.out).trans hx)
          replace HFX := Lib.hid ((HX7.out.trans hx).keep HFX.out)
          clear hB hx HB7 HX7 HC6
          go_wp2_with fail
          refine thenX_last (wpPlan_one ?_)
          simp only [pickOps, List.getElem?_cons_succ, List.getElem?_cons_zero]
          go_wp2_with fail
          refine thenX_last (wpPlan_done ?_)
          have f4 := cell_of_block HFX.out 4
          go_wp2_with fail
          refine (ref3PutText_b pf (by omega) HB8.out (by omega)).mono ?_
          rintro e w6' ⟨a9, c9', n9, rfl, hB, hx, hn9, -⟩
          rw [HNY.out] at hB
          have HB9 := Lib.hid hB
          have HC9 := Lib.hid (HC8.out.trans hx)
          clear hB hx f4 HB8 HC8 HFX HNY
          go_wp2_with fail
          go_roundw
          case rel => exact ⟨k + 1, _, _, _, by omega, by go_num, rfl, HB9, by omega, HC9⟩
          case measure => simp [RowKit.intOf]; omega
      · obtain rfl : k = tn := by omega
        have hFL : Hid (L3 ++ (ti.take k).flatMap tirP = staP ⟨x, r, q, ⟨b, t, g⟩, fl, ti⟩) := Lib.hid (by rw [List.take_of_length_le (by rw [HTN.out]; exact Nat.le_refl _)]; exact HLL.out)
        rw [hFL.out] at HK
        have HK5 := Lib.hid (HP.out.2.1)
        have hk512 : k ≤ 4 := by have := HTN.out; have := HK5.out; omega
        go_wp2_with fail
        go_ret
        exact ⟨_, _, _, rfl, HK.out, by omega⟩

set_option maxHeartbeats 4000000 in
set_option maxRecDepth 100000 in
theorem ref18Bytes_any (w : World) (s : Sta) (fa ta : Option Addr) (fn fc tn tc : Nat) (hs : StIn w s fa fn fc ta tn tc) :
    Calls Tryz.prog 33 #[.agg (staC s fa fn fc ta tn tc)] w (BytesTo w s) := by
  have HS := Lib.hid hs
  have HRT := Lib.hid (fun W (hx : Ext w W) => ref18Right_any W s fa ta fn fc tn tc (hs.ext hx))
  have HWI := Lib.hid (fun W (hx : Ext w W) (hr : staR s = true) => ref18within_any W s fa ta fn fc tn tc (hs.ext hx) hr)
  obtain ⟨R, hR⟩ : ∃ R, R = staR s := ⟨_, rfl⟩
  have HB : Hid (∀ e w', (if R = true then SealPost w 7 (staP s) e w' else e = .returned (.tuple #[.slice none 0 0, .int .i64 2]) ∧ Ext w w') → BytesTo w s e w') := Lib.hid (fun e w' h => by unfold BytesTo; rw [← hR]; exact h)
  rw [← hR] at HRT HWI
  clear hs hR
  obtain ⟨x, r, q, ⟨b, t, g⟩, fl, ti⟩ := s
  go_enter Tryz.func33, Tryz.ntmps33
  go_wp2_with fail
  generalize hW : World.alloc _ _ = W
  have HX0 : Hid (Ext w W) := Lib.hid (by subst hW; exact (Ext.refl w).alloc _)
  have HBX : Hid (W.heap[w.heap.size]? = some (.cells #[.int .i64 x, .int .i64 r, .int .i64 q, .bool b, .int .i64 t, .int .i64 g, .slice fa fn fc, .slice ta tn tc] 47 (0, 0))) := Lib.hid (by subst hW; exact heap_alloc_new w _)
  clear hW
  refine (HRT.out W HX0.out).mono ?_
  rintro e w1 ⟨rfl, hx⟩
  have HX := Lib.hid (HX0.out.trans hx)
  replace HBX := Lib.hid (hx.keep HBX.out)
  clear hx HX0 HRT
  cases R
  · go_wp2_with fail
    refine bodyPost_ret (v := .tuple #[.slice none 0 0, .int .i64 2]) (by simp [results, Tryz.results33, go_sem]) rfl (HB.out (.returned (.tuple #[.slice none 0 0, .int .i64 2])) _ (by first | (rw [if_neg (by simp)]; exact ⟨rfl, HX.out⟩) | (simp; exact HX.out)))
  · have c0 := cell_of_block HBX.out 0
    have c1 := cell_of_block HBX.out 1
    have c2 := cell_of_block HBX.out 2
    have c3 := cell_of_block HBX.out 3
    have c4 := cell_of_block HBX.out 4
    have c5 := cell_of_block HBX.out 5
    have c6 := cell_of_block HBX.out 6
    have c7 := cell_of_block HBX.out 7
    go_wp2_with fail
    refine (HWI.out w1 HX.out (by trivial)).mono ?_
    rintro e w2 ⟨a, n, c, rfl, hB, hn⟩
    have HBF := Lib.hid hB
    clear hB HWI c0 c1 c2 c3 c4 c5 c6 c7
    go_wp2_with fail
    have HSE : Calls Tryz.prog 57 #[.int .u8 7, .slice a n c] w2 (SealPost w2 7 (staP ⟨x, r, q, ⟨b, t, g⟩, fl, ti⟩)) := ref4seal_any w2 7 a n c _ HBF.out.src (by omega)
    refine HSE.mono ?_
    rintro e wz ⟨a', c', rfl, hM⟩
    have HM := Lib.hid (HB.out _ _ (by rw [if_pos (by trivial)]; exact ⟨a', c', rfl, (hM.trans HBF.out.made.ext).trans HX.out⟩))
    clear HSE hM
    go_wp2_with fail
    go_ret2
    exact HM.out
end Go.Proofs.YtgdgjnecgelalaaGreatDoor
