/- Water marks: read (the document's). -/
import Derived.Test.YtgdgjnecgelalaaGreatDoorWtd
namespace Go.Proofs.YtgdgjnecgelalaaGreatDoor
open Go.RowKit Go.Sort Go.Lib

theorem mark17_info : (Tryz.prog.info? 43).map (·.size) = some 3 := by kernel_rfl

set_option maxHeartbeats 8000000 in
set_option maxRecDepth 100000 in
theorem ref17Read_any (w : World) (a : Option Addr) (n c : Nat) (l : List UInt8) (hl : SlB w a n c l) :
    Calls Tryz.prog 74 #[.slice a n c] w (MarkTo w (markR l)) := by
  have HL := Lib.hid hl
  have hlen := hl.len
  have hv := varR_bounds l
  obtain ⟨u, k, x, hV⟩ : ∃ u k x, varR l = (u, k, x) := ⟨_, _, _, rfl⟩
  have HR : Hid (markR l = if x ≠ 0 then markE x else markC l (i64n u) k) := Lib.hid (by unfold markR; rw [hV])
  have HV := Lib.hid hV
  rw [hV] at hv
  obtain ⟨hv1, hv2, hv3, -⟩ := hv
  simp only at hv1 hv2 hv3
  have hkn : k ≤ n := by omega
  have HLEN := Lib.hid hlen
  clear hV hl hlen hv2
  by_cases hx : x = 0
  · subst hx
    have HR1 : Hid (markR l = markC l (i64n u) k) := Lib.hid (by rw [HR.out, if_neg (by simp)])
    have HSL := Lib.hid (HL.out.cut hkn)
    have hs1 := run_slice_lo Tryz.underlying56 sz_u8 a n c k hkn
    have hv := varR_bounds (l.drop k)
    obtain ⟨f, j, y, hV⟩ : ∃ f j y, varR (l.drop k) = (f, j, y) := ⟨_, _, _, rfl⟩
    have HC : Hid (markC l (i64n u) k = if y ≠ 0 then markE y else if f = 0 then markIf ⟨false, 0, i64n u⟩ (k + j) else if f = 1 then markD l (i64n u) (k + j) else markE 11) := Lib.hid (by unfold markC; rw [hV])
    have HV2 := Lib.hid hV
    rw [hV] at hv
    obtain ⟨hw1, hw2, hw3, -⟩ := hv
    simp only at hw1 hw2 hw3
    rw [List.length_drop, HLEN.out] at hw2
    have hjn : k + j ≤ n := by omega
    have HSL2 := Lib.hid (HL.out.cut hjn)
    have hs2 : ∀ W, (Instr.slice 56 (.slice a n c) (some (.int .i64 ((k : Int) + (j : Int)))) none none).run Tryz.prog W = .ok (.slice (cutA a c (k + j)) (n - (k + j)) (c - (k + j))) W := fun W => by
      have := run_slice_lo Tryz.underlying56 sz_u8 a n c (k + j) hjn W
      rw [Int.natCast_add] at this
      exact this
    have HI : Hid (wrap64 (u : Int) = i64n u) := Lib.hid rfl
    generalize i64n u = g at *
    have hgw := HI.out
    clear hV hw2 HR HI
    have hkj : (k : Int) + (j : Int) = ((k + j : Nat) : Int) := by omega
    have HKJ := Lib.hid hkj
    clear hkj
    generalize cutA a c k = a1 at *
    generalize n - k = n1 at *
    generalize c - k = c1 at *
    generalize cutA a c (k + j) = a2 at *
    generalize n - (k + j) = n2 at *
    generalize c - (k + j) = c2 at *
    by_cases hy : y = 0
    · subst hy
      by_cases hf : f = 1
      · subst hf
        have HR2 : Hid (markR l = markD l g (k + j)) := Lib.hid (by rw [HR1.out, HC.out, if_neg (by simp), if_neg (by simp), if_pos rfl])
        clear HR1 HC
        have hv := varR_bounds (l.drop (k + j))
        obtain ⟨t, m, z, hV⟩ : ∃ t m z, varR (l.drop (k + j)) = (t, m, z) := ⟨_, _, _, rfl⟩
        have HC : Hid (markD l g (k + j) = if z ≠ 0 then markE z else markIf ⟨true, zag t, g⟩ (k + j + m)) := Lib.hid (by unfold markD; rw [hV])
        rw [hV] at hv
        obtain ⟨hw1, -, hw3, -⟩ := hv
        simp only at hw1 hw3
        have HV3 := Lib.hid hV
        clear hV
        have HSUM : Hid ((k : Int) + (j : Int) + (m : Int) = ((k + j + m : Nat) : Int)) := Lib.hid (by omega)
        obtain ⟨zt, hzt⟩ : ∃ zt, zt = zag t := ⟨_, rfl⟩
        rw [← hzt] at HC
        have HZT := Lib.hid hzt
        clear hzt
        (
            go_enter Tryz.func74, Tryz.ntmps74
            go_wp2_with fail
            refine (ref3Read_any _ a n c l (HL.out.src.ext ((Ext.refl w).alloc _)) HL.out.few).mono ?_
            rw [HV.out]
            have HBX := Lib.hid (heap_alloc_new w (.cells #[.bool false, .int .i64 0, .int .i64 0] 43 (0, 0)))
            have HX := Lib.hid ((Ext.refl w).alloc (.cells #[.bool false, .int .i64 0, .int .i64 0] 43 (0, 0)))
            generalize w.alloc _ = w1 at *
            rintro e' wn ⟨rfl, rfl⟩
            go_wp2_with (first | (refine wpList_store_box rfl _ _ _ rfl _ _ _ _ rfl rfl HBX.out rfl mark17_info (by simp [Value.oneCell']) ?_; rintro wx hbx hcx; replace HBX := Lib.hid hbx; replace HX := Lib.hid (HX.out.stored hcx (Nat.le_refl _)); clear hbx hcx)))
        (
            refine (ref3Read_any _ a1 n1 c1 (l.drop k) (HSL.out.src.ext HX.out) HSL.out.few).mono ?_
            rw [HV2.out]
            rintro e' wn ⟨rfl, rfl⟩
            go_upto_region 9 with fail
            have HB3 := Lib.hid (heap_alloc_new w1 (.cells #[.bool false, .int .i64 0, .int .i64 g] 43 (0, 0)))
            have HLT := Lib.hid (block_lt HBX.out)
            have HSZ := Lib.hid HX.out.size
            replace HBX := Lib.hid (((Ext.refl w1).alloc (.cells #[.bool false, .int .i64 0, .int .i64 g] 43 (0, 0))).keep HBX.out)
            replace HX := Lib.hid (HX.out.trans ((Ext.refl w1).alloc (.cells #[.bool false, .int .i64 0, .int .i64 g] 43 (0, 0))))
            generalize w1.alloc _ = w2 at *
            have f0 := cell_of_block HB3.out 0
            have f1 := cell_of_block HB3.out 1
            have f2 := cell_of_block HB3.out 2)
        have z0 := free_of_block HB3.out 0
        go_upto_region 13 with fail
        replace HBX := Lib.hid (((setCell_chg w2 w1.heap.size 0 (.bool true)).block _ (block_lt HBX.out) (by have := HLT.out; omega)).trans HBX.out)
        replace HB3 := Lib.hid (setCell_block HB3.out (i := 0) (.bool true))
        replace HX := Lib.hid (HX.out.setCell (p := ⟨w1.heap.size, 0, none⟩) HSZ.out (.bool true))
        clear z0 f0 f1 f2
        generalize World.setCell _ _ _ = w3 at *
        have HB4 : Hid (w3.heap[w1.heap.size]? = some (.cells #[.bool true, .int .i64 0, .int .i64 g] 43 (0, 0))) := Lib.hid (by have := HB3.out; simpa using this)
        clear HB3
        go_wp2_with (first | (refine wpList_store_box rfl _ _ _ rfl _ _ _ _ rfl rfl HBX.out rfl mark17_info (by simp [Value.oneCell']) ?_; rintro wx hbx hcx; replace HBX := Lib.hid hbx; replace HX := Lib.hid (HX.out.stored hcx (Nat.le_refl _)); clear hbx hcx))
        refine (ref3ReadInt_any _ a2 n2 c2 (l.drop (k + j)) (HSL2.out.src.ext HX.out) HSL2.out.few).mono ?_
        rw [HV3.out]
        simp only
        rw [← HZT.out]
        rintro e' wn ⟨rfl, rfl⟩
        have f0 := cell_of_block HB4.out 0
        have f1 := cell_of_block HB4.out 1
        have f2 := cell_of_block HB4.out 2
        have z1 := free_of_block HB4.out 1
        go_upto_region 14 with fail
        replace HBX := Lib.hid (((setCell_chg w3 w1.heap.size 1 (.int .i64 zt)).block _ (block_lt HBX.out) (by have := HLT.out; omega)).trans HBX.out)
        replace HB4 := Lib.hid (setCell_block HB4.out (i := 1) (.int .i64 zt))
        replace HX := Lib.hid (HX.out.setCell (p := ⟨w1.heap.size, 1, none⟩) HSZ.out (.int .i64 zt))
        clear z1 f0 f1 f2
        generalize World.setCell _ _ _ = w4 at *
        have HB3 : Hid (w4.heap[w1.heap.size]? = some (.cells #[.bool true, .int .i64 zt, .int .i64 g] 43 (0, 0))) := Lib.hid (by have := HB4.out; simpa using this)
        clear HB4
        have f0 := cell_of_block HB3.out 0
        have f1 := cell_of_block HB3.out 1
        have f2 := cell_of_block HB3.out 2
        by_cases hz : z = 0
        · as_aux_lemma =>
            subst hz
            have HR3 : Hid (markR l = markIf ⟨true, zt, g⟩ (k + j + m)) := Lib.hid (by rw [HR2.out, HC.out, if_neg (by simp)])
            clear HR2 HC
            go_wp2_with (first | (refine wpList_store_box rfl _ _ _ rfl _ _ _ _ rfl rfl HBX.out rfl mark17_info (by simp [Value.oneCell']) ?_; rintro wx hbx hcx; replace HBX := Lib.hid hbx; replace HX := Lib.hid (HX.out.stored hcx (Nat.le_refl _)); clear hbx hcx))
            have HRI := Lib.hid (fun w5 => ref17Right_any ⟨true, zt, g⟩ w5)
            obtain ⟨R, hR⟩ : ∃ R, mkR ⟨true, zt, g⟩ = R := ⟨_, rfl⟩
            rw [hR] at HRI
            have HF : Hid (markR l = if R = true then (⟨true, zt, g⟩, k + j + m, 0) else markE 11) := Lib.hid (by rw [HR3.out]; unfold markIf; rw [hR])
            clear hR
            refine (HRI.out _).mono ?_
            cases R
            · (rintro e' wn ⟨rfl, hx1⟩; replace HBX := Lib.hid (hx1.keep HBX.out); replace HB3 := Lib.hid (hx1.keep HB3.out); replace HX := Lib.hid (HX.out.trans hx1); (try clear f0 f1 f2); have f0 := cell_of_block HB3.out 0; have f1 := cell_of_block HB3.out 1; have f2 := cell_of_block HB3.out 2; clear hx1)
              go_wp2_with (first | (refine wpList_store_box rfl _ _ _ rfl _ _ _ _ rfl rfl HBX.out rfl mark17_info (by simp [Value.oneCell']) ?_; rintro wx hbx hcx; replace HBX := Lib.hid hbx; replace HX := Lib.hid (HX.out.stored hcx (Nat.le_refl _)); clear hbx hcx))
              refine bodyPost_ret (results_box_tmp2 Tryz.results74 _ _ rfl HBX.out Tryz.underlying43 rfl mark17_info) rfl ⟨?_, HX.out⟩
              rw [HF.out]
              rfl
            · (rintro e' wn ⟨rfl, hx1⟩; replace HBX := Lib.hid (hx1.keep HBX.out); replace HB3 := Lib.hid (hx1.keep HB3.out); replace HX := Lib.hid (HX.out.trans hx1); (try clear f0 f1 f2); have f0 := cell_of_block HB3.out 0; have f1 := cell_of_block HB3.out 1; have f2 := cell_of_block HB3.out 2; clear hx1)
              go_wp2_with (first | (refine wpList_store_box rfl _ _ _ rfl _ _ _ _ rfl rfl HBX.out rfl mark17_info (by simp [Value.oneCell']) ?_; rintro wx hbx hcx; replace HBX := Lib.hid hbx; replace HX := Lib.hid (HX.out.stored hcx (Nat.le_refl _)); clear hbx hcx))
              refine bodyPost_ret (results_box_tmp2 Tryz.results74 _ _ rfl HBX.out Tryz.underlying43 rfl mark17_info) rfl ⟨?_, HX.out⟩
              rw [HF.out]
              show Ending.returned (.tuple #[_, .int .i64 ((k : Int) + (j : Int) + (m : Int)), _]) = _
              rw [HSUM.out]
              rfl
        · as_aux_lemma =>
            have HR3 : Hid (markR l = markE z) := Lib.hid (by rw [HR2.out, HC.out, if_pos hz])
            have hzn : (z != 0) = true := by simp [hz]
            clear HR2 HC hz
            go_wp2_with (first | (refine wpList_store_box rfl _ _ _ rfl _ _ _ _ rfl rfl HBX.out rfl mark17_info (by simp [Value.oneCell']) ?_; rintro wx hbx hcx; replace HBX := Lib.hid hbx; replace HX := Lib.hid (HX.out.stored hcx (Nat.le_refl _)); clear hbx hcx))
            refine bodyPost_ret (results_box_tmp2 Tryz.results74 _ _ rfl HBX.out Tryz.underlying43 rfl mark17_info) rfl ⟨?_, HX.out⟩
            rw [HR3.out]
            rfl
      · by_cases hf0 : f = 0
        · as_aux_lemma =>
            subst hf0
            have HR2 : Hid (markR l = markIf ⟨false, 0, g⟩ (k + j)) := Lib.hid (by rw [HR1.out, HC.out, if_neg (by simp), if_pos rfl])
            clear HR1 HC hf
            (
                go_enter Tryz.func74, Tryz.ntmps74
                go_wp2_with fail
                refine (ref3Read_any _ a n c l (HL.out.src.ext ((Ext.refl w).alloc _)) HL.out.few).mono ?_
                rw [HV.out]
                have HBX := Lib.hid (heap_alloc_new w (.cells #[.bool false, .int .i64 0, .int .i64 0] 43 (0, 0)))
                have HX := Lib.hid ((Ext.refl w).alloc (.cells #[.bool false, .int .i64 0, .int .i64 0] 43 (0, 0)))
                generalize w.alloc _ = w1 at *
                rintro e' wn ⟨rfl, rfl⟩
                go_wp2_with (first | (refine wpList_store_box rfl _ _ _ rfl _ _ _ _ rfl rfl HBX.out rfl mark17_info (by simp [Value.oneCell']) ?_; rintro wx hbx hcx; replace HBX := Lib.hid hbx; replace HX := Lib.hid (HX.out.stored hcx (Nat.le_refl _)); clear hbx hcx)))
            (
                refine (ref3Read_any _ a1 n1 c1 (l.drop k) (HSL.out.src.ext HX.out) HSL.out.few).mono ?_
                rw [HV2.out]
                rintro e' wn ⟨rfl, rfl⟩
                go_upto_region 9 with fail
                have HB3 := Lib.hid (heap_alloc_new w1 (.cells #[.bool false, .int .i64 0, .int .i64 g] 43 (0, 0)))
                have HLT := Lib.hid (block_lt HBX.out)
                have HSZ := Lib.hid HX.out.size
                replace HBX := Lib.hid (((Ext.refl w1).alloc (.cells #[.bool false, .int .i64 0, .int .i64 g] 43 (0, 0))).keep HBX.out)
                replace HX := Lib.hid (HX.out.trans ((Ext.refl w1).alloc (.cells #[.bool false, .int .i64 0, .int .i64 g] 43 (0, 0))))
                generalize w1.alloc _ = w2 at *
                have f0 := cell_of_block HB3.out 0
                have f1 := cell_of_block HB3.out 1
                have f2 := cell_of_block HB3.out 2)
            go_wp2_with (first | (refine wpList_store_box rfl _ _ _ rfl _ _ _ _ rfl rfl HBX.out rfl mark17_info (by simp [Value.oneCell']) ?_; rintro wx hbx hcx; replace HBX := Lib.hid hbx; replace HX := Lib.hid (HX.out.stored hcx (Nat.le_refl _)); clear hbx hcx))
            have HRI := Lib.hid (fun w5 => ref17Right_any ⟨false, 0, g⟩ w5)
            obtain ⟨R, hR⟩ : ∃ R, mkR ⟨false, 0, g⟩ = R := ⟨_, rfl⟩
            rw [hR] at HRI
            have HF : Hid (markR l = if R = true then (⟨false, 0, g⟩, k + j, 0) else markE 11) := Lib.hid (by rw [HR2.out]; unfold markIf; rw [hR])
            clear hR
            refine (HRI.out _).mono ?_
            cases R
            · (rintro e' wn ⟨rfl, hx1⟩; replace HBX := Lib.hid (hx1.keep HBX.out); replace HB3 := Lib.hid (hx1.keep HB3.out); replace HX := Lib.hid (HX.out.trans hx1); (try clear f0 f1 f2); have f0 := cell_of_block HB3.out 0; have f1 := cell_of_block HB3.out 1; have f2 := cell_of_block HB3.out 2; clear hx1)
              go_wp2_with (first | (refine wpList_store_box rfl _ _ _ rfl _ _ _ _ rfl rfl HBX.out rfl mark17_info (by simp [Value.oneCell']) ?_; rintro wx hbx hcx; replace HBX := Lib.hid hbx; replace HX := Lib.hid (HX.out.stored hcx (Nat.le_refl _)); clear hbx hcx))
              refine bodyPost_ret (results_box_tmp2 Tryz.results74 _ _ rfl HBX.out Tryz.underlying43 rfl mark17_info) rfl ⟨?_, HX.out⟩
              rw [HF.out]
              rfl
            · (rintro e' wn ⟨rfl, hx1⟩; replace HBX := Lib.hid (hx1.keep HBX.out); replace HB3 := Lib.hid (hx1.keep HB3.out); replace HX := Lib.hid (HX.out.trans hx1); (try clear f0 f1 f2); have f0 := cell_of_block HB3.out 0; have f1 := cell_of_block HB3.out 1; have f2 := cell_of_block HB3.out 2; clear hx1)
              go_wp2_with (first | (refine wpList_store_box rfl _ _ _ rfl _ _ _ _ rfl rfl HBX.out rfl mark17_info (by simp [Value.oneCell']) ?_; rintro wx hbx hcx; replace HBX := Lib.hid hbx; replace HX := Lib.hid (HX.out.stored hcx (Nat.le_refl _)); clear hbx hcx))
              refine bodyPost_ret (results_box_tmp2 Tryz.results74 _ _ rfl HBX.out Tryz.underlying43 rfl mark17_info) rfl ⟨?_, HX.out⟩
              rw [HF.out]
              show Ending.returned (.tuple #[_, .int .i64 ((k : Int) + (j : Int)), _]) = _
              rw [HKJ.out]
              rfl
        · as_aux_lemma =>
            have HR2 : Hid (markR l = markE 11) := Lib.hid (by rw [HR1.out, HC.out, if_neg (by simp), if_neg hf0, if_neg hf])
            have hfe : ((f : Int) == 1) = false := by simp; omega
            have hfg : (1 : Int) < (f : Int) := by omega
            clear HR1 HC hf hf0
            (
                go_enter Tryz.func74, Tryz.ntmps74
                go_wp2_with fail
                refine (ref3Read_any _ a n c l (HL.out.src.ext ((Ext.refl w).alloc _)) HL.out.few).mono ?_
                rw [HV.out]
                have HBX := Lib.hid (heap_alloc_new w (.cells #[.bool false, .int .i64 0, .int .i64 0] 43 (0, 0)))
                have HX := Lib.hid ((Ext.refl w).alloc (.cells #[.bool false, .int .i64 0, .int .i64 0] 43 (0, 0)))
                generalize w.alloc _ = w1 at *
                rintro e' wn ⟨rfl, rfl⟩
                go_wp2_with (first | (refine wpList_store_box rfl _ _ _ rfl _ _ _ _ rfl rfl HBX.out rfl mark17_info (by simp [Value.oneCell']) ?_; rintro wx hbx hcx; replace HBX := Lib.hid hbx; replace HX := Lib.hid (HX.out.stored hcx (Nat.le_refl _)); clear hbx hcx)))
            (
                refine (ref3Read_any _ a1 n1 c1 (l.drop k) (HSL.out.src.ext HX.out) HSL.out.few).mono ?_
                rw [HV2.out]
                rintro e' wn ⟨rfl, rfl⟩
                go_upto_region 9 with fail
                have HB3 := Lib.hid (heap_alloc_new w1 (.cells #[.bool false, .int .i64 0, .int .i64 g] 43 (0, 0)))
                have HLT := Lib.hid (block_lt HBX.out)
                have HSZ := Lib.hid HX.out.size
                replace HBX := Lib.hid (((Ext.refl w1).alloc (.cells #[.bool false, .int .i64 0, .int .i64 g] 43 (0, 0))).keep HBX.out)
                replace HX := Lib.hid (HX.out.trans ((Ext.refl w1).alloc (.cells #[.bool false, .int .i64 0, .int .i64 g] 43 (0, 0))))
                generalize w1.alloc _ = w2 at *
                have f0 := cell_of_block HB3.out 0
                have f1 := cell_of_block HB3.out 1
                have f2 := cell_of_block HB3.out 2)
            go_wp2_with (first | (refine wpList_store_box rfl _ _ _ rfl _ _ _ _ rfl rfl HBX.out rfl mark17_info (by simp [Value.oneCell']) ?_; rintro wx hbx hcx; replace HBX := Lib.hid hbx; replace HX := Lib.hid (HX.out.stored hcx (Nat.le_refl _)); clear hbx hcx))
            refine bodyPost_ret (results_box_tmp2 Tryz.results74 _ _ rfl HBX.out Tryz.underlying43 rfl mark17_info) rfl ⟨?_, HX.out⟩
            rw [HR2.out]
            rfl
    · as_aux_lemma =>
        have HR2 : Hid (markR l = markE y) := Lib.hid (by rw [HR1.out, HC.out, if_pos hy])
        have hye : (y == 0) = false := by simp [hy]
        have hyn : (y != 0) = true := by simp [hy]
        clear HR1 HC hy
        (
            go_enter Tryz.func74, Tryz.ntmps74
            go_wp2_with fail
            refine (ref3Read_any _ a n c l (HL.out.src.ext ((Ext.refl w).alloc _)) HL.out.few).mono ?_
            rw [HV.out]
            have HBX := Lib.hid (heap_alloc_new w (.cells #[.bool false, .int .i64 0, .int .i64 0] 43 (0, 0)))
            have HX := Lib.hid ((Ext.refl w).alloc (.cells #[.bool false, .int .i64 0, .int .i64 0] 43 (0, 0)))
            generalize w.alloc _ = w1 at *
            rintro e' wn ⟨rfl, rfl⟩
            go_wp2_with (first | (refine wpList_store_box rfl _ _ _ rfl _ _ _ _ rfl rfl HBX.out rfl mark17_info (by simp [Value.oneCell']) ?_; rintro wx hbx hcx; replace HBX := Lib.hid hbx; replace HX := Lib.hid (HX.out.stored hcx (Nat.le_refl _)); clear hbx hcx)))
        (
            refine (ref3Read_any _ a1 n1 c1 (l.drop k) (HSL.out.src.ext HX.out) HSL.out.few).mono ?_
            rw [HV2.out]
            rintro e' wn ⟨rfl, rfl⟩
            go_wp2_with (first | (refine wpList_store_box rfl _ _ _ rfl _ _ _ _ rfl rfl HBX.out rfl mark17_info (by simp [Value.oneCell']) ?_; rintro wx hbx hcx; replace HBX := Lib.hid hbx; replace HX := Lib.hid (HX.out.stored hcx (Nat.le_refl _)); clear hbx hcx)))
        refine bodyPost_ret (results_box_tmp2 Tryz.results74 _ _ rfl HBX.out Tryz.underlying43 rfl mark17_info) rfl ⟨?_, HX.out⟩
        rw [HR2.out]
        rfl
  · as_aux_lemma =>
      have HR2 : Hid (markR l = markE x) := Lib.hid (by rw [HR.out, if_pos hx])
      have hne : (x != 0) = true := by simp [hx]
      clear HR hx
      (
          go_enter Tryz.func74, Tryz.ntmps74
          go_wp2_with fail
          refine (ref3Read_any _ a n c l (HL.out.src.ext ((Ext.refl w).alloc _)) HL.out.few).mono ?_
          rw [HV.out]
          have HBX := Lib.hid (heap_alloc_new w (.cells #[.bool false, .int .i64 0, .int .i64 0] 43 (0, 0)))
          have HX := Lib.hid ((Ext.refl w).alloc (.cells #[.bool false, .int .i64 0, .int .i64 0] 43 (0, 0)))
          generalize w.alloc _ = w1 at *
          rintro e' wn ⟨rfl, rfl⟩
          go_wp2_with (first | (refine wpList_store_box rfl _ _ _ rfl _ _ _ _ rfl rfl HBX.out rfl mark17_info (by simp [Value.oneCell']) ?_; rintro wx hbx hcx; replace HBX := Lib.hid hbx; replace HX := Lib.hid (HX.out.stored hcx (Nat.le_refl _)); clear hbx hcx)))
      refine bodyPost_ret (results_box_tmp2 Tryz.results74 _ _ rfl HBX.out Tryz.underlying43 rfl mark17_info) rfl ⟨?_, HX.out⟩
      rw [HR2.out]
      rfl
end Go.Proofs.YtgdgjnecgelalaaGreatDoor
