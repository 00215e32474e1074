/- ManifestCrash: the walk. -/
import Derived.Test.YtgdgjnecgelalaaGreatDoorEt
import Derived.Test.YtgdgjnecgelalaaGreatDoorLasts
import Derived.Test.YtgdgjnecgelalaaGreatDoorDiskC
import Derived.Test.YtgdgjnecgelalaaGreatDoorDip
namespace Go.Proofs.YtgdgjnecgelalaaGreatDoor
open Go.RowKit Go.Sort Go.Lib

/-- What is installed where this was to be saved on a new disk. -/
def okO (a : Sta) : Option Sta := if staR a = true then some a else none
theorem okO_right {a s : Sta} (hm : a.km.ok) (h : okO a = some s) : staR s = true ∧ s.km.ok := by
  unfold okO at h
  split at h
  · cases h; exact ⟨by assumption, hm⟩
  · cases h
theorem save_first {a : Sta} (hm : a.km.ok) : ∃ ops, saveS (newDisk 1048576) a = (bytE a, baseS (instO (okO a)) (-1) ops) := by
  rw [base_new]
  cases hr : staR a with
  | false =>
    rw [save_bad hr]
    refine ⟨0, ?_⟩
    unfold bytE okO
    rw [hr, if_neg (by simp), if_neg (by simp)]
    rfl
  | true =>
    rw [save_free hr (by omega) (by decide) (seal_few hr hm)]
    refine ⟨0 + 3, ?_⟩
    unfold bytE okO
    rw [hr, if_pos rfl, if_pos rfl]
    rfl
theorem bytE_zero {a : Sta} (h : bytE a = 0) : okO a = some a := by
  unfold bytE at h
  unfold okO
  split
  · rfl
  · rename_i hr; rw [if_neg hr] at h; cases h
theorem bytE_other {a : Sta} (h : bytE a ≠ 0) : okO a = none := by
  unfold bytE at h
  unfold okO
  split
  · rename_i hr; rw [if_pos hr] at h; exact absurd rfl h
  · rfl

theorem sortF_some {F : Fs} (hn : (F.map (·.1)).Nodup) : ∃ D, SortF D F := by
  have hp := List.mergeSort_perm F (fun p q => decide (bl p.1 ≤ bl q.1))
  have hs : (F.mergeSort (fun p q => decide (bl p.1 ≤ bl q.1))).Pairwise (fun p q => decide (bl p.1 ≤ bl q.1) = true) :=
    List.pairwise_mergeSort (fun a b c h k => by simp only [decide_eq_true_eq] at *; exact List.le_trans h k) (fun a b => by rcases List.le_total (bl a.1) (bl b.1) with h | h <;> simp [h]) F
  refine ⟨_, hp, ?_⟩
  have hn2 : ((F.mergeSort (fun p q => decide (bl p.1 ≤ bl q.1))).map (·.1)).Nodup := (hp.map _).nodup_iff.2 hn
  rw [List.pairwise_map]
  rw [List.nodup_iff_pairwise_ne, List.pairwise_map] at hn2
  refine (hs.and hn2).imp ?_
  rintro p q ⟨h1, h2⟩
  simp only [decide_eq_true_eq] at h1
  rcases Classical.em (bl p.1 < bl q.1) with h | h
  · exact h
  · exact absurd (bl_inj (List.le_antisymm h1 (List.not_lt.1 h))) h2
theorem DInv.crash' {S : DiskS} {k : Nat} (h : DInv S k) (keep : List Int) : DInv (S.crash keep) 0 := by
  obtain ⟨D, hD⟩ := sortF_some h.ok.names
  exact h.crash hD keep

set_option maxHeartbeats 16000000 in
set_option maxRecDepth 100000 in
theorem crash_any (w : World) (pa pb : Sx) (hpa : pa.Ok w) (hpb : pb.Ok w) (cut : Int) (ka : Option Addr) (kn kc : Nat) (keep : List Int) (hk : Src w 1 (.slice ka kn kc) kn (zints keep)) (hkn : kn ≤ 9223372036854775807) (hg : HasET w) :
    Calls Tryz.prog 21 #[.agg (staC pa.s pa.fa pa.fn pa.fc pa.ta pa.tn pa.tc), .agg (staC pb.s pb.fa pb.fn pb.fc pb.ta pb.tn pb.tc), .int .i64 cut, .slice ka kn kc] w fun e w' => e = .returned (.bool true) ∧ Ext w w' := by
  have HPA := Lib.hid hpa
  have HPB := Lib.hid hpb
  have HK := Lib.hid hk
  have HG := Lib.hid hg
  obtain ⟨ops, hops⟩ := save_first hpa.ok
  have HOPS := Lib.hid hops
  obtain ⟨c, hc, hc3⟩ : ∃ c : Nat, cut % 4 = (c : Int) ∧ c ≤ 3 := ⟨(cut % 4).toNat, by omega, by omega⟩
  have hcb : bits .and .i64 cut 3 = (c : Int) := by rw [i64_and3, hc]
  have HCB := Lib.hid hcb
  clear hpa hpb hk hg hops hc hcb
  obtain ⟨⟨x, r, q, ⟨mb, mt, mg⟩, fl, ti⟩, fa, fn, fc, ta, tn, tc⟩ := pa
  obtain ⟨⟨x', r', q', ⟨mb', mt', mg'⟩, fl', ti'⟩, fa', fn', fc', ta', tn', tc'⟩ := pb
  go_enter Tryz.func21, Tryz.ntmps21
  go_upto_region 1 with fail
  obtain ⟨ab, hab⟩ : ∃ k, k = w.heap.size := ⟨_, rfl⟩
  obtain ⟨bb, hbb⟩ : ∃ k, k = w.heap.size + 1 := ⟨_, rfl⟩
  rw [← hbb, ← hab]
  generalize hW : (w.alloc _).alloc _ = W
  have HX : Hid (Ext w W) := Lib.hid (by rw [← hW]; exact ((Ext.refl w).alloc _).alloc _)
  have HA : Hid (W.heap[ab]? = some (.cells #[.int .i64 x, .int .i64 r, .int .i64 q, .bool mb, .int .i64 mt, .int .i64 mg, .slice fa fn fc, .slice ta tn tc] 40 (0, 0))) := Lib.hid (by rw [← hW, hab, heap_alloc_old _ _ (by simp)]; exact heap_alloc_new w _)
  have HB : Hid (W.heap[bb]? = some (.cells #[.int .i64 x', .int .i64 r', .int .i64 q', .bool mb', .int .i64 mt', .int .i64 mg', .slice fa' fn' fc', .slice ta' tn' tc'] 40 (0, 0))) := Lib.hid (by rw [← hW, hbb]; exact heap_alloc2 w _ _)
  clear hW hab hbb
  have c0 := cell_of_block HA.out 0
  have c1 := cell_of_block HA.out 1
  have c2 := cell_of_block HA.out 2
  have c3 := cell_of_block HA.out 3
  have c4 := cell_of_block HA.out 4
  have c5 := cell_of_block HA.out 5
  have c6 := cell_of_block HA.out 6
  have c7 := cell_of_block HA.out 7
  go_wp2_with fail
  clear c0 c1 c2 c3 c4 c5 c6 c7
  refine (few_any W ⟨x, r, q, ⟨mb, mt, mg⟩, fl, ti⟩ fa ta fn fc tn tc (HPA.out.ext HX.out)).mono ?_
  rintro e w1 ⟨b1, rfl, hx, hfew⟩
  have HX1 := Lib.hid (HX.out.trans hx)
  have HA1 := Lib.hid (hx.keep HA.out)
  have HB1 := Lib.hid (hx.keep HB.out)
  clear hx HX HA HB
  cases b1
  · go_wp2_with fail
    go_ret
    exact ⟨rfl, HX1.out⟩
  have HFA := Lib.hid (hfew rfl)
  clear hfew
  have c0 := cell_of_block HB1.out 0
  have c1 := cell_of_block HB1.out 1
  have c2 := cell_of_block HB1.out 2
  have c3 := cell_of_block HB1.out 3
  have c4 := cell_of_block HB1.out 4
  have c5 := cell_of_block HB1.out 5
  have c6 := cell_of_block HB1.out 6
  have c7 := cell_of_block HB1.out 7
  go_wp2_with fail
  clear c0 c1 c2 c3 c4 c5 c6 c7
  refine (few_any w1 ⟨x', r', q', ⟨mb', mt', mg'⟩, fl', ti'⟩ fa' ta' fn' fc' tn' tc' (HPB.out.ext HX1.out)).mono ?_
  rintro e w2 ⟨b2, rfl, hx, hfew⟩
  have HX2 := Lib.hid (HX1.out.trans hx)
  have HA2 := Lib.hid (hx.keep HA1.out)
  have HB2 := Lib.hid (hx.keep HB1.out)
  clear hx HX1 HA1 HB1
  cases b2
  · go_wp2_with fail
    go_ret
    exact ⟨rfl, HX2.out⟩
  have HFB := Lib.hid (hfew rfl)
  clear hfew
  go_wp2_with fail
  refine (disk_new (by omega) (by omega) w2).mono ?_
  rintro e w3 ⟨rfl, hd3, hx⟩
  obtain ⟨d, hd⟩ : ∃ d, d = w2.heap.size + 1 := ⟨_, rfl⟩
  rw [← hd] at hd3 ⊢
  have HDN : Hid (DiskNow w2 d (newDisk 1048576) w3) := Lib.hid ⟨_, hd3, fun b hb => by simp at hb; omega, hx⟩
  clear hd3 hx hd
  obtain ⟨B3, h1, h2, h3⟩ := HDN.out
  have HD3 := Lib.hid h1
  have HY3 := Lib.hid h2
  have HE3 := Lib.hid h3
  clear h1 h2 h3 HDN
  have HA3 := Lib.hid (HE3.out.keep HA2.out)
  have c0 := cell_of_block HA3.out 0
  have c1 := cell_of_block HA3.out 1
  have c2 := cell_of_block HA3.out 2
  have c3 := cell_of_block HA3.out 3
  have c4 := cell_of_block HA3.out 4
  have c5 := cell_of_block HA3.out 5
  have c6 := cell_of_block HA3.out 6
  have c7 := cell_of_block HA3.out 7
  go_wp2_with fail
  clear c0 c1 c2 c3 c4 c5 c6 c7
  refine (manSave_any (by omega) (newDisk_inv (by omega) (by omega)) HD3.out ⟨x, r, q, ⟨mb, mt, mg⟩, fl, ti⟩ fa ta fn fc tn tc (HPA.out.ext (HX2.out.trans HE3.out)) (HG.out.ext (HX2.out.trans HE3.out))).mono ?_
  rintro e w4 ⟨rfl, hto⟩
  have hin := (newDisk_inv (room := 1048576) (by omega) (by omega)).save (⟨x, r, q, ⟨mb, mt, mg⟩, fl, ti⟩ : Sta)
  rw [HOPS.out] at hto hin ⊢
  have HIN := Lib.hid hin
  have HDN := Lib.hid (DiskNow.to HY3.out HE3.out hto)
  clear hto hin HD3 HY3 HE3 HA3 HOPS
  obtain ⟨B4, h1, h2, h3⟩ := HDN.out
  have HD4 := Lib.hid h1
  have HY4 := Lib.hid h2
  have HE4 := Lib.hid h3
  clear h1 h2 h3 HDN
  have HA4 := Lib.hid (HE4.out.keep HA2.out)
  have c0 := cell_of_block HA4.out 0
  have c1 := cell_of_block HA4.out 1
  have c2 := cell_of_block HA4.out 2
  have c3 := cell_of_block HA4.out 3
  have c4 := cell_of_block HA4.out 4
  have c5 := cell_of_block HA4.out 5
  have c6 := cell_of_block HA4.out 6
  have c7 := cell_of_block HA4.out 7
  have hz1 : fn ≤ 4096 := by have := HFA.out; omega
  have hz2 : tn ≤ 4096 := by have := HFA.out; omega
  go_wp2_with fail
  clear c0 c1 c2 c3 c4 c5 c6 c7
  refine (manOwn_any w4 ⟨x, r, q, ⟨mb, mt, mg⟩, fl, ti⟩ fa ta fn fc tn tc (HPA.out.ext (HX2.out.trans HE4.out)) hz1 hz2).mono ?_
  rintro e w5 ⟨ga, gc, ha, hc', rfl, hx, hin⟩
  have HI5 := Lib.hid hin
  have HE5 := Lib.hid (HE4.out.trans hx)
  have HD5 := Lib.hid (HD4.out.ext hx)
  clear hx hin HA4 HD4 HE4
  go_wp2_with fail
  refine (ref18Bytes_any w5 ⟨x, r, q, ⟨mb, mt, mg⟩, fl, ti⟩ ga ha fn gc tn hc' HI5.out).mono ?_
  rintro e w6 hby
  obtain ⟨a6, c6, rfl, hx, -⟩ := bytesTo_out hby
  have HE6 := Lib.hid (HE5.out.trans hx)
  have HD6 := Lib.hid (HD5.out.ext hx)
  clear hby hx HI5 HE5 HD5
  obtain ⟨E, hE⟩ : ∃ E, E = bytE ⟨x, r, q, ⟨mb, mt, mg⟩, fl, ti⟩ := ⟨_, rfl⟩
  rw [← hE]
  have HEE := Lib.hid hE
  clear hE
  have hq1 : ((E == 0) != (E == 0)) = false := bne_self_eq_false _
  generalize hO : okO (⟨x, r, q, ⟨mb, mt, mg⟩, fl, ti⟩ : Sta) = O at *
  have HO := Lib.hid hO
  clear hO
  go_upto_region 10 with fail
  clear hq1
  go_wp2_with fail
  rw [HCB.out]
  refine (disk_cut HD6.out (c : Int)).mono ?_
  rintro e w7 ⟨rfl, hto⟩
  have hcut : (baseS (instO O) (-1) ops).cut (c : Int) = baseS (instO O) c ops := by
    unfold DiskS.cut baseS
    simp only [DiskS.mk.injEq, true_and, and_true]
    omega
  have hin := HIN.out.cut (n := (c : Int)) (by omega)
  rw [hcut] at hto hin
  have HIN7 := Lib.hid hin
  have HDN := Lib.hid (DiskNow.to HY4.out HE6.out hto)
  clear hto hin hcut HD6 HY4 HE6 HIN
  obtain ⟨B7, h1, h2, h3⟩ := HDN.out
  have HD7 := Lib.hid h1
  have HY7 := Lib.hid h2
  have HE7 := Lib.hid h3
  clear h1 h2 h3 HDN
  have HB7 := Lib.hid (HE7.out.keep HB2.out)
  have c0 := cell_of_block HB7.out 0
  have c1 := cell_of_block HB7.out 1
  have c2 := cell_of_block HB7.out 2
  have c3 := cell_of_block HB7.out 3
  have c4 := cell_of_block HB7.out 4
  have c5 := cell_of_block HB7.out 5
  have c6 := cell_of_block HB7.out 6
  have c7 := cell_of_block HB7.out 7
  go_wp2_with fail
  clear c0 c1 c2 c3 c4 c5 c6 c7 HB7
  refine (manSave_any (by omega) HIN7.out HD7.out ⟨x', r', q', ⟨mb', mt', mg'⟩, fl', ti'⟩ fa' ta' fn' fc' tn' tc' (HPB.out.ext (HX2.out.trans HE7.out)) (HG.out.ext (HX2.out.trans HE7.out))).mono ?_
  rintro e w8 ⟨rfl, hto⟩
  have hsc := save_crash (ops := ops) hc3 keep (fun s e => okO_right HPA.out.ok (HO.out.trans e)) HPB.out.ok (HIN7.out.save (⟨x', r', q', ⟨mb', mt', mg'⟩, fl', ti'⟩ : Sta)).ok
  have HSC := Lib.hid hsc
  have HIN8 := Lib.hid (HIN7.out.save (⟨x', r', q', ⟨mb', mt', mg'⟩, fl', ti'⟩ : Sta))
  clear hsc
  generalize saveS (baseS (instO O) c ops) _ = R at *
  obtain ⟨R1, R2⟩ := R
  have HDN := Lib.hid (DiskNow.to HY7.out HE7.out hto)
  clear hto HD7 HY7 HE7 HIN7
  obtain ⟨B8, h1, h2, h3⟩ := HDN.out
  have HD8 := Lib.hid h1
  have HY8 := Lib.hid h2
  have HE8 := Lib.hid h3
  clear h1 h2 h3 HDN
  go_wp2_with fail
  refine (disk_crash HIN8.out.ok HD8.out ka kn kc keep (HK.out.ext (HX2.out.trans HE8.out)) hkn).mono ?_
  rintro e w9 ⟨dn, B9, rfl, hd9, hx, -⟩
  have HD9 := Lib.hid hd9
  have HE9 := Lib.hid (HE8.out.trans hx)
  have HOK9 : Hid ((R2.crash keep).Ok) := Lib.hid (HIN8.out.crash' keep).ok
  have HLO := Lib.hid (manLoad_any HOK9.out HD9.out (HG.out.ext (HX2.out.trans HE9.out)))
  have HA9 := Lib.hid (HE9.out.keep HA2.out)
  have HB9 := Lib.hid (HE9.out.keep HB2.out)
  clear hd9 hx HD8 HY8 HE8
  rw [HSC.out] at HLO
  clear HSC
  by_cases hR : R1 = 0
  · subst hR
    rw [if_pos rfl] at HLO
    simp only [loadOf] at HLO
    go_wp2_with fail
    refine HLO.out.mono ?_
    rintro e w10 ⟨za, zn, zc, ya, yn, yc, rfl, hx, hin⟩
    have HZ := Lib.hid hin
    have HE10 := Lib.hid (HE9.out.trans hx)
    have HBB := Lib.hid (hx.keep HB9.out)
    clear hx hin HLO
    have HFL : Hid (fn' ≤ 900 ∧ tn' ≤ 900 ∧ zn = fn' ∧ yn = tn') := Lib.hid (by
      have h1 := fls_src_len HZ.out.fl
      have h2 := trs_src_len HZ.out.ti
      have h3 := fls_src_len HPB.out.fl
      have h4 := trs_src_len HPB.out.ti
      have h5 := HFB.out
      simp only at h1 h2 h3 h4 h5
      omega)
    obtain ⟨-, -, rfl, rfl⟩ := HFL.out
    go_upto_region 16 with fail
    obtain ⟨b9, hb9⟩ : ∃ k, k = w10.heap.size := ⟨_, rfl⟩
    rw [← hb9]
    generalize hW : w10.alloc _ = w11
    have hx11 : Ext w10 w11 := by rw [← hW]; exact (Ext.refl w10).alloc _
    have HB9' : Hid (w11.heap[b9]? = some (.cells #[.int .i64 x', .int .i64 r', .int .i64 q', .bool mb', .int .i64 mt', .int .i64 mg', .slice za zn zc, .slice ya yn yc] 40 (0, 0))) := Lib.hid (by rw [← hW, hb9]; exact heap_alloc_new w10 _)
    have HE11 := Lib.hid (HE10.out.trans hx11)
    have HZ11 := Lib.hid (HZ.out.ext hx11)
    have HBB11 := Lib.hid (hx11.keep HBB.out)
    clear hW hb9 hx11 HZ HE10 HBB
    go_upto_region 19 with fail
    have g2 : ∀ (d : Nat) (f : Nat → Obj) (os : Array Obj), (Instr.loadAt 40 (.pointer (some ⟨b9, 0, none⟩))).run Tryz.prog (turned w11 (fun _ => false) d f os) = .ok (.agg #[.int .i64 x', .int .i64 r', .int .i64 q', .bool mb', .int .i64 mt', .int .i64 mg', .slice za zn zc, .slice ya yn yc]) (turned w11 (fun _ => false) d f os) := fun d f os => load_box_turned HB9'.out rfl Tryz.underlying40 rfl sta_info d f os
    have g3 : ∀ (d : Nat) (f : Nat → Obj) (os : Array Obj), (Instr.loadAt 40 (.pointer (some ⟨bb, 0, none⟩))).run Tryz.prog (turned w11 (fun _ => false) d f os) = .ok (.agg #[.int .i64 x', .int .i64 r', .int .i64 q', .bool mb', .int .i64 mt', .int .i64 mg', .slice fa' zn fc', .slice ta' yn tc']) (turned w11 (fun _ => false) d f os) := fun d f os => load_box_turned HBB11.out rfl Tryz.underlying40 rfl sta_info d f os
    go_wp2_with fail
    refine wp_region_plan 8 (fun w' => ∃ z : Turned, w' = turned w11 (fun _ => false) z.d z.f z.os) (.reads [0, 1, 2, 4] (.one 3 (.one 5 (.one 6 (.reads [7] (.one 8 .done)))))) (by kernel_rfl) (by kernel_rfl) (fun _ _ dd _ _ hh => by cases dd <;> exact hh) ?_ ?_
    · exact turned_of_ext (Ext.drewN w11 1)
    refine wpPlan_reads ?_
    simp only [pickOps, List.getElem?_cons_succ, List.getElem?_cons_zero]
    repeat (first | (go_big_quiet_want; refine mq_load _ _ rfl _ _ rfl (fun w hw => by obtain ⟨z, rfl⟩ := hw; exact g2 z.d z.f z.os) ?_; go_big_quiet_on; simp only [Act.put, List.setIfInBounds_toArray, List.set_cons_succ, List.set_cons_zero]) | (go_big_quiet_want; refine mq_load _ _ rfl _ _ rfl (fun w hw => by obtain ⟨z, rfl⟩ := hw; exact g3 z.d z.f z.os) ?_; go_big_quiet_on; simp only [Act.put, List.setIfInBounds_toArray, List.set_cons_succ, List.set_cons_zero]) | (go_big_quiet_step (fail)))
    refine wpQuiet_nil ?_
    clear g2 g3
    refine wpPlan_one ?_
    simp only [pickOps, List.getElem?_cons_succ, List.getElem?_cons_zero]
    have hy1 : zn ≤ 4096 := by have := HFL.out; omega
    have hy2 : yn ≤ 4096 := by have := HFL.out; omega
    go_wp2_with fail
    refine (manOwn_any _ ⟨x', r', q', ⟨mb', mt', mg'⟩, fl', ti'⟩ za ya zn zc yn yc (HZ11.out.ext (Ext.drewN w11 1)) hy1 hy2).mono ?_
    rintro e w12 ⟨oa, oc, pa, pc, rfl, hx, hin⟩
    have HXE := Lib.hid ((Ext.drewN w11 1).trans hx)
    have HOI := Lib.hid hin
    clear hx hin
    go_wp2_with fail
    refine thenX_mk (turned_of_ext HXE.out) (wpPlan_one ?_)
    simp only [pickOps, List.getElem?_cons_succ, List.getElem?_cons_zero]
    go_wp2_with fail
    refine (manOwn_any w12 ⟨x', r', q', ⟨mb', mt', mg'⟩, fl', ti'⟩ fa' ta' zn fc' yn tc' (HPB.out.ext ((HX2.out.trans HE11.out).trans HXE.out)) hy1 hy2).mono ?_
    rintro e w13 ⟨ua, uc, va, vc, rfl, hx, hin⟩
    have HXF := Lib.hid (HXE.out.trans hx)
    have HOJ := Lib.hid hin
    have HOI2 := Lib.hid (HOI.out.ext hx)
    clear hx hin
    go_wp2_with fail
    refine thenX_mk (turned_of_ext HXF.out) (wpPlan_one ?_)
    simp only [pickOps, List.getElem?_cons_succ, List.getElem?_cons_zero]
    go_wp2_with fail
    refine (ref18Same_any w13 ⟨x', r', q', ⟨mb', mt', mg'⟩, fl', ti'⟩ oa pa ua va zn oc yn pc uc vc HOI2.out HOJ.out).mono ?_
    rintro e w14 ⟨rfl, hx⟩
    have HXG := Lib.hid (HXF.out.trans hx)
    clear hx
    go_wp2_with fail
    refine thenX_mk (turned_of_ext HXG.out) (wpPlan_reads ?_)
    simp only [pickOps, List.getElem?_cons_succ, List.getElem?_cons_zero]
    repeat (go_big_quiet_step (fail))
    refine wpQuiet_nil ?_
    refine wpPlan_one ?_
    simp only [pickOps, List.getElem?_cons_succ, List.getElem?_cons_zero]
    go_wp2_with fail
    refine thenX_last (wpPlan_done ?_)
    go_wp2_with fail
    go_ret
    exact ⟨rfl, (HX2.out.trans HE11.out).trans HXG.out⟩
  · rw [if_neg hR] at HLO
    have hRe : (R1 == 0) = false := by simp [hR]
    clear hR
    by_cases hE : E = 0
    · subst hE
      rw [bytE_zero HEE.out.symm] at HO
      obtain rfl := HO.out
      simp only [loadOf] at HLO
      go_wp2_with fail
      refine HLO.out.mono ?_
      rintro e w10 ⟨za, zn, zc, ya, yn, yc, rfl, hx, hin⟩
      have HZ := Lib.hid hin
      have HE10 := Lib.hid (HE9.out.trans hx)
      have HBB := Lib.hid (hx.keep HA9.out)
      clear hx hin HLO
      have HFL : Hid (fn ≤ 900 ∧ tn ≤ 900 ∧ zn = fn ∧ yn = tn) := Lib.hid (by
        have h1 := fls_src_len HZ.out.fl
        have h2 := trs_src_len HZ.out.ti
        have h3 := fls_src_len HPA.out.fl
        have h4 := trs_src_len HPA.out.ti
        have h5 := HFA.out
        simp only at h1 h2 h3 h4 h5
        omega)
      obtain ⟨-, -, rfl, rfl⟩ := HFL.out
      go_upto_region 16 with fail
      obtain ⟨b9, hb9⟩ : ∃ k, k = w10.heap.size := ⟨_, rfl⟩
      rw [← hb9]
      generalize hW : w10.alloc _ = w11
      have hx11 : Ext w10 w11 := by rw [← hW]; exact (Ext.refl w10).alloc _
      have HB9' : Hid (w11.heap[b9]? = some (.cells #[.int .i64 x, .int .i64 r, .int .i64 q, .bool mb, .int .i64 mt, .int .i64 mg, .slice za zn zc, .slice ya yn yc] 40 (0, 0))) := Lib.hid (by rw [← hW, hb9]; exact heap_alloc_new w10 _)
      have HE11 := Lib.hid (HE10.out.trans hx11)
      have HZ11 := Lib.hid (HZ.out.ext hx11)
      have HBB11 := Lib.hid (hx11.keep HBB.out)
      clear hW hb9 hx11 HZ HE10 HBB
      go_upto_region 21 with fail
      have g2 : ∀ (d : Nat) (f : Nat → Obj) (os : Array Obj), (Instr.loadAt 40 (.pointer (some ⟨b9, 0, none⟩))).run Tryz.prog (turned w11 (fun _ => false) d f os) = .ok (.agg #[.int .i64 x, .int .i64 r, .int .i64 q, .bool mb, .int .i64 mt, .int .i64 mg, .slice za zn zc, .slice ya yn yc]) (turned w11 (fun _ => false) d f os) := fun d f os => load_box_turned HB9'.out rfl Tryz.underlying40 rfl sta_info d f os
      have g3 : ∀ (d : Nat) (f : Nat → Obj) (os : Array Obj), (Instr.loadAt 40 (.pointer (some ⟨ab, 0, none⟩))).run Tryz.prog (turned w11 (fun _ => false) d f os) = .ok (.agg #[.int .i64 x, .int .i64 r, .int .i64 q, .bool mb, .int .i64 mt, .int .i64 mg, .slice fa zn fc, .slice ta yn tc]) (turned w11 (fun _ => false) d f os) := fun d f os => load_box_turned HBB11.out rfl Tryz.underlying40 rfl sta_info d f os
      go_wp2_with fail
      refine wp_region_plan 8 (fun w' => ∃ z : Turned, w' = turned w11 (fun _ => false) z.d z.f z.os) (.reads [0, 1, 2, 4] (.one 3 (.one 5 (.one 6 (.reads [7] (.one 8 .done)))))) (by kernel_rfl) (by kernel_rfl) (fun _ _ dd _ _ hh => by cases dd <;> exact hh) ?_ ?_
      · exact turned_of_ext (Ext.drewN w11 1)
      refine wpPlan_reads ?_
      simp only [pickOps, List.getElem?_cons_succ, List.getElem?_cons_zero]
      repeat (first | (go_big_quiet_want; refine mq_load _ _ rfl _ _ rfl (fun w hw => by obtain ⟨z, rfl⟩ := hw; exact g2 z.d z.f z.os) ?_; go_big_quiet_on; simp only [Act.put, List.setIfInBounds_toArray, List.set_cons_succ, List.set_cons_zero]) | (go_big_quiet_want; refine mq_load _ _ rfl _ _ rfl (fun w hw => by obtain ⟨z, rfl⟩ := hw; exact g3 z.d z.f z.os) ?_; go_big_quiet_on; simp only [Act.put, List.setIfInBounds_toArray, List.set_cons_succ, List.set_cons_zero]) | (go_big_quiet_step (fail)))
      refine wpQuiet_nil ?_
      clear g2 g3
      refine wpPlan_one ?_
      simp only [pickOps, List.getElem?_cons_succ, List.getElem?_cons_zero]
      have hy1 : zn ≤ 4096 := by have := HFL.out; omega
      have hy2 : yn ≤ 4096 := by have := HFL.out; omega
      go_wp2_with fail
      refine (manOwn_any _ ⟨x, r, q, ⟨mb, mt, mg⟩, fl, ti⟩ za ya zn zc yn yc (HZ11.out.ext (Ext.drewN w11 1)) hy1 hy2).mono ?_
      rintro e w12 ⟨oa, oc, pa, pc, rfl, hx, hin⟩
      have HXE := Lib.hid ((Ext.drewN w11 1).trans hx)
      have HOI := Lib.hid hin
      clear hx hin
      go_wp2_with fail
      refine thenX_mk (turned_of_ext HXE.out) (wpPlan_one ?_)
      simp only [pickOps, List.getElem?_cons_succ, List.getElem?_cons_zero]
      go_wp2_with fail
      refine (manOwn_any w12 ⟨x, r, q, ⟨mb, mt, mg⟩, fl, ti⟩ fa ta zn fc yn tc (HPA.out.ext ((HX2.out.trans HE11.out).trans HXE.out)) hy1 hy2).mono ?_
      rintro e w13 ⟨ua, uc, va, vc, rfl, hx, hin⟩
      have HXF := Lib.hid (HXE.out.trans hx)
      have HOJ := Lib.hid hin
      have HOI2 := Lib.hid (HOI.out.ext hx)
      clear hx hin
      go_wp2_with fail
      refine thenX_mk (turned_of_ext HXF.out) (wpPlan_one ?_)
      simp only [pickOps, List.getElem?_cons_succ, List.getElem?_cons_zero]
      go_wp2_with fail
      refine (ref18Same_any w13 ⟨x, r, q, ⟨mb, mt, mg⟩, fl, ti⟩ oa pa ua va zn oc yn pc uc vc HOI2.out HOJ.out).mono ?_
      rintro e w14 ⟨rfl, hx⟩
      have HXG := Lib.hid (HXF.out.trans hx)
      clear hx
      go_wp2_with fail
      refine thenX_mk (turned_of_ext HXG.out) (wpPlan_reads ?_)
      simp only [pickOps, List.getElem?_cons_succ, List.getElem?_cons_zero]
      repeat (go_big_quiet_step (fail))
      refine wpQuiet_nil ?_
      refine wpPlan_one ?_
      simp only [pickOps, List.getElem?_cons_succ, List.getElem?_cons_zero]
      go_wp2_with fail
      refine thenX_last (wpPlan_done ?_)
      go_wp2_with fail
      go_ret
      exact ⟨rfl, (HX2.out.trans HE11.out).trans HXG.out⟩
    · rw [bytE_other (fun h => hE (HEE.out.trans h))] at HO
      obtain rfl := HO.out
      have hEe : (E == 0) = false := by simp [hE]
      clear hE
      simp only [loadOf] at HLO
      go_wp2_with fail
      refine HLO.out.mono ?_
      rintro e w10 ⟨za, zn, zc, ya, yn, yc, rfl, hx, hin⟩
      have HE10 := Lib.hid (HE9.out.trans hx)
      clear hx hin HLO
      go_wp2_with fail
      go_ret
      exact ⟨rfl, (HX2.out.trans HE10.out).trans ((Ext.refl _).alloc _)⟩
set_option maxHeartbeats 4000000 in
set_option maxRecDepth 100000 in
theorem manCrash_any (w : World) (pa pb : Sx) (hpa : pa.Ok w) (hpb : pb.Ok w) (cut : Int) (ka : Option Addr) (kn kc : Nat) (keep : List Int) (hk : Src w 1 (.slice ka kn kc) kn (zints keep)) (hkn : kn ≤ 9223372036854775807) (hg : HasET w) :
    Calls Tryz.prog 5 #[.agg (pa.cells ++ pb.cells).toArray, .agg #[.int .i64 cut, .slice ka kn kc]] w fun e w' => e = .returned (.bool true) ∧ Ext w w' := by
  have HC := Lib.hid (fun W (hx : Ext w W) => crash_any W pa pb (hpa.ext hx) (hpb.ext hx) cut ka kn kc keep (hk.ext hx) hkn (hg.ext hx))
  clear hpa hpb hk hg
  simp only [Sx.cells, List.cons_append, List.nil_append]
  go_enter Tryz.func5, Tryz.ntmps5
  go_wp2_with fail
  refine (HC.out _ (((Ext.refl w).alloc _).alloc _)).mono ?_
  rintro e w1 ⟨rfl, hx⟩
  have HX := Lib.hid ((((Ext.refl w).alloc _).alloc _).trans hx)
  clear hx HC
  go_wp2_with fail
  go_ret
  exact ⟨rfl, HX.out⟩
end Go.Proofs.YtgdgjnecgelalaaGreatDoor
