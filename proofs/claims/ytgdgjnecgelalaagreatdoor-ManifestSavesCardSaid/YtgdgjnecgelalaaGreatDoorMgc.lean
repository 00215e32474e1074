/- manifest.Bytes: the walk. -/
import Derived.Test.YtgdgjnecgelalaaGreatDoorMgb
import Derived.Deep.CutBlock
namespace Go.Proofs.YtgdgjnecgelalaaGreatDoor
open Go.RowKit Go.Sort Go.Lib

/-- What Bytes leaves. -/
def BytesTo (w : World) (s : Sta) (e : Ending) (w' : World) : Prop :=
  if staR s = true then SealPost w 7 (staP s) e w' else e = .returned (.tuple #[.slice none 0 0, .int .i64 2]) ∧ Ext w w'

theorem BoxB.put' {w0 w w1 : World} {g k k' : Nat} {l l' : List UInt8} {a' : Option Addr} {n' c' : Nat} (h : BoxB w0 g l k w) (hx : Ext w w1) (hB : Buf w0 l' n' a' c' w1) (hk : n' ≤ k') (ho : ∀ q, (Value.slice a' n' c').ownBlock = some q → w.heap.size ≤ q) : BoxB w0 g l' k' (w1.setCell ⟨g, 0, none⟩ (.slice a' n' c')) :=
  h.put hx ⟨⟨hB.made.row, ho, hx⟩, hB.len⟩ hk
set_option maxHeartbeats 16000000 in
set_option maxRecDepth 100000 in
theorem manBytes_any (w : World) (s : Sta) (fa ta : Option Addr) (fn fc tn tc : Nat) (hs : StIn w s fa fn fc ta tn tc) (hg : HasET w) :
    Calls Tryz.prog 19 #[.agg (staC s fa fn fc ta tn tc)] w (BytesTo w s) := by
  have HS := Lib.hid hs
  have HG := Lib.hid hg
  have HFN := Lib.hid (fls_src_len hs.fl)
  have HTN := Lib.hid (trs_src_len hs.ti)
  have HRT := Lib.hid (fun W (hx : Ext w W) => staRight_any W s fa ta fn fc tn tc (hs.ext hx) (hg.ext hx))
  by_cases hR : staR s = true
  · have HB : Hid (∀ e w', SealPost w 7 (staP s) e w' → BytesTo w s e w') := Lib.hid (fun e w' h => by unfold BytesTo; rw [if_pos hR]; exact h)
    have HP := Lib.hid (staR_parts hR)
    rw [hR] at HRT
    clear hs hg hR
    obtain ⟨x, r, q, ⟨b, t, g⟩, fl, ti⟩ := s
    go_enter Tryz.func19, Tryz.ntmps19
    go_wp2_with fail
    generalize hW : World.alloc _ _ = W
    have HX0 : Hid (Ext w W) := Lib.hid (by subst hW; exact (Ext.refl w).alloc _)
    have HBX : Hid (W.heap[w.heap.size]? = some (.cells #[.int .i64 x, .int .i64 r, .int .i64 q, .bool b, .int .i64 t, .int .i64 g, .slice fa fn fc, .slice ta tn tc] 40 (0, 0))) := Lib.hid (by subst hW; exact heap_alloc_new w _)
    clear hW
    refine (HRT.out W HX0.out).mono ?_
    rintro e w1 ⟨rfl, hx⟩
    replace HBX := Lib.hid (hx.keep HBX.out)
    have HX := Lib.hid (HX0.out.trans hx)
    clear hx HX0 HRT
    go_upto_region 5 with fail
    obtain ⟨d, hd⟩ : ∃ d, d = w1.heap.size := ⟨_, rfl⟩
    have HNE : Hid (w.heap.size < d) := Lib.hid (by rw [hd]; exact block_lt HBX.out)
    have HB3 : Hid ((w1.alloc (.cells #[.slice none 0 0] 56 (0, 0))).heap[d]? = some (.cells #[.slice none 0 0] 56 (0, 0))) := Lib.hid (by rw [hd]; exact heap_alloc_new w1 _)
    have hx3 := (Ext.refl w1).alloc (.cells #[.slice none 0 0] 56 (0, 0))
    rw [← hd]
    clear hd
    generalize w1.alloc _ = w2 at *
    replace HBX := Lib.hid (hx3.keep HBX.out)
    have HBB : Hid (BoxB w d [] 0 w2) := Lib.hid ⟨⟨none, 0, 0, HB3.out, (Buf.nil w).ext (HX.out.trans hx3), Nat.le_refl _, by simp [Value.ownBlock]⟩, by have := HNE.out; omega, HX.out.trans hx3⟩
    clear hx3 HX HB3
    ((try clear c0 c1 c2 c3 c4 c5 c6 c7); have c0 := cell_of_block HBX.out 0; have c1 := cell_of_block HBX.out 1; have c2 := cell_of_block HBX.out 2; have c3 := cell_of_block HBX.out 3; have c4 := cell_of_block HBX.out 4; have c5 := cell_of_block HBX.out 5; have c6 := cell_of_block HBX.out 6; have c7 := cell_of_block HBX.out 7)
    go_wp2_with fail
    (
        refine (bytesNum_any w _ d _ _ _ HBB.out (by omega)).mono ?_
        rintro e wn ⟨rfl, hB, hC⟩
        replace HBB := Lib.hid hB
        replace HBX := Lib.hid ((hC.block _ (block_lt HBX.out) (by have := HNE.out; omega)).trans HBX.out)
        clear hB hC
        ((try clear c0 c1 c2 c3 c4 c5 c6 c7); have c0 := cell_of_block HBX.out 0; have c1 := cell_of_block HBX.out 1; have c2 := cell_of_block HBX.out 2; have c3 := cell_of_block HBX.out 3; have c4 := cell_of_block HBX.out 4; have c5 := cell_of_block HBX.out 5; have c6 := cell_of_block HBX.out 6; have c7 := cell_of_block HBX.out 7)
        go_wp2_with fail)
    (
        refine (bytesNum_any w _ d _ _ _ HBB.out (by omega)).mono ?_
        rintro e wn ⟨rfl, hB, hC⟩
        replace HBB := Lib.hid hB
        replace HBX := Lib.hid ((hC.block _ (block_lt HBX.out) (by have := HNE.out; omega)).trans HBX.out)
        clear hB hC
        ((try clear c0 c1 c2 c3 c4 c5 c6 c7); have c0 := cell_of_block HBX.out 0; have c1 := cell_of_block HBX.out 1; have c2 := cell_of_block HBX.out 2; have c3 := cell_of_block HBX.out 3; have c4 := cell_of_block HBX.out 4; have c5 := cell_of_block HBX.out 5; have c6 := cell_of_block HBX.out 6; have c7 := cell_of_block HBX.out 7)
        go_wp2_with fail)
    (
        refine (bytesNum_any w _ d _ _ _ HBB.out (by omega)).mono ?_
        rintro e wn ⟨rfl, hB, hC⟩
        replace HBB := Lib.hid hB
        replace HBX := Lib.hid ((hC.block _ (block_lt HBX.out) (by have := HNE.out; omega)).trans HBX.out)
        clear hB hC
        ((try clear c0 c1 c2 c3 c4 c5 c6 c7); have c0 := cell_of_block HBX.out 0; have c1 := cell_of_block HBX.out 1; have c2 := cell_of_block HBX.out 2; have c3 := cell_of_block HBX.out 3; have c4 := cell_of_block HBX.out 4; have c5 := cell_of_block HBX.out 5; have c6 := cell_of_block HBX.out 6; have c7 := cell_of_block HBX.out 7))
    -- the mark
    obtain ⟨va, vn, vc, hb, hB, hvn, -⟩ := HBB.out.blk
    have d0 := cell_of_block hb 0
    have HB4 := Lib.hid hB
    have HD := Lib.hid hb
    clear hb hB
    go_wp2_with fail
    refine (waterPut_b ⟨b, t, g⟩ HS.out.ok HB4.out (by omega)).mono ?_
    rintro e wn ⟨a5, c5', n5, rfl, hB, hx, hn, ho⟩
    have HX5 := Lib.hid hx
    replace HBX := Lib.hid (hx.keep HBX.out)
    have HD5 := Lib.hid (hx.keep HD.out)
    have HBB5 := Lib.hid (HBB.out.put' hx hB (Nat.le_trans hn (Nat.add_le_add_right hvn 30)) ho)
    clear hB hx hn ho d0
    have d0 := cell_of_block HD5.out 0
    have z0 := free_of_block HD5.out 0
    ((try clear c0 c1 c2 c3 c4 c5 c6 c7); have c0 := cell_of_block HBX.out 0; have c1 := cell_of_block HBX.out 1; have c2 := cell_of_block HBX.out 2; have c3 := cell_of_block HBX.out 3; have c4 := cell_of_block HBX.out 4; have c5 := cell_of_block HBX.out 5; have c6 := cell_of_block HBX.out 6; have c7 := cell_of_block HBX.out 7)
    go_upto_region 9 with fail
    replace HBX := Lib.hid (((setCell_chg wn d 0 (.slice a5 n5 c5')).block _ (block_lt HBX.out) (by have := HNE.out; omega)).trans HBX.out)
    clear HD HD5 HB4 d0 z0
    generalize World.setCell _ _ _ = w6 at *
    clear HBB
    have HBB := HBB5
    clear HBB5 HX5
    ((try clear c0 c1 c2 c3 c4 c5 c6 c7); have c0 := cell_of_block HBX.out 0; have c1 := cell_of_block HBX.out 1; have c2 := cell_of_block HBX.out 2; have c3 := cell_of_block HBX.out 3; have c4 := cell_of_block HBX.out 4; have c5 := cell_of_block HBX.out 5; have c6 := cell_of_block HBX.out 6; have c7 := cell_of_block HBX.out 7)
    go_wp2_with fail
    (
        refine (bytesNum_any w _ d _ _ _ HBB.out (by omega)).mono ?_
        rintro e wn ⟨rfl, hB, hC⟩
        replace HBB := Lib.hid hB
        replace HBX := Lib.hid ((hC.block _ (block_lt HBX.out) (by have := HNE.out; omega)).trans HBX.out)
        clear hB hC
        ((try clear c0 c1 c2 c3 c4 c5 c6 c7); have c0 := cell_of_block HBX.out 0; have c1 := cell_of_block HBX.out 1; have c2 := cell_of_block HBX.out 2; have c3 := cell_of_block HBX.out 3; have c4 := cell_of_block HBX.out 4; have c5 := cell_of_block HBX.out 5; have c6 := cell_of_block HBX.out 6; have c7 := cell_of_block HBX.out 7))
    obtain ⟨L1, hL1⟩ : ∃ L, L = [] ++ varP (u64n x) ++ varP (u64n r) ++ varP (u64n q) ++ markP ⟨b, t, g⟩ ++ varP (u64n (fn : Int)) := ⟨_, rfl⟩
    rw [← hL1] at HBB
    go_upto_block 0 with fail
    go_cut [4] (fun s4 wx => s4 = .pointer (some ⟨d, 0, none⟩) ∧ Hid (BoxB w d (L1 ++ fl.flatMap filP) (70 + 104 * 512) wx) ∧ Hid (Chg (· = d) wn wx))
    case first =>
      go_wp2_with fail
      go_loopw [38] (fun i wr => ∃ k : Nat, k ≤ fn ∧ i = .int .i64 k ∧ Hid (BoxB w d (L1 ++ (fl.take k).flatMap filP) (70 + 104 * k) wr) ∧ Hid (Chg (· = d) wn wr)) (fun i _ => fn - (RowKit.intOf i).toNat)
      case atStart => exact ⟨0, by omega, rfl, Lib.hid (by have h := HBB.out; simp only [List.take_zero, List.flatMap_nil, List.append_nil]; exact h), Lib.hid (Chg.refl _ _)⟩
      case round =>
        obtain ⟨k, hk, rfl, HK, HC⟩ := hrel
        by_cases hlt : k < fn
        · obtain ⟨fb, fo, p, rfl, hp, p0, p1, p2, p3⟩ := fls_src (HS.out.fl.ext HK.out.ext) hlt
          have hpm := (HP.out.2.2.1) p (List.mem_of_getElem? hp)
          have HPM := Lib.hid (flR_parts hpm)
          have HK5 := Lib.hid (HP.out.1)
          have hk512 : k ≤ 512 := by have := HFN.out; have := HK5.out; simp only at *; omega
          have HNX : Hid (L1 ++ (fl.take k).flatMap filP ++ txtP p.nm ++ varP (zig p.a) ++ varP (zig p.b) ++ varP (u64n p.k) = L1 ++ (fl.take (k + 1)).flatMap filP) := Lib.hid (by
            rw [List.take_add_one, (show fl[k]? = some p from hp)]
            simp [filP, List.append_assoc])
          clear hpm hp
          go_upto_region 13 with fail
          obtain ⟨f, hf⟩ : ∃ f, f = wr.heap.size := ⟨_, rfl⟩
          have HDF : Hid (f ≠ d) := Lib.hid (by
            obtain ⟨_, _, _, hb, _⟩ := HK.out.blk
            have := block_lt hb
            omega)
          have HFX : Hid ((wr.alloc (.cells #[.string p.nm, .int .i64 p.a, .int .i64 p.b, .int .i64 p.k] 74 (0, 0))).heap[f]? = some (.cells #[.string p.nm, .int .i64 p.a, .int .i64 p.b, .int .i64 p.k] 74 (0, 0))) := Lib.hid (by rw [hf]; exact heap_alloc_new wr _)
          have HXA := Lib.hid ((Ext.refl wr).alloc (.cells #[.string p.nm, .int .i64 p.a, .int .i64 p.b, .int .i64 p.k] 74 (0, 0)))
          rw [← hf]
          clear hf p0 p1 p2 p3 c0 c1 c2 c3 c4 c5 c6 c7
          generalize wr.alloc _ = wa at *
          have HKA := Lib.hid (HK.out.ext' HXA.out)
          have HCA := Lib.hid (HC.out.trans (Chg.of_ext HXA.out) (fun _ _ e => e))
          obtain ⟨va2, vn2, vc2, hb, hB, hvn2, -⟩ := HKA.out.blk
          have HB2 := Lib.hid hB
          have f4 := cell_turned (T := fun _ => false) (cell_of_block hb 0) rfl
          have f0 := cell_turned (T := fun _ => false) (cell_of_block HFX.out 0) rfl
          have f1 := cell_turned (T := fun _ => false) (cell_of_block HFX.out 1) rfl
          have f2 := cell_turned (T := fun _ => false) (cell_of_block HFX.out 2) rfl
          clear hB hb
          refine wp_region_plan 9 (fun w' => ∃ p : Turned, w' = turned wa (fun _ => false) p.d p.f p.os) (.reads [0, 1, 2, 4, 5, 7, 8] (.one 3 (.one 6 (.one 9 (.one 10 .done))))) (by kernel_rfl) (by kernel_rfl) (fun _ _ dd _ _ hh => by cases dd <;> exact hh) ?_ ?_
          · exact turned_of_ext (Ext.drewN wa 1)
          refine wpPlan_reads ?_
          simp only [pickOps, List.getElem?_cons_succ, List.getElem?_cons_zero]
          iterate 7 (go_big_quiet_step (fail))
          refine wpQuiet_nil ?_
          clear f0 f1 f2 f4
          refine wpPlan_one ?_
          simp only [pickOps, List.getElem?_cons_succ, List.getElem?_cons_zero]
          go_wp2_with fail
          have q1 := HPM.out.1
          refine (varPutText_b p.nm (by omega) (HB2.out.ext (Ext.drewN wa 1)) (by omega)).mono ?_
          rintro e w2' ⟨a2, c2, n2, rfl, hB2, hx2, hn2, ho2⟩
          have HBA := Lib.hid hB2
          have HXB := Lib.hid ((Ext.drewN wa 1).trans hx2)
          clear hB2 hx2
          go_wp2_with fail
          refine thenX_mk (turned_of_ext HXB.out) (wpPlan_one ?_)
          simp only [pickOps, List.getElem?_cons_succ, List.getElem?_cons_zero]
          go_wp2_with fail
          have q2 := HPM.out.2.1
          refine (varPutInt_b p.a (by omega) (by omega) HBA.out (by omega)).mono ?_
          rintro e w3' ⟨a3, c3, n3, rfl, hB3, hx3, hn3, ho3⟩
          have HBC := Lib.hid hB3
          have HXC := Lib.hid (HXB.out.trans hx3)
          clear hB3 hx3 HBA HXB ho2
          go_wp2_with fail
          refine thenX_mk (turned_of_ext HXC.out) (wpPlan_one ?_)
          simp only [pickOps, List.getElem?_cons_succ, List.getElem?_cons_zero]
          go_wp2_with fail
          have q3 := HPM.out.2.2.1
          refine (varPutInt_b p.b (by omega) (by omega) HBC.out (by omega)).mono ?_
          rintro e w4' ⟨a4, c4, n4, rfl, hB4, hx4, hn4, ho4⟩
          have HBD := Lib.hid hB4
          have HXD := Lib.hid (HXC.out.trans hx4)
          have HOD := Lib.hid (fun q hq => Nat.le_trans HXC.out.size (ho4 q hq))
          clear hB4 hx4 HBC HXC ho3 ho4
          obtain ⟨da, dn, dc, hd, -⟩ := HKA.out.blk
          have HDD := Lib.hid (HXD.out.keep hd)
          have HFD := Lib.hid (HXD.out.keep HFX.out)
          have d0 := cell_of_block HDD.out 0
          have z0 := free_of_block HDD.out 0
          have HBE := Lib.hid (HKA.out.put' (k' := 94 + 70 + 104 * k) HXD.out HBD.out (by omega) HOD.out)
          have HFE := Lib.hid (((setCell_chg w4' d 0 (.slice a4 n4 c4)).block _ (block_lt HFD.out) HDF.out).trans HFD.out)
          have HCE : Hid (Chg (· = d) wn (w4'.setCell ⟨d, 0, none⟩ (.slice a4 n4 c4))) := Lib.hid ((HCA.out.trans (Chg.of_ext HXD.out) (fun _ _ e => e)).trans (setCell_chg w4' d 0 _) (fun _ _ e => e))
          clear HB2 HBD HXD HOD HDD HFD HKA HCA hd
          go_wp2_with fail
          refine thenX_last (wpPlan_one ?_)
          simp only [pickOps, List.getElem?_cons_succ, List.getElem?_cons_zero]
          go_wp2_with fail
          clear d0 z0
          generalize World.setCell _ _ _ = w6 at *
          refine thenX_last (wpPlan_done ?_)
          have f3 := cell_of_block HFE.out 3
          go_wp2_with fail
          refine (bytesNum_any w _ d _ _ _ HBE.out (by omega)).mono ?_
          rintro e wz ⟨rfl, hB, hC⟩
          rw [HNX.out] at hB
          have HBZ := Lib.hid hB
          have HCZ := Lib.hid (HCE.out.trans hC (fun _ _ e => e))
          clear hB hC f3
          go_wp2_with fail
          go_roundw
          case rel => exact ⟨k + 1, by omega, by go_num, Lib.hid ⟨by obtain ⟨a, n, c, h1, h2, h3, h4⟩ := HBZ.out.blk; exact ⟨a, n, c, h1, h2, by omega, h4⟩, HBZ.out.new, HBZ.out.ext⟩, HCZ⟩
          case measure => simp [RowKit.intOf]; omega
        · obtain rfl : k = fn := by omega
          have hFL : Hid (L1 ++ (fl.take k).flatMap filP = L1 ++ fl.flatMap filP) := Lib.hid (by rw [List.take_of_length_le (by rw [HFN.out]; exact Nat.le_refl _)])
          rw [hFL.out] at HK
          have HK5 := Lib.hid (HP.out.1)
          have hk512 : k ≤ 512 := by have := HFN.out; have := HK5.out; omega
          go_wp2_with fail
          go_meet
          exact ⟨rfl, Lib.hid ⟨by obtain ⟨a, n, c, h1, h2, h3, h4⟩ := HK.out.blk; exact ⟨a, n, c, h1, h2, by omega, h4⟩, HK.out.new, HK.out.ext⟩, HC⟩
    case rest =>
      obtain ⟨rfl, HBB2, HCC⟩ := hcut
      have HBX := Lib.hid ((HCC.out.block _ (block_lt HBX.out) (by have := HNE.out; omega)).trans HBX.out)
      have HTI := Lib.hid (HS.out.ti.ext HBB2.out.ext)
      have HLL : Hid (L1 ++ fl.flatMap filP ++ varP (u64n (tn : Int)) ++ ti.flatMap tirP = staP ⟨x, r, q, ⟨b, t, g⟩, fl, ti⟩) := Lib.hid (by rw [hL1]; simp [staP, HFN.out, HTN.out])
      clear HBB HCC
      have HBB := HBB2
      clear HBB2 hL1
      ((try clear c0 c1 c2 c3 c4 c5 c6 c7); have c0 := cell_of_block HBX.out 0; have c1 := cell_of_block HBX.out 1; have c2 := cell_of_block HBX.out 2; have c3 := cell_of_block HBX.out 3; have c4 := cell_of_block HBX.out 4; have c5 := cell_of_block HBX.out 5; have c6 := cell_of_block HBX.out 6; have c7 := cell_of_block HBX.out 7)
      go_wp2_with fail
      (
          refine (bytesNum_any w _ d _ _ _ HBB.out (by omega)).mono ?_
          rintro e wn ⟨rfl, hB, hC⟩
          replace HBB := Lib.hid hB
          replace HBX := Lib.hid ((hC.block _ (block_lt HBX.out) (by have := HNE.out; omega)).trans HBX.out)
          clear hB hC
          ((try clear c0 c1 c2 c3 c4 c5 c6 c7); have c0 := cell_of_block HBX.out 0; have c1 := cell_of_block HBX.out 1; have c2 := cell_of_block HBX.out 2; have c3 := cell_of_block HBX.out 3; have c4 := cell_of_block HBX.out 4; have c5 := cell_of_block HBX.out 5; have c6 := cell_of_block HBX.out 6; have c7 := cell_of_block HBX.out 7))
      generalize L1 ++ fl.flatMap filP ++ varP (u64n (tn : Int)) = L3 at *
      go_wp2_with fail
      go_loopw [65] (fun i wr => ∃ k : Nat, k ≤ tn ∧ i = .int .i64 k ∧ Hid (BoxB w d (L3 ++ (ti.take k).flatMap tirP) (60000 + 114 * k) wr) ∧ Hid (Chg (· = d) wn wr)) (fun i _ => tn - (RowKit.intOf i).toNat)
      case atStart => exact ⟨0, by omega, rfl, Lib.hid (by simp only [List.take_zero, List.flatMap_nil, List.append_nil]; obtain ⟨a, n, c, h1, h2, h3, h4⟩ := HBB.out.blk; exact ⟨⟨a, n, c, h1, h2, by omega, h4⟩, HBB.out.new, HBB.out.ext⟩), Lib.hid (Chg.refl _ _)⟩
      case round =>
        obtain ⟨k, hk, rfl, HK, HC⟩ := hrel
        by_cases hlt : k < tn
        · obtain ⟨fb, fo, p, rfl, hp, p0, p1, p2, p3, p4⟩ := trs_src (HS.out.ti.ext HK.out.ext) hlt
          have hpm := (HP.out.2.2.2) p (List.mem_of_getElem? hp)
          have HPM := Lib.hid (trR_parts hpm)
          have HK5 := Lib.hid (HP.out.2.1)
          have hk512 : k ≤ 4 := by have := HTN.out; have := HK5.out; simp only at *; omega
          have HNX : Hid (L3 ++ (ti.take k).flatMap tirP ++ tirP p = L3 ++ (ti.take (k + 1)).flatMap tirP) := Lib.hid (by
            rw [List.take_add_one, (show ti[k]? = some p from hp)]
            simp [List.append_assoc])
          clear hpm hp
          go_upto_region 20 with fail
          obtain ⟨f, hf⟩ : ∃ f, f = wr.heap.size := ⟨_, rfl⟩
          have HDF : Hid (f ≠ d) := Lib.hid (by
            obtain ⟨_, _, _, hb, _⟩ := HK.out.blk
            have := block_lt hb
            omega)
          have HFE : Hid ((wr.alloc (.cells #[.int .i64 p.w, .int .i64 p.o, .int .i64 p.u, .bool p.m, .string p.f] 76 (0, 0))).heap[f]? = some (.cells #[.int .i64 p.w, .int .i64 p.o, .int .i64 p.u, .bool p.m, .string p.f] 76 (0, 0))) := Lib.hid (by rw [hf]; exact heap_alloc_new wr _)
          have HXA := Lib.hid ((Ext.refl wr).alloc (.cells #[.int .i64 p.w, .int .i64 p.o, .int .i64 p.u, .bool p.m, .string p.f] 76 (0, 0)))
          rw [← hf]
          clear hf p0 p1 p2 p3 p4 c0 c1 c2 c3 c4 c5 c6 c7
          generalize wr.alloc _ = wa at *
          have HBE := Lib.hid (HK.out.ext' HXA.out)
          have HCE := Lib.hid (HC.out.trans (Chg.of_ext HXA.out) (fun _ _ e => e))
          clear HXA
          have f0 := cell_of_block HFE.out 0
          have f1 := cell_of_block HFE.out 1
          have f3 := cell_of_block HFE.out 3
          obtain ⟨pw, po, pu, pm, pf⟩ := p
          simp only at *
          go_wp2_with fail
          (
              refine (bytesNum_any w _ d _ _ _ HBE.out (by omega)).mono ?_
              rintro e wz ⟨rfl, hB, hC⟩
              replace HBE := Lib.hid hB
              replace HFE := Lib.hid ((hC.block _ (block_lt HFE.out) HDF.out).trans HFE.out)
              replace HCE := Lib.hid (HCE.out.trans hC (fun _ _ e => e))
              clear hB hC f0 f1 f3
              have f0 := cell_of_block HFE.out 0
              have f1 := cell_of_block HFE.out 1
              have f3 := cell_of_block HFE.out 3)
          go_wp2_with fail
          (
              refine (bytesNum_any w _ d _ _ _ HBE.out (by omega)).mono ?_
              rintro e wz ⟨rfl, hB, hC⟩
              replace HBE := Lib.hid hB
              replace HFE := Lib.hid ((hC.block _ (block_lt HFE.out) HDF.out).trans HFE.out)
              replace HCE := Lib.hid (HCE.out.trans hC (fun _ _ e => e))
              clear hB hC f0 f1 f3
              have f0 := cell_of_block HFE.out 0
              have f1 := cell_of_block HFE.out 1
              have f3 := cell_of_block HFE.out 3)
          cases pm
          · have HNY : Hid (L3 ++ (ti.take k).flatMap tirP ++ varP (u64n pw) ++ varP (u64n po) ++ varP (u64n 0) = L3 ++ (ti.take (k + 1)).flatMap tirP) := Lib.hid (by rw [← HNX.out]; simp [tirP])
            clear HNX
            go_wp2_with fail
            (
                refine (bytesNum_any w _ d _ _ _ HBE.out (by omega)).mono ?_
                rintro e wz ⟨rfl, hB, hC⟩
                replace HBE := Lib.hid hB
                replace HFE := Lib.hid ((hC.block _ (block_lt HFE.out) HDF.out).trans HFE.out)
                replace HCE := Lib.hid (HCE.out.trans hC (fun _ _ e => e))
                clear hB hC f0 f1 f3
                have f0 := cell_of_block HFE.out 0
                have f1 := cell_of_block HFE.out 1
                have f3 := cell_of_block HFE.out 3)
            rw [HNY.out] at HBE
            go_wp2_with fail
            go_roundw
            case rel => exact ⟨k + 1, by omega, by go_num, Lib.hid ⟨by obtain ⟨a, n, c, h1, h2, h3, h4⟩ := HBE.out.blk; exact ⟨a, n, c, h1, h2, by omega, h4⟩, HBE.out.new, HBE.out.ext⟩, HCE⟩
            case measure => simp [RowKit.intOf]; omega
          · have HNY : Hid (L3 ++ (ti.take k).flatMap tirP ++ varP (u64n pw) ++ varP (u64n po) ++ varP (u64n 1) ++ varP (zig pu) ++ txtP pf = L3 ++ (ti.take (k + 1)).flatMap tirP) := Lib.hid (by rw [← HNX.out]; simp [tirP])
            clear HNX
            go_wp2_with fail
            (
                refine (bytesNum_any w _ d _ _ _ HBE.out (by omega)).mono ?_
                rintro e wz ⟨rfl, hB, hC⟩
                replace HBE := Lib.hid hB
                replace HFE := Lib.hid ((hC.block _ (block_lt HFE.out) HDF.out).trans HFE.out)
                replace HCE := Lib.hid (HCE.out.trans hC (fun _ _ e => e))
                clear hB hC f0 f1 f3
                have f0 := cell_of_block HFE.out 0
                have f1 := cell_of_block HFE.out 1
                have f3 := cell_of_block HFE.out 3)
            obtain ⟨hfs, hu0, hu1⟩ : pf.size ≤ 64 ∧ -1152921504606846976 ≤ pu ∧ pu ≤ 1152921504606846976 := by have := HPM.out.2.2.2.2 (by trivial); omega
            go_upto_region 24 with fail
            obtain ⟨va2, vn2, vc2, hb, hB, hvn2, -⟩ := HBE.out.blk
            have HB2 := Lib.hid hB
            clear f0 f1 f3
            have f4 := cell_turned (T := fun _ => false) (cell_of_block hb 0) rfl
            have f2 := cell_turned (T := fun _ => false) (cell_of_block HFE.out 2) rfl
            have f5 := cell_turned (T := fun _ => false) (cell_of_block HFE.out 4) rfl
            clear hB hb
            refine wp_region_plan 6 (fun w' => ∃ p : Turned, w' = turned wz (fun _ => false) p.d p.f p.os) (.reads [0, 1, 2, 4, 5] (.one 3 (.one 6 (.one 7 .done)))) (by kernel_rfl) (by kernel_rfl) (fun _ _ dd _ _ hh => by cases dd <;> exact hh) ?_ ?_
            · exact turned_of_ext (Ext.drewN wz 1)
            refine wpPlan_reads ?_
            simp only [pickOps, List.getElem?_cons_succ, List.getElem?_cons_zero]
            iterate 5 (go_big_quiet_step (fail))
            refine wpQuiet_nil ?_
            clear f2 f4 f5
            refine wpPlan_one ?_
            simp only [pickOps, List.getElem?_cons_succ, List.getElem?_cons_zero]
            go_wp2_with fail
            refine (varPutInt_b pu (by omega) (by omega) (HB2.out.ext (Ext.drewN wz 1)) (by omega)).mono ?_
            rintro e w2' ⟨a2, c2, n2, rfl, hB2, hx2, hn2, ho2⟩
            have HBA := Lib.hid hB2
            have HXB := Lib.hid ((Ext.drewN wz 1).trans hx2)
            clear hB2 hx2
            go_wp2_with fail
            refine thenX_mk (turned_of_ext HXB.out) (wpPlan_one ?_)
            simp only [pickOps, List.getElem?_cons_succ, List.getElem?_cons_zero]
            go_wp2_with fail
            refine (varPutText_b pf (by omega) HBA.out (by omega)).mono ?_
            rintro e w3' ⟨a3, c3, n3, rfl, hB3, hx3, hn3, ho3⟩
            have HBD := Lib.hid hB3
            have HXD := Lib.hid (HXB.out.trans hx3)
            have HOD := Lib.hid (fun q hq => Nat.le_trans HXB.out.size (ho3 q hq))
            clear hB3 hx3 HBA HXB ho2 ho3
            rw [HNY.out] at HBD
            obtain ⟨da, dn, dc, hd, -⟩ := HBE.out.blk
            have HDD := Lib.hid (HXD.out.keep hd)
            have d0 := cell_of_block HDD.out 0
            have z0 := free_of_block HDD.out 0
            have HBF := Lib.hid (HBE.out.put' (k' := 60000 + 114 * (k + 1)) HXD.out HBD.out (by omega) HOD.out)
            have HCF : Hid (Chg (· = d) wn (w3'.setCell ⟨d, 0, none⟩ (.slice a3 n3 c3))) := Lib.hid ((HCE.out.trans (Chg.of_ext HXD.out) (fun _ _ e => e)).trans (setCell_chg w3' d 0 _) (fun _ _ e => e))
            clear HB2 HBD HXD HOD HDD HBE HCE hd
            go_wp2_with fail
            refine thenX_last (wpPlan_one ?_)
            simp only [pickOps, List.getElem?_cons_succ, List.getElem?_cons_zero]
            go_wp2_with fail
            clear d0 z0
            generalize World.setCell _ _ _ = w7 at *
            refine thenX_last (wpPlan_done ?_)
            go_wp2_with fail
            go_roundw
            case rel => exact ⟨k + 1, by omega, by go_num, HBF, HCF⟩
            case measure => simp [RowKit.intOf]; omega
        · obtain rfl : k = tn := by omega
          have hFL : Hid (L3 ++ (ti.take k).flatMap tirP = staP ⟨x, r, q, ⟨b, t, g⟩, fl, ti⟩) := Lib.hid (by rw [List.take_of_length_le (by rw [HTN.out]; exact Nat.le_refl _)]; exact HLL.out)
          rw [hFL.out] at HK
          have HK5 := Lib.hid (HP.out.2.1)
          have hk512 : k ≤ 4 := by have := HTN.out; have := HK5.out; omega
          obtain ⟨va2, vn2, vc2, hb, hB, hvn2, -⟩ := HK.out.blk
          have HBS := Lib.hid hB
          have d0 := cell_of_block hb 0
          clear hb hB
          go_wp2_with fail
          have HSE : Calls Tryz.prog 45 #[.int .u8 7, .slice va2 vn2 vc2] wr (SealPost wr 7 (staP ⟨x, r, q, ⟨b, t, g⟩, fl, ti⟩)) := seal_any wr 7 va2 vn2 vc2 _ HBS.out.src (by omega)
          refine HSE.mono ?_
          rintro e wz ⟨a, c, rfl, hM⟩
          have HM := Lib.hid (HB.out _ _ ⟨a, c, rfl, hM.trans HK.out.ext⟩)
          clear HSE hM d0
          go_wp2_with fail
          go_ret2
          exact HM.out
  · have HB : Hid (∀ e w', (e = .returned (.tuple #[.slice none 0 0, .int .i64 2]) ∧ Ext w w') → BytesTo w s e w') := Lib.hid (fun e w' h => by unfold BytesTo; rw [if_neg hR]; exact h)
    have hRf : staR s = false := by simpa using hR
    rw [hRf] at HRT
    clear hs hg hR hRf
    obtain ⟨x, r, q, ⟨b, t, g⟩, fl, ti⟩ := s
    go_enter Tryz.func19, Tryz.ntmps19
    go_wp2_with fail
    generalize hW : World.alloc _ _ = W
    have HX0 : Hid (Ext w W) := Lib.hid (by subst hW; exact (Ext.refl w).alloc _)
    clear hW
    refine (HRT.out W HX0.out).mono ?_
    rintro e w1 ⟨rfl, hx⟩
    have HX := Lib.hid (HX0.out.trans hx)
    clear hx
    go_wp2_with fail
    refine bodyPost_ret (v := .tuple #[.slice none 0 0, .int .i64 2]) (by simp [results, Tryz.results19, go_sem]) rfl (HB.out _ _ ⟨rfl, HX.out⟩)
end Go.Proofs.YtgdgjnecgelalaaGreatDoor
