/- tidemillref18.Read: the walk. -/
import Derived.Test.YtgdgjnecgelalaaGreatDoorMr1
import Derived.Test.YtgdgjnecgelalaaGreatDoorMr4
import Derived.Test.YtgdgjnecgelalaaGreatDoorWte
namespace Go.Proofs.YtgdgjnecgelalaaGreatDoor
open Go.RowKit Go.Sort Go.Lib

theorem elem_rfile : ElemOk Tryz.prog 44 88 4 40 :=
  ⟨Tryz.underlying44, by
    obtain ⟨i0, hi, hz0, hz1, hz2⟩ := info_parts (show (Tryz.prog.info? 88).map (fun i => (i.zero, i.size, i.bytes)) = some (some (.agg #[.string ByteArray.empty, .int .i64 0, .int .i64 0, .int .i64 0]), 4, 40) from by kernel_rfl)
    exact ⟨i0, _, hi, hz0, hz1, hz2, rfl⟩, by decide⟩
theorem elem_rtier : ElemOk Tryz.prog 45 89 5 48 :=
  ⟨Tryz.underlying45, by
    obtain ⟨i0, hi, hz0, hz1, hz2⟩ := info_parts (show (Tryz.prog.info? 89).map (fun i => (i.zero, i.size, i.bytes)) = some (some (.agg #[.int .i64 0, .int .i64 0, .int .i64 0, .bool false, .string ByteArray.empty]), 5, 48) from by kernel_rfl)
    exact ⟨i0, _, hi, hz0, hz1, hz2, rfl⟩, by decide⟩
theorem rsta_info : (Tryz.prog.info? 47).map (·.size) = some 8 := by kernel_rfl
theorem rmark_info : (Tryz.prog.info? 43).map (·.size) = some 3 := by kernel_rfl
theorem StaPost.rnone {w w' : World} {e : Ending} (h : e = .returned (.tuple #[.agg (staC staZ .none 0 0 .none 0 0), .int .i64 24])) (hx : Ext w w') : StaPost w .none e w' :=
  ⟨_, _, _, _, _, _, h, hx, ⟨.inl ⟨rfl, rfl, rfl⟩, .inl ⟨rfl, rfl, rfl⟩, ⟨by decide, by decide, by decide, by decide⟩, by decide, by decide⟩⟩
theorem ropenR_len (l : List UInt8) : (openR l).2.1.length ≤ l.length := by
  unfold openR
  repeat (split; · simp)
  simp only [List.length_take, List.length_drop]
  omega
theorem RdAt.over' {t : TypeId} {w0 w : World} {p : Nat} {r : Rd} (h : RdAt t w0 p r w) (b : Bool) : RdAt t w0 p ⟨r.l, b⟩ (w.setCell ⟨p, 1, none⟩ (.bool b)) := by
  obtain ⟨a, n, c, hb, hs⟩ := h.blk
  have b1 := setCell_block hb (i := 1) (.bool b)
  exact ⟨⟨a, n, c, by simpa using b1, hs⟩, h.new, rd_store h.ext h.new (setCell_chg w p 1 (.bool b)), h.et⟩
theorem RdAt.cut {t : TypeId} {w0 w : World} {p : Nat} {l : List UInt8} {bad : Bool} (h : RdAt t w0 p ⟨l, bad⟩ w) {a : Option Addr} {n c k : Nat} (hb : w.heap[p]? = some (.cells #[.slice a n c, .bool bad] t (0, 0))) (hs : SlB w0 a n c l) (hk : k ≤ n) :
    RdAt t w0 p ⟨l.drop k, bad⟩ (w.setCell ⟨p, 0, none⟩ (.slice (cutA a c k) (n - k) (c - k))) := by
  have b1 := setCell_block hb (i := 0) (.slice (cutA a c k) (n - k) (c - k))
  exact ⟨⟨_, _, _, by simpa using b1, hs.cut hk⟩, h.new, rd_store h.ext h.new (setCell_chg w p 0 _), h.et⟩

/-- The document's end. -/
def refTail (x y z : Int) (m : Mk) (N : Int) (F : List Fl) (M : Int) (T : List Tr) (r : Rd) : Option Sta :=
  if r.bad = true ∨ r.l ≠ [] ∨ (F.length : Int) ≠ N ∨ (T.length : Int) ≠ M ∨ staR ⟨x, y, z, m, F, T⟩ = false then none else some ⟨x, y, z, m, F, T⟩
theorem refFrom_eq {x y z : Int} {m : Mk} {r4 r5 r6 r7 r8 : Rd} {N M : Int} {F : List Fl} {T : List Tr} (h1 : (N, r5) = rdNum r4) (h2 : (F, r6) = loopR flStp (min N.toNat 513) ([], r5)) (h3 : (M, r7) = rdNum r6) (h4 : (T, r8) = loopR trStp (min M.toNat 5) ([], r7)) :
    refFrom x y z m r4 = refTail x y z m N F M T r8 := by
  unfold refFrom
  rw [← h1]
  simp only
  rw [← h2]
  simp only
  rw [← h3]
  simp only
  rw [← h4]
  rfl
theorem rdTr_over (d o m : Int) (r : Rd) : rdTrM d o m (rdOver m r) = ((rdTrM d o m r).1, rdOver m (rdTrM d o m r).2) := by
  unfold rdTrM
  split
  · rename_i h
    subst h
    have e : ∀ r : Rd, rdOver 1 r = r := fun r => by unfold rdOver; simp
    simp only [e]
  · rfl

set_option maxHeartbeats 16000000 in
set_option maxRecDepth 100000 in
theorem ref18Read_any (w : World) (a : Option Addr) (n c : Nat) (l : List UInt8) (hl : SlB w a n c l) (hn : n ≤ 1099511627776) (hg : HasET w) :
    Calls Tryz.prog 38 #[.slice a n c] w (StaPost w (refRd l)) := by
  have HL := Lib.hid hl
  have HG := Lib.hid hg
  have HR : Hid (refRd l = if (openR l).2.2 ≠ 0 ∨ (openR l).1 ≠ 7 then none
      else refHead (rdNum ⟨(openR l).2.1, false⟩).1 (rdNum (rdNum ⟨(openR l).2.1, false⟩).2).1 (rdNum (rdNum (rdNum ⟨(openR l).2.1, false⟩).2).2).1 (rdNum (rdNum (rdNum ⟨(openR l).2.1, false⟩).2).2).2) := Lib.hid rfl
  clear hl hg
  go_enter Tryz.func38, Tryz.ntmps38
  go_upto_region 1 with fail
  obtain ⟨g, hg⟩ : ∃ g, g = w.heap.size := ⟨_, rfl⟩
  rw [← hg]
  generalize hW : w.alloc _ = wa
  have hxa : Ext w wa := by rw [← hW]; exact (Ext.refl w).alloc _
  have HB0 : Hid (wa.heap[g]? = some (.cells #[.int .i64 0, .int .i64 0, .int .i64 0, .bool false, .int .i64 0, .int .i64 0, .slice none 0 0, .slice none 0 0] 47 (0, 0))) := Lib.hid (by rw [← hW, hg]; exact heap_alloc_new w _)
  have HXA := Lib.hid hxa
  have HGW := Lib.hid hg
  clear hW hg hxa
  go_wp2_with fail
  refine (ref4open_any wa a n c l (HL.out.src.ext HXA.out) HL.out.le hn).mono ?_
  rintro e w1 ⟨a1, c1, rfl, hm⟩
  have HB1 := Lib.hid (hm.ext.keep HB0.out)
  have HX1 := Lib.hid (HXA.out.trans hm.ext)
  have HM := Lib.hid hm
  clear hm HB0 HXA
  obtain ⟨⟨k, b, x⟩, ho⟩ : ∃ o, o = openR l := ⟨_, rfl⟩
  rw [← ho] at HM HR ⊢
  have HO := Lib.hid ho
  simp only at HR HM
  clear ho
  by_cases hx0 : x = 0
  · subst hx0
    by_cases hk : k = 7
    · subst hk
      have HR2 : Hid (refRd l = refHead (rdNum ⟨b, false⟩).1 (rdNum (rdNum ⟨b, false⟩).2).1 (rdNum (rdNum (rdNum ⟨b, false⟩).2).2).1 (rdNum (rdNum (rdNum ⟨b, false⟩).2).2).2) := Lib.hid (by rw [HR.out]; simp)
      clear HR
      go_upto_region 5 with fail
      obtain ⟨p, hp⟩ : ∃ p, p = w1.heap.size := ⟨_, rfl⟩
      rw [← hp]
      generalize hW : w1.alloc _ = w5
      have hx5 : Ext w1 w5 := by rw [← hW]; exact (Ext.refl w1).alloc _
      have hbp : w5.heap[p]? = some (.cells #[.slice a1 b.length c1, .bool false] 131 (0, 0)) := by
        rw [← hW, hp]
        exact heap_alloc_new w1 _
      have hRD : RdAt 131 w1 p ⟨b, false⟩ w5 := ⟨⟨_, _, _, hbp, ⟨HM.out.row.src (u8s_one _), bufRow_le HM.out.row, by
        have := ropenR_len l
        rw [← HO.out] at this
        simp only at this
        have := HL.out.len
        omega⟩⟩, by omega, hx5, HG.out.ext HX1.out⟩
      have HRD := Lib.hid hRD
      have HP : Hid (p = w1.heap.size ∧ w.heap.size ≤ g ∧ g < p) := Lib.hid (by have h1 := block_lt HB1.out; have h2 := HGW.out; refine ⟨hp, ?_, ?_⟩ <;> omega)
      have HB5 := Lib.hid (hx5.keep HB1.out)
      have HX5 := Lib.hid (HX1.out.trans hx5)
      clear hW hp hx5 hbp hRD HB1 HM HX1 HO HGW HL
      go_wp2_with fail
      refine (refrdNum_any w1 w5 p _ HRD.out).mono ?_
      rintro e w6 ⟨rfl, hr, hc⟩
      have H6 := Lib.hid hr
      have HC6 := Lib.hid hc
      clear hr hc HRD
      go_wp2_with fail
      refine (refrdNum_any w1 w6 p _ H6.out).mono ?_
      rintro e w7 ⟨rfl, hr, hc⟩
      have H7 := Lib.hid hr
      have HC7 := Lib.hid (HC6.out.trans hc (fun _ _ e => e))
      clear hr hc H6 HC6
      go_wp2_with fail
      refine (refrdNum_any w1 w7 p _ H7.out).mono ?_
      rintro e w8 ⟨rfl, hr, hc⟩
      have H8 := Lib.hid hr
      have HC8 := Lib.hid (HC7.out.trans hc (fun _ _ e => e))
      clear hr hc H7 HC7
      generalize (rdNum (rdNum (rdNum ⟨b, false⟩).2).2).2 = r3 at *
      generalize (rdNum (rdNum (rdNum ⟨b, false⟩).2).2).1 = z at *
      generalize (rdNum (rdNum ⟨b, false⟩).2).1 = y at *
      generalize (rdNum ⟨b, false⟩).1 = x at *
      have HB8 := Lib.hid ((HC8.out.block g (block_lt HB5.out) (by have := HP.out; omega)).trans HB5.out)
      go_upto_region 6 with fail
      obtain ⟨q, hq⟩ : ∃ q, q = w8.heap.size := ⟨_, rfl⟩
      rw [← hq]
      generalize hW : w8.alloc _ = w9
      have hx9 : Ext w8 w9 := by rw [← hW]; exact (Ext.refl w8).alloc _
      have HBQ : Hid (w9.heap[q]? = some (.cells #[.int .i64 x, .int .i64 y, .int .i64 z, .bool false, .int .i64 0, .int .i64 0, .slice none 0 0, .slice none 0 0] 47 (0, 0))) := Lib.hid (by rw [← hW, hq]; exact heap_alloc_new w8 _)
      have HQP : Hid (p < q ∧ g < p ∧ w.heap.size ≤ g ∧ w1.heap.size ≤ p) := Lib.hid (by have := HP.out; have := H8.out.lt; omega)
      have H9 := Lib.hid (H8.out.ext' hx9)
      have HC9 : Hid (Chg (fun k => w.heap.size ≤ k) w w9) := Lib.hid (((Chg.of_ext HX5.out).trans HC8.out (fun i hi e => by have := HQP.out; omega)).trans (Chg.of_ext (S := fun _ => False) hx9) (fun _ _ e => e.elim))
      have HB9 := Lib.hid (hx9.keep HB8.out)
      clear hW hx9 hq H8 HC8 HB8 HX5 HB5 HP
      obtain ⟨l3, b3⟩ := r3
      obtain ⟨a3, n3, c3, hb3, hs3⟩ := H9.out.blk
      have HS3 := Lib.hid (hs3.ext H9.out.ext)
      have c0 := cell_of_block hb3 0
      clear hb3 hs3
      go_wp2_with fail
      refine (ref17Read_any w9 a3 n3 c3 l3 HS3.out).mono ?_
      rintro e w10 ⟨rfl, hx⟩
      have H10 := Lib.hid (H9.out.ext' hx)
      have HBQ10 := Lib.hid (hx.keep HBQ.out)
      have HB10 := Lib.hid (hx.keep HB9.out)
      have HC10 := Lib.hid (HC9.out.trans (Chg.of_ext (S := fun _ => False) hx) (fun _ _ e => e.elim))
      clear hx c0 H9 HBQ HB9 HC9
      have HMO := Lib.hid (markR_ok l3)
      have HML := Lib.hid (markR_le l3)
      replace HR2 : Hid (refRd l = if (markR l3).2.2 ≠ 0 ∨ b3 = true then none else refFrom x y z (markR l3).1 ⟨l3.drop (markR l3).2.1, false⟩) := Lib.hid HR2.out
      obtain ⟨⟨⟨ms, mt, mg⟩, j, f⟩, hmr⟩ : ∃ m, m = markR l3 := ⟨_, rfl⟩
      rw [← hmr] at HMO HML HR2 ⊢
      simp only at HMO HML HR2
      clear hmr
      go_upto_region 7 with fail
      obtain ⟨t, ht⟩ : ∃ t, t = w10.heap.size := ⟨_, rfl⟩
      rw [← ht]
      generalize hW : w10.alloc _ = w11
      have hx11 : Ext w10 w11 := by rw [← hW]; exact (Ext.refl w10).alloc _
      have HBT : Hid (w11.heap[t]? = some (.cells #[.bool ms, .int .i64 mt, .int .i64 mg] 43 (0, 0))) := Lib.hid (by rw [← hW, ht]; exact heap_alloc_new w10 _)
      have H11 := Lib.hid (H10.out.ext' hx11)
      have HBQ11 := Lib.hid (hx11.keep HBQ10.out)
      have HB8 := Lib.hid (hx11.keep HB10.out)
      have HC8 := Lib.hid (HC10.out.trans (Chg.of_ext (S := fun _ => False) hx11) (fun _ _ e => e.elim))
      have HTQ : Hid (q < t) := Lib.hid (by have := block_lt HBQ10.out; omega)
      clear hx11 hW ht H10 HBQ10 HB10 HC10
      obtain ⟨a4, n4, c4, hb4, hs4⟩ := H11.out.blk
      have d0 := cell_of_block hb4 0
      have d1 := cell_of_block hb4 1
      have HB4 := Lib.hid hb4
      have HS4 := Lib.hid hs4
      have HN4 := Lib.hid hs4.len
      clear hb4 hs4
      simp only at HN4 d0 d1 HB4 HS4
      by_cases hf : f = 0
      case neg =>
        have hfe : (f == 0) = false := by simp [hf]
        have hfn : (f != 0) = true := by simp [hf]
        replace HR2 : Hid (refRd l = none) := Lib.hid (by rw [HR2.out, if_pos (.inl hf)])
        clear hf d0 d1
        (
            go_wp2_with (first | (refine wpList_store_box rfl _ _ _ rfl _ _ _ _ rfl rfl HB8.out rfl rsta_info (by simp [Value.oneCell']) ?_; rintro wx hbx hcx; have HBX := Lib.hid hbx; have HCX := Lib.hid hcx; clear hbx hcx))
            refine bodyPost_ret (results_box_tmp Tryz.results38 _ _ rfl HBX.out Tryz.underlying47 rfl rsta_info) rfl ?_
            rw [HR2.out]
            exact StaPost.rnone rfl ((HC8.out.trans HCX.out (fun i hi e => by have := HQP.out; omega)).ext (fun i hi e => by omega)))
      subst hf
      cases b3
      case true =>
        replace HR2 : Hid (refRd l = none) := Lib.hid (by rw [HR2.out, if_pos (.inr rfl)])
        (
            go_wp2_with (first | (refine wpList_store_box rfl _ _ _ rfl _ _ _ _ rfl rfl HB8.out rfl rsta_info (by simp [Value.oneCell']) ?_; rintro wx hbx hcx; have HBX := Lib.hid hbx; have HCX := Lib.hid hcx; clear hbx hcx))
            refine bodyPost_ret (results_box_tmp Tryz.results38 _ _ rfl HBX.out Tryz.underlying47 rfl rsta_info) rfl ?_
            rw [HR2.out]
            exact StaPost.rnone rfl ((HC8.out.trans HCX.out (fun i hi e => by have := HQP.out; omega)).ext (fun i hi e => by omega)))
      replace HR2 : Hid (refRd l = refFrom x y z ⟨ms, mt, mg⟩ ⟨l3.drop j, false⟩) := Lib.hid (by rw [HR2.out, if_neg (by simp)])
      go_upto_region 9 with fail
      clear d0 d1
      have t0 := cell_of_block HBT.out 0
      have t1 := cell_of_block HBT.out 1
      have t2 := cell_of_block HBT.out 2
      have HCT : Hid (w.heap.size ≤ t) := Lib.hid (by have h1 := HBT.out; have h2 := HBQ11.out; have h3 := HQP.out; have h4 := HTQ.out; omega)
      go_upto_region 10 with (first | (refine wpList_store_part rfl _ _ _ rfl q 3 _ _ #[.int .i64 x, .int .i64 y, .int .i64 z, .bool ms, .int .i64 mt, .int .i64 mg, .slice none 0 0, .slice none 0 0] _ rfl rfl HBQ11.out (by simp) rfl rmark_info (by simp [Value.oneCell']) ?_; rintro w12 hbx hcx; have HBQ12 := Lib.hid hbx; have HC12 := Lib.hid hcx; clear hbx hcx))
      have h12 := H11.out.chg HC12.out (fun e => by have := HQP.out; omega) (fun i hi => by have := HQP.out; omega)
      have HB12 := Lib.hid ((HC12.out.block p (block_lt HB4.out) (by have := HQP.out; omega)).trans HB4.out)
      have HB8b := Lib.hid ((HC12.out.block g (block_lt HB8.out) (by have := HQP.out; omega)).trans HB8.out)
      have HC8b := Lib.hid (HC8.out.trans HC12.out (fun i hi e => by have := HQP.out; omega))
      have hjn : j ≤ n4 := by have := HML.out; have := HN4.out; omega
      have HCUT := Lib.hid (h12.cut HB12.out HS4.out hjn)
      have hs1 := run_slice_lo Tryz.underlying56 sz_u8 a4 n4 c4 j hjn
      have d0 := cell_of_block HB12.out 0
      have z0 := free_of_block HB12.out 0
      clear h12 t0 t1 t2 HBT H11 HB4 HS4 HN4 HML HB8 HC8 HBQ11 HC12 HCT HTQ hjn
      generalize cutA a4 c4 j = a5 at *
      generalize n4 - j = n5 at *
      generalize c4 - j = c5 at *
      generalize l3.drop j = l5 at *
      go_upto_region 11 with fail
      have HBQ13 := Lib.hid (((setCell_chg w12 p 0 (.slice a5 n5 c5)).block q (block_lt HBQ12.out) (by have := HQP.out; omega)).trans HBQ12.out)
      have HB13 := Lib.hid (((setCell_chg w12 p 0 (.slice a5 n5 c5)).block g (block_lt HB8b.out) (by have := HQP.out; omega)).trans HB8b.out)
      have HC13 := Lib.hid (HC8b.out.trans (setCell_chg w12 p 0 (.slice a5 n5 c5)) (fun i hi e => by have := HQP.out; omega))
      clear d0 z0 hs1 HB12 HB8b HC8b HBQ12
      generalize World.setCell _ _ _ = w13 at *
      go_wp2_with fail
      refine (refrdNum_any w1 w13 p _ HCUT.out).mono ?_
      rintro e w14 ⟨rfl, hr, hc⟩
      have HBQ14 := Lib.hid ((hc.block q (block_lt HBQ13.out) (by have := HQP.out; omega)).trans HBQ13.out)
      have HB14 := Lib.hid ((hc.block g (block_lt HB13.out) (by have := HQP.out; omega)).trans HB13.out)
      have HC14 := Lib.hid (HC13.out.trans hc (fun i hi e => by have := HQP.out; omega))
      have HNL := Lib.hid (rdNum_lo ⟨l5, false⟩)
      obtain ⟨⟨N, r5⟩, hN⟩ : ∃ x, x = rdNum ⟨l5, false⟩ := ⟨_, rfl⟩
      rw [← hN] at hr HNL ⊢
      have HNR := Lib.hid hN
      simp only at hr HNL
      have HG0 : Hid (StG w14 w1 q p 131 47 88 6 4 #[.int .i64 x, .int .i64 y, .int .i64 z, .bool ms, .int .i64 mt, .int .i64 mg, .slice none 0 0, .slice none 0 0] 0 (fls []) r5 w14) :=
        Lib.hid ⟨⟨none, 0, by simpa using HBQ14.out, Row.nil _ _ _, fun g hg => by simp [Value.ownBlock] at hg⟩, hr, Chg.refl _ _, block_lt HBQ14.out, hr.lt, by have := HQP.out; omega, by have := HQP.out; omega⟩
      clear hc hr hN HCUT HBQ13 HB13 HC13
      obtain ⟨N, rfl⟩ : ∃ n : Nat, N = (n : Int) := ⟨N.toNat, by have := HNL.out; omega⟩
      have HN60 : Hid (N ≤ 1152921504606846976) := Lib.hid (by have := HNL.out; omega)
      clear HNL
      go_upto_block 0 with fail
      go_cut [12] (fun _ wx => ∃ (F : List Fl) (r : Rd), Hid ((F, r) = loopR flStp (min N 513) ([], r5)) ∧ Hid (StG w14 w1 q p 131 47 88 6 4 #[.int .i64 x, .int .i64 y, .int .i64 z, .bool ms, .int .i64 mt, .int .i64 mg, .slice none 0 0, .slice none 0 0] F.length (fls F) r wx))
      case first =>
        clear HR2 HB14 HC14 HNR HG
        go_wp2_with fail
        go_loopw [12] (fun si wr => ∃ (k : Nat) (F : List Fl) (r : Rd), k ≤ N ∧ k ≤ 513 ∧ si = .int .i64 k ∧ Hid ((F, r) = loopR flStp k ([], r5)) ∧ Hid (StG w14 w1 q p 131 47 88 6 4 #[.int .i64 x, .int .i64 y, .int .i64 z, .bool ms, .int .i64 mt, .int .i64 mg, .slice none 0 0, .slice none 0 0] F.length (fls F) r wr)) (fun si _ => N - (RowKit.intOf si).toNat)
        case atStart => exact ⟨0, [], r5, by omega, by omega, rfl, Lib.hid rfl, HG0⟩
        case round =>
          obtain ⟨k, F, r, hk, hk2, rfl, HL, HGk⟩ := hrel
          obtain ⟨ap, np, cp, hbp, -⟩ := HGk.out.rd.blk
          have d1 := cell_of_block hbp 1
          obtain ⟨lr, br⟩ := r
          simp only at d1
          clear hbp
          by_cases hlt : k < N
          · by_cases hlt2 : k < 513
            · cases br
              · have hlti : (k : Int) < (N : Int) := by omega
                have hlti2 : (k : Int) < 513 := by omega
                have hFk : F.length ≤ 513 := by
                  have := loop_len_le fl_len (s := ([], r5)) (k := k)
                  rw [← HL.out] at this
                  simp at this
                  omega
                obtain ⟨fa, fc, hbq, -, hown⟩ := HGk.out.blk
                have HOWN := Lib.hid hown
                have HBq := Lib.hid hbq
                have f0 := cell_turned (T := fun k => k == p) (a := ⟨q, 6, none⟩) (v := .slice fa F.length fc) (by rw [cell_of_block hbq 6]; rfl) (by have := HGk.out.qp; simpa using this)
                clear hown hbq
                go_upto_region 15 with fail
                have HT : Hid (loopR flStp (k + 1) ([], r5) = (F ++ [(rdFl ⟨lr, false⟩).1], (rdFl ⟨lr, false⟩).2)) := Lib.hid (by
                  show (if (loopR flStp k ([], r5)).2.bad = true then _ else _) = _
                  rw [← HL.out]
                  rfl)
                have HRF : Hid (rdFl ⟨lr, false⟩ = (⟨(rdText ⟨lr, false⟩).1, (rdInt (rdText ⟨lr, false⟩).2).1, (rdInt (rdInt (rdText ⟨lr, false⟩).2).2).1, (rdNum (rdInt (rdInt (rdText ⟨lr, false⟩).2).2).2).1⟩, (rdNum (rdInt (rdInt (rdText ⟨lr, false⟩).2).2).2).2)) := Lib.hid rfl
                generalize rdFl ⟨lr, false⟩ = y at *
                have HTU : Hid (∀ w', Chg (· = p) wr w' → ∃ z : Turned, w' = turned wr (fun k => k == p) z.d z.f z.os) := Lib.hid (fun w' hx => turned_of_chg (hx.mono (fun _ _ e => by simpa using e)))
                have HGA := Lib.hid (HGk.out.ext' (Ext.drewN wr 1))
                have HCH := Lib.hid (Chg.of_ext (S := (· = p)) (Ext.drewN wr 1))
                have HQp := Lib.hid HGk.out.qp
                clear HL HGk d1
                refine wp_region_plan 12 (fun w' => ∃ z : Turned, w' = turned wr (fun k => k == p) z.d z.f z.os) (.reads [0, 1, 2, 4, 6, 8] (.one 3 (.one 5 (.one 7 (.one 9 (.one 10 (.one 11 (.one 12 (.one 13 (.one 14 .done)))))))))) (by kernel_rfl) (by kernel_rfl) (fun _ _ dd _ _ hh => by cases dd <;> exact hh) ?_ ?_
                · exact turned_of_ext (Ext.drewN wr 1)
                refine wpPlan_reads ?_
                simp only [pickOps, List.getElem?_cons_succ, List.getElem?_cons_zero]
                repeat (go_big_quiet_step (fail))
                refine wpQuiet_nil ?_
                clear f0
                change wpPlan _ _ _ _ _ _ _ _ (wr.drewN 1)
                generalize wr.drewN 1 = wq at *
                refine wpPlan_one ?_
                simp only [pickOps, List.getElem?_cons_succ, List.getElem?_cons_zero]
                go_wp2_with fail
                refine (refrdText_any w1 _ p _ HGA.out.rd).mono ?_
                rintro e wn1 ⟨rfl, hr, hc⟩
                have HGB := Lib.hid (HGA.out.read hr hc)
                have HCH' := Lib.hid (HCH.out.trans hc (fun _ _ e => e))
                clear hr hc HGA HCH
                have HCH := HCH'
                clear HCH'
                go_wp2_with fail
                refine thenX_mk (HTU.out _ HCH.out) ?_
                refine wpPlan_one ?_
                simp only [pickOps, List.getElem?_cons_succ, List.getElem?_cons_zero]
                go_wp2_with fail
                refine (refrdInt_any w1 _ p _ HGB.out.rd).mono ?_
                rintro e wn2 ⟨rfl, hr, hc⟩
                have HGC := Lib.hid (HGB.out.read hr hc)
                have HCH' := Lib.hid (HCH.out.trans hc (fun _ _ e => e))
                clear hr hc HGB HCH
                have HCH := HCH'
                clear HCH'
                go_wp2_with fail
                refine thenX_mk (HTU.out _ HCH.out) ?_
                refine wpPlan_one ?_
                simp only [pickOps, List.getElem?_cons_succ, List.getElem?_cons_zero]
                go_wp2_with fail
                refine (refrdInt_any w1 _ p _ HGC.out.rd).mono ?_
                rintro e wn3 ⟨rfl, hr, hc⟩
                have HGD := Lib.hid (HGC.out.read hr hc)
                have HCH' := Lib.hid (HCH.out.trans hc (fun _ _ e => e))
                clear hr hc HGC HCH
                have HCH := HCH'
                clear HCH'
                go_wp2_with fail
                refine thenX_mk (HTU.out _ HCH.out) ?_
                refine wpPlan_one ?_
                simp only [pickOps, List.getElem?_cons_succ, List.getElem?_cons_zero]
                go_wp2_with fail
                refine (refrdNum_any w1 _ p _ HGD.out.rd).mono ?_
                rintro e wn4 ⟨rfl, hr, hc⟩
                have HGE := Lib.hid (HGD.out.read hr hc)
                have HCH' := Lib.hid (HCH.out.trans hc (fun _ _ e => e))
                clear hr hc HGD HCH
                have HCH := HCH'
                clear HCH'
                go_wp2_with fail
                refine thenX_mk (HTU.out _ HCH.out) ?_
                refine wpPlan_one ?_
                simp only [pickOps, List.getElem?_cons_succ, List.getElem?_cons_zero]
                go_wp2_with fail
                refine thenX_mk (HTU.out _ HCH.out) ?_
                refine wpPlan_one ?_
                simp only [pickOps, List.getElem?_cons_succ, List.getElem?_cons_zero]
                go_wp2_with fail
                generalize hw2 : wn4.alloc _ = w15
                have hx2 : Ext wn4 w15 := by rw [← hw2]; exact (Ext.refl wn4).alloc _
                have hsrc : Src w15 4 (.slice (some ⟨wn4.heap.size, 0, none⟩) 1 1) 1 (fls [y.1]) := by
                  rw [HRF.out]
                  exact src_fl (p := ⟨(rdText ⟨lr, false⟩).1, (rdInt (rdText ⟨lr, false⟩).2).1, (rdInt (rdInt (rdText ⟨lr, false⟩).2).2).1, (rdNum (rdInt (rdInt (rdText ⟨lr, false⟩).2).2).2).1⟩) (by rw [← hw2]; exact heap_alloc_new wn4 _)
                have HSRC := Lib.hid hsrc
                have HBQ2 := Lib.hid (hx2.keep ((HCH.out.block q (block_lt HBq.out) HQp.out).trans HBq.out))
                have HGF := Lib.hid (HGE.out.ext' hx2)
                have hrow : Row w15 88 4 (.slice fa F.length fc) F.length (fls F) := by
                  obtain ⟨a2, c2, hb2, hrow, -⟩ := HGF.out.blk
                  have := hb2.symm.trans HBQ2.out
                  simp at this
                  obtain ⟨rfl, rfl⟩ := this
                  exact hrow
                have HROW := Lib.hid hrow
                have HTU2 := Lib.hid (HTU.out w15 (HCH.out.trans (Chg.of_ext (S := (· = p)) hx2) (fun _ _ e => e)))
                clear hw2 hx2 hsrc hrow HTU HGE HBq HCH
                refine thenX_mk HTU2.out (wpPlan_one ?_)
                simp only [pickOps, List.getElem?_cons_succ, List.getElem?_cons_zero]
                refine wpList_append_to (n := F.length) (m := 1) elem_rfile rfl _ _ rfl (v := .slice fa F.length fc) rfl rfl HROW.out HSRC.out (by unfold maxLen; omega) (by omega) ?_
                intro v3 w16 happ
                rw [← fls_append] at happ
                obtain ⟨hq3, hfin⟩ := HGF.out.add HBQ2.out HOWN.out happ
                have HFIN := Lib.hid hfin
                have d0 : w16.cell? ⟨q, 6, none⟩ = some (.slice fa F.length fc) := by rw [cell_of_block hq3 6]; rfl
                have z0 := free_of_block hq3 6
                obtain ⟨a16, c16, rfl⟩ := happ.row.shape
                clear happ hq3 hfin
                go_wp2_with fail
                refine thenX_last (wpPlan_one ?_)
                simp only [pickOps, List.getElem?_cons_succ, List.getElem?_cons_zero]
                go_wp2_with fail
                refine thenX_last (wpPlan_one ?_)
                simp only [pickOps, List.getElem?_cons_succ, List.getElem?_cons_zero]
                go_wp2_with fail
                refine thenX_last (wpPlan_done ?_)
                have HFIN2 : Hid (StG w14 w1 q p 131 47 88 6 4 #[.int .i64 x, .int .i64 _, .int .i64 z, .bool ms, .int .i64 mt, .int .i64 mg, .slice none 0 0, .slice none 0 0] (F ++ [y.1]).length (fls (F ++ [y.1])) y.2 (w16.setCell ⟨q, 6, none⟩ (.slice a16 (F.length + 1) c16))) := Lib.hid (by
                  rw [List.length_append, HRF.out]
                  have h := HFIN.out
                  rw [HRF.out] at h
                  exact h)
                clear HFIN d0 z0 HGF HSRC HROW HTU2 HBQ2
                generalize World.setCell _ _ _ = w17 at *
                go_wp2_with fail
                go_roundw
                case rel => exact ⟨k + 1, F ++ [y.1], y.2, by omega, by omega, by go_num, Lib.hid HT.out.symm, HFIN2⟩
                case measure => simp [RowKit.intOf]; omega
              · have hlti : (k : Int) < (N : Int) := by omega
                have hlti2 : (k : Int) < 513 := by omega
                have HL2 : Hid ((F, (⟨lr, true⟩ : Rd)) = loopR flStp (min N 513) ([], r5)) := Lib.hid (by rw [HL.out]; exact (loopR_stay (by rw [← HL.out]) (by omega)).symm)
                go_wp2_with fail
                go_meet
                case rel => exact ⟨F, _, HL2, HGk⟩
            · have hlti : (k : Int) < (N : Int) := by omega
              have hlti2 : ¬ (k : Int) < 513 := by omega
              have HL2 : Hid ((F, (⟨lr, br⟩ : Rd)) = loopR flStp (min N 513) ([], r5)) := Lib.hid (by rw [HL.out]; congr 1; omega)
              go_wp2_with fail
              go_meet
              case rel => exact ⟨F, _, HL2, HGk⟩
          · have hlti : ¬ (k : Int) < (N : Int) := by omega
            have HL2 : Hid ((F, (⟨lr, br⟩ : Rd)) = loopR flStp (min N 513) ([], r5)) := Lib.hid (by rw [HL.out]; congr 1; omega)
            go_wp2_with fail
            go_meet
            case rel => exact ⟨F, _, HL2, HGk⟩
      case rest =>
        obtain ⟨F, r6, HF, HGF⟩ := hcut
        obtain ⟨fa, fc, hb6, hrow6, hown6⟩ := HGF.out.blk
        have HOWN6 := Lib.hid hown6
        have HROW6 := Lib.hid hrow6
        have HQ6 := Lib.hid hb6
        have HFL : Hid (F.length ≤ 513) := Lib.hid (by
          have := loop_len_le fl_len (s := ([], r5)) (k := min N 513)
          rw [← HF.out] at this
          simp at this
          omega)
        have HB15 := Lib.hid ((HGF.out.chg.block g (block_lt HB14.out) (by have := HQP.out; omega)).trans HB14.out)
        have HC15 := Lib.hid (HC14.out.trans HGF.out.chg (fun i hi e => by have := HQP.out; omega))
        clear hb6 hrow6 hown6 HB14 HC14 HBQ14
        go_wp2_with fail
        refine (refrdNum_any w1 wc p _ HGF.out.rd).mono ?_
        rintro e w16 ⟨rfl, hr, hc⟩
        have HNL := Lib.hid (rdNum_lo r6)
        obtain ⟨⟨M, r7⟩, hM⟩ : ∃ x, x = rdNum r6 := ⟨_, rfl⟩
        rw [← hM] at hr HNL ⊢
        have HMR := Lib.hid hM
        simp only at hr HNL
        have HBQ16 := Lib.hid ((hc.block q (block_lt HQ6.out) HGF.out.qp).trans HQ6.out)
        have HB16 := Lib.hid ((hc.block g (block_lt HB15.out) (by have := HQP.out; omega)).trans HB15.out)
        have HC16 := Lib.hid (HC15.out.trans hc (fun i hi e => by have := HQP.out; omega))
        have HROW7 := Lib.hid (HROW6.out.chg hc (fun g hg e => by have := HOWN6.out g hg; have := HGF.out.pl; omega))
        have HOWN7 : Hid (∀ g, (Value.slice fa F.length fc).ownBlock = some g → q < g) := Lib.hid (fun g hg => by have := HOWN6.out g hg; have := HGF.out.ql; omega)
        have HG1 : Hid (StG w16 w1 q p 131 47 89 7 5 #[.int .i64 x, .int .i64 y, .int .i64 z, .bool ms, .int .i64 mt, .int .i64 mg, .slice fa F.length fc, .slice none 0 0] 0 (trs []) r7 w16) :=
          Lib.hid ⟨⟨none, 0, by simpa using HBQ16.out, Row.nil _ _ _, fun g hg => by simp [Value.ownBlock] at hg⟩, hr, Chg.refl _ _, block_lt HBQ16.out, hr.lt, by have := HQP.out; omega, by have := HQP.out; omega⟩
        clear hc hr hM HGF HROW6 HOWN6 HB15 HC15 HQ6 HG0
        obtain ⟨M, rfl⟩ : ∃ n : Nat, M = (n : Int) := ⟨M.toNat, by have := HNL.out; omega⟩
        have HM60 : Hid (M ≤ 1152921504606846976) := Lib.hid (by have := HNL.out; omega)
        have HEQ : Hid (∀ T r8, (T, r8) = loopR trStp (min M 5) ([], r7) → refRd l = refTail x y z ⟨ms, mt, mg⟩ N F M T r8) := Lib.hid (fun T r8 h => by
          rw [HR2.out]
          refine refFrom_eq HNR.out ?_ HMR.out ?_
          · rw [Int.toNat_natCast]; exact HF.out
          · rw [Int.toNat_natCast]; exact h)
        clear HNL HR2 HNR HMR HF
        go_upto_block 2 with fail
        go_cut [14] (fun _ wx => ∃ (T : List Tr) (r : Rd), Hid ((T, r) = loopR trStp (min M 5) ([], r7)) ∧ Hid (StG w16 w1 q p 131 47 89 7 5 #[.int .i64 x, .int .i64 y, .int .i64 z, .bool ms, .int .i64 mt, .int .i64 mg, .slice fa F.length fc, .slice none 0 0] T.length (trs T) r wx))
        case first =>
          clear HEQ HB16 HC16 HG HROW7 HOWN7
          go_wp2_with fail
          go_loopw [14] (fun si wr => ∃ (k : Nat) (T : List Tr) (r : Rd), k ≤ M ∧ k ≤ 5 ∧ si = .int .i64 k ∧ Hid ((T, r) = loopR trStp k ([], r7)) ∧ Hid (StG w16 w1 q p 131 47 89 7 5 #[.int .i64 x, .int .i64 y, .int .i64 z, .bool ms, .int .i64 mt, .int .i64 mg, .slice fa F.length fc, .slice none 0 0] T.length (trs T) r wr)) (fun si _ => M - (RowKit.intOf si).toNat)
          case atStart => exact ⟨0, [], r7, by omega, by omega, rfl, Lib.hid rfl, HG1⟩
          case round =>
            obtain ⟨k, T, r, hk, hk2, rfl, HL, HGk⟩ := hrel
            obtain ⟨ap, np, cp, hbp, -⟩ := HGk.out.rd.blk
            have d1 := cell_of_block hbp 1
            obtain ⟨lr, br⟩ := r
            simp only at d1
            clear hbp
            by_cases hlt : k < M
            · by_cases hlt2 : k < 5
              · cases br
                · have hlti : (k : Int) < (M : Int) := by omega
                  have hlti2 : (k : Int) < 5 := by omega
                  have hFk : T.length ≤ 5 := by
                    have := loop_len_le tr_len (s := ([], r7)) (k := k)
                    rw [← HL.out] at this
                    simp at this
                    omega
                  have HT : Hid (loopR trStp (k + 1) ([], r7) = (T ++ [(rdTr ⟨lr, false⟩).1], (rdTr ⟨lr, false⟩).2)) := Lib.hid (by
                    show (if (loopR trStp k ([], r7)).2.bad = true then _ else _) = _
                    rw [← HL.out]
                    rfl)
                  have HRT : Hid (rdTr ⟨lr, false⟩ = rdTrM (rdNum ⟨lr, false⟩).1 (rdNum (rdNum ⟨lr, false⟩).2).1 (rdNum (rdNum (rdNum ⟨lr, false⟩).2).2).1 (rdOver (rdNum (rdNum (rdNum ⟨lr, false⟩).2).2).1 (rdNum (rdNum (rdNum ⟨lr, false⟩).2).2).2)) := Lib.hid rfl
                  generalize rdTr ⟨lr, false⟩ = Y at *
                  go_wp2_with fail
                  refine (refrdNum_any w1 wr p _ HGk.out.rd).mono ?_
                  rintro e wn1 ⟨rfl, hr, hc⟩
                  have HGA := Lib.hid (HGk.out.read hr hc)
                  clear hr hc HGk HL d1
                  go_wp2_with fail
                  refine (refrdNum_any w1 wn1 p _ HGA.out.rd).mono ?_
                  rintro e wn2 ⟨rfl, hr, hc⟩
                  have HGB := Lib.hid (HGA.out.read hr hc)
                  clear hr hc HGA
                  generalize (rdNum (rdNum ⟨lr, false⟩).2).2 = r9 at *
                  generalize (rdNum (rdNum ⟨lr, false⟩).2).1 = o at *
                  generalize (rdNum ⟨lr, false⟩).1 = d at *
                  go_upto_region 21 with fail
                  obtain ⟨t, ht⟩ : ∃ t, t = wn2.heap.size := ⟨_, rfl⟩
                  rw [← ht]
                  generalize hW : wn2.alloc _ = wn3
                  have hx3 : Ext wn2 wn3 := by rw [← hW]; exact (Ext.refl wn2).alloc _
                  have HBT : Hid (wn3.heap[t]? = some (.cells #[.int .i64 d, .int .i64 o, .int .i64 0, .bool false, .string ⟨#[]⟩] 89 (0, 0))) := Lib.hid (by rw [← hW, ht]; exact heap_alloc_new wn2 _)
                  have HTP : Hid (t ≠ p ∧ t ≠ q ∧ wn2.heap.size ≤ t ∧ w1.heap.size ≤ t) := Lib.hid (by have := HGB.out.rd.lt; have := HGB.out.ql; have := HGB.out.chg.size; have := HGB.out.rd.new; omega)
                  have HRD3 := Lib.hid (HGB.out.rd.ext' hx3)
                  have HC3 := Lib.hid (Chg.of_ext (S := (· = p)) hx3)
                  clear hW hx3 ht
                  go_wp2_with fail
                  refine (refrdNum_any w1 wn3 p _ HRD3.out).mono ?_
                  rintro e wn4 ⟨rfl, hr, hc⟩
                  have HRD4 := Lib.hid hr
                  have HBT4 := Lib.hid ((hc.block t (block_lt HBT.out) HTP.out.1).trans HBT.out)
                  have HC4 := Lib.hid (HC3.out.trans hc (fun _ _ e => e))
                  clear hr hc HRD3 HC3 HBT
                  generalize (rdNum r9).2 = r10 at *
                  generalize (rdNum r9).1 = m at *
                  go_upto_if 127 with fail
                  go_cut [16] (fun s16 wx => s16 = .int .i64 m ∧ Hid (wx.heap[t]? = some (.cells #[.int .i64 (rdTrM d o m r10).1.w, .int .i64 (rdTrM d o m r10).1.o, .int .i64 (rdTrM d o m r10).1.u, .bool (rdTrM d o m r10).1.m, .string (rdTrM d o m r10).1.f] 89 (0, 0))) ∧ Hid (RdAt 131 w1 p (rdTrM d o m r10).2 wx) ∧ Hid (Chg (· = p) wn2 wx))
                  case first =>
                    by_cases hm1 : m = 1
                    · subst hm1
                      have HE : Hid (rdTrM d o 1 r10 = (⟨d, o, (rdInt r10).1, true, (rdText (rdInt r10).2).1⟩, (rdText (rdInt r10).2).2)) := Lib.hid (by simp [rdTrM])
                      have c3 := cell_of_block HBT4.out 3
                      have z3 := free_of_block HBT4.out 3
                      clear HRT HT
                      go_upto_region 24 with fail
                      generalize hw5 : World.setCell _ _ _ = wn5
                      have hcm : Chg (· = t) wn4 wn5 := by rw [← hw5]; exact setCell_chg _ _ _ _
                      have HRD5 := Lib.hid (HRD4.out.chg hcm (fun e => HTP.out.1 e.symm) (fun i hi => by have := HTP.out; omega))
                      have HC5 := Lib.hid (HC4.out.trans hcm (fun i hi e => by have := HTP.out; omega))
                      have HBT5 : Hid (wn5.heap[t]? = some (.cells #[.int .i64 d, .int .i64 o, .int .i64 0, .bool true, .string ⟨#[]⟩] 89 (0, 0))) := Lib.hid (by
                        have := setCell_block HBT4.out (i := 3) (.bool true)
                        rw [← hw5]; simpa using this)
                      clear hw5 hcm c3 z3 HRD4 HC4 HBT4
                      go_wp2_with fail
                      refine (refrdInt_any w1 wn5 p _ HRD5.out).mono ?_
                      rintro e wn6 ⟨rfl, hr, hc⟩
                      have HRD6 := Lib.hid hr
                      have HBT6 := Lib.hid ((hc.block t (block_lt HBT5.out) HTP.out.1).trans HBT5.out)
                      have HC6 := Lib.hid (HC5.out.trans hc (fun _ _ e => e))
                      clear hr hc HRD5 HC5 HBT5
                      generalize (rdInt r10).2 = r11 at *
                      generalize (rdInt r10).1 = vi at *
                      have c2 := cell_of_block HBT6.out 2
                      have z2 := free_of_block HBT6.out 2
                      go_upto_region 25 with fail
                      generalize hw7 : World.setCell _ _ _ = wn7
                      have hcm : Chg (· = t) wn6 wn7 := by rw [← hw7]; exact setCell_chg _ _ _ _
                      have HRD7 := Lib.hid (HRD6.out.chg hcm (fun e => HTP.out.1 e.symm) (fun i hi => by have := HTP.out; omega))
                      have HC7 := Lib.hid (HC6.out.trans hcm (fun i hi e => by have := HTP.out; omega))
                      have HBT7 : Hid (wn7.heap[t]? = some (.cells #[.int .i64 d, .int .i64 o, .int .i64 vi, .bool true, .string ⟨#[]⟩] 89 (0, 0))) := Lib.hid (by
                        have := setCell_block HBT6.out (i := 2) (.int .i64 vi)
                        rw [← hw7]; simpa using this)
                      clear hw7 hcm c2 z2 HRD6 HC6 HBT6
                      go_wp2_with fail
                      refine (refrdText_any w1 wn7 p _ HRD7.out).mono ?_
                      rintro e wn8 ⟨rfl, hr, hc⟩
                      have HRD8 := Lib.hid hr
                      have HBT8 := Lib.hid ((hc.block t (block_lt HBT7.out) HTP.out.1).trans HBT7.out)
                      have HC8 := Lib.hid (HC7.out.trans hc (fun _ _ e => e))
                      clear hr hc HRD7 HC7 HBT7
                      generalize (rdText r11).2 = r12 at *
                      generalize (rdText r11).1 = vt at *
                      have c4 := cell_of_block HBT8.out 4
                      have z4 := free_of_block HBT8.out 4
                      have HCM := Lib.hid (setCell_chg wn8 t 4 (.string vt))
                      have HBT9 : Hid ((wn8.setCell ⟨t, 4, none⟩ (.string vt)).heap[t]? = some (.cells #[.int .i64 d, .int .i64 o, .int .i64 vi, .bool true, .string vt] 89 (0, 0))) := Lib.hid (by
                        have := setCell_block HBT8.out (i := 4) (.string vt)
                        simpa using this)
                      have HRD9 := Lib.hid (HRD8.out.chg HCM.out (fun e => HTP.out.1 e.symm) (fun i hi => by have := HTP.out; omega))
                      have HC9 := Lib.hid (HC8.out.trans HCM.out (fun i hi e => by have := HTP.out; omega))
                      clear HRD8 HC8 HBT8 HCM
                      go_wp2_with fail
                      clear c4 z4
                      generalize World.setCell _ _ _ = wn9 at *
                      go_meet
                      case rel => rw [HE.out]; exact ⟨rfl, HBT9, HRD9, HC9⟩
                    · have HE : Hid (rdTrM d o m r10 = (⟨d, o, 0, false, ⟨#[]⟩⟩, r10)) := Lib.hid (by simp [rdTrM, hm1])
                      have hme : (m == 1) = false := by simp [hm1]
                      clear HRT HT hm1
                      go_wp2_with fail
                      go_meet
                      case rel => rw [HE.out]; exact ⟨rfl, HBT4, HRD4, HC4⟩
                  case rest =>
                    obtain ⟨rfl, HBT5, HRD5, HC5⟩ := hcut
                    replace HRT : Hid (Y = ((rdTrM d o m r10).1, rdOver m (rdTrM d o m r10).2)) := Lib.hid (HRT.out.trans (rdTr_over d o m r10))
                    clear HBT4 HRD4 HC4
                    generalize (rdTrM d o m r10).2 = r11 at *
                    generalize (rdTrM d o m r10).1 = v at *
                    go_upto_region 26 with fail
                    go_cut [16] (fun _ wx => Hid (RdAt 131 w1 p (rdOver m r11) wx) ∧ Hid (Chg (· = p) wc wx))
                    case first =>
                      obtain ⟨l11, b11⟩ := r11
                      obtain ⟨a6, n6, c6, hb6, -⟩ := HRD5.out.blk
                      have d1 := cell_of_block hb6 1
                      have z1 := free_of_block hb6 1
                      clear hb6 HRT HT
                      cases b11
                      · have HOV : Hid (RdAt 131 w1 p (rdOver m ⟨l11, false⟩) (wc.setCell ⟨p, 1, none⟩ (.bool (decide (1 < m))))) := Lib.hid (HRD5.out.over' (decide (1 < m)))
                        have HCV := Lib.hid (setCell_chg wc p 1 (.bool (decide (1 < m))))
                        go_wp2_with fail
                        go_meet
                        case rel => exact ⟨HOV, HCV⟩
                      · have HOV : Hid (RdAt 131 w1 p (rdOver m ⟨l11, true⟩) (wc.setCell ⟨p, 1, none⟩ (.bool true))) := Lib.hid (HRD5.out.over' true)
                        have HCV := Lib.hid (setCell_chg wc p 1 (.bool true))
                        go_wp2_with fail
                        go_meet
                        case rel => exact ⟨HOV, HCV⟩
                    case rest =>
                      obtain ⟨HRD6, HC6⟩ := hcut
                      have HGC := Lib.hid (HGB.out.read HRD6.out (HC5.out.trans HC6.out (fun _ _ e => e)))
                      have HBT6 := Lib.hid ((HC6.out.block t (block_lt HBT5.out) HTP.out.1).trans HBT5.out)
                      clear HGB HRD5 HC5 HC6 HBT5 HRD6
                      obtain ⟨ta, tc, hbq, hrow, hown⟩ := HGC.out.blk
                      have HROW := Lib.hid hrow
                      have HOWN := Lib.hid hown
                      have HBq := Lib.hid hbq
                      have f7 : wc.cell? ⟨q, 7, none⟩ = some (.slice ta T.length tc) := by rw [cell_of_block hbq 7]; rfl
                      have t0 := cell_of_block HBT6.out 0
                      have t1 := cell_of_block HBT6.out 1
                      have t2 := cell_of_block HBT6.out 2
                      have t3 := cell_of_block HBT6.out 3
                      have t4 := cell_of_block HBT6.out 4
                      have HXC := Lib.hid ((Ext.refl wc).alloc (.cells #[.int .i64 v.w, .int .i64 v.o, .int .i64 v.u, .bool v.m, .string v.f] 89 (0, 0)))
                      clear hbq hrow hown
                      go_wp2_with (at_builtin; go_must (refine wpList_append_to (n := T.length) (m := 1) elem_rtier rfl _ _ rfl (v := .slice _ _ _) rfl rfl (HROW.out.ext HXC.out) (src_tr (p := v) (heap_alloc_new _ _)) (by unfold maxLen; omega) (by omega) ?_; intro v3 w17 happ); rw [← trs_append] at happ; obtain ⟨hq3, hfin⟩ := (HGC.out.ext' HXC.out).add (HXC.out.keep HBq.out) HOWN.out happ; have HFIN := Lib.hid hfin; have d7 : w17.cell? ⟨q, 7, none⟩ = some (.slice ta T.length tc) := (by rw [cell_of_block hq3 7]; rfl); have z7 := free_of_block hq3 7; obtain ⟨a17, c17, rfl⟩ := happ.row.shape; clear happ hq3 hfin f7 t0 t1 t2 t3 t4)
                      have HFIN2 : Hid (StG w16 w1 q p 131 47 89 7 5 #[.int .i64 x, .int .i64 y, .int .i64 z, .bool ms, .int .i64 mt, .int .i64 mg, .slice fa F.length fc, .slice none 0 0] (T ++ [Y.1]).length (trs (T ++ [Y.1])) Y.2 (w17.setCell ⟨q, 7, none⟩ (.slice a17 (T.length + 1) c17))) := Lib.hid (by
                        rw [List.length_append, HRT.out]
                        exact HFIN.out)
                      clear HFIN d7 z7
                      generalize World.setCell _ _ _ = w18 at *
                      go_roundw
                      case rel => exact ⟨k + 1, T ++ [Y.1], Y.2, by omega, by omega, by go_num, Lib.hid HT.out.symm, HFIN2⟩
                      case measure => simp [RowKit.intOf]; omega
                · have hlti : (k : Int) < (M : Int) := by omega
                  have hlti2 : (k : Int) < 5 := by omega
                  have HL2 : Hid ((T, (⟨lr, true⟩ : Rd)) = loopR trStp (min M 5) ([], r7)) := Lib.hid (by rw [HL.out]; exact (loopR_stay (by rw [← HL.out]) (by omega)).symm)
                  go_wp2_with fail
                  go_meet
                  case rel => exact ⟨T, _, HL2, HGk⟩
              · have hlti : (k : Int) < (M : Int) := by omega
                have hlti2 : ¬ (k : Int) < 5 := by omega
                have HL2 : Hid ((T, (⟨lr, br⟩ : Rd)) = loopR trStp (min M 5) ([], r7)) := Lib.hid (by rw [HL.out]; congr 1; omega)
                go_wp2_with fail
                go_meet
                case rel => exact ⟨T, _, HL2, HGk⟩
            · have hlti : ¬ (k : Int) < (M : Int) := by omega
              have HL2 : Hid ((T, (⟨lr, br⟩ : Rd)) = loopR trStp (min M 5) ([], r7)) := Lib.hid (by rw [HL.out]; congr 1; omega)
              go_wp2_with fail
              go_meet
              case rel => exact ⟨T, _, HL2, HGk⟩
        case rest =>
          obtain ⟨T, r8, HL, HGT⟩ := hcut
          have HR2' := Lib.hid (HEQ.out T r8 HL.out)
          obtain ⟨ta, tc, hb8, hrow8, hown8⟩ := HGT.out.blk
          have HC8 := Lib.hid (HC16.out.trans HGT.out.chg (fun i hi e => by have := HQP.out; omega))
          have HB8 := Lib.hid ((HGT.out.chg.block g (block_lt HB16.out) (by have := HQP.out; omega)).trans HB16.out)
          have HRF := Lib.hid (HROW7.out.chg HGT.out.chg (fun g hg e => by have := HOWN7.out g hg; have := HQP.out; omega))
          have HRT := Lib.hid hrow8
          have HOT : Hid (∀ g', (Value.slice ta T.length tc).ownBlock = some g' → q < g') := Lib.hid (fun g hg => by have := hown8 g hg; have := HGT.out.ql; omega)
          have hT5 : T.length ≤ 5 := by
            have := loop_len_le tr_len (s := ([], r7)) (k := min M 5)
            rw [← HL.out] at this
            simp at this
            omega
          have HIN : Hid (StIn wc ⟨x, y, z, ⟨ms, mt, mg⟩, F, T⟩ fa F.length fc ta T.length tc) := Lib.hid ⟨HRF.out.src (fls_one _), hrow8.src (trs_one _), HMO.out, by have := HFL.out; omega, by omega⟩
          have HBQ : Hid (wc.heap[q]? = some (.cells (staC ⟨x, y, z, ⟨ms, mt, mg⟩, F, T⟩ fa F.length fc ta T.length tc) 47 (0, 0))) := Lib.hid (by simpa using hb8)
          obtain ⟨l8, b8⟩ := r8
          obtain ⟨a8, n8, c8, hbp, hsl⟩ := HGT.out.rd.blk
          have HN8 := Lib.hid hsl.len
          have d0 := cell_of_block hbp 0
          have d1 := cell_of_block hbp 1
          clear hb8 hrow8 hown8 hbp hsl HEQ HL HGT HROW7 HC16 HB16 HG1 HBQ16
          simp only at HN8 d0 d1
          cases b8
          case true =>
            have HR2 : Hid (refRd l = none) := Lib.hid (by rw [HR2'.out]; simp [refTail])
            clear HR2'
            (
                go_wp2_with (first | (refine wpList_store_box rfl _ _ _ rfl _ _ _ _ rfl rfl HB8.out rfl rsta_info (by simp [Value.oneCell']) ?_; rintro wx hbx hcx; have HBX := Lib.hid hbx; have HCX := Lib.hid hcx; clear hbx hcx))
                refine bodyPost_ret (results_box_tmp Tryz.results38 _ _ rfl HBX.out Tryz.underlying47 rfl rsta_info) rfl ?_
                rw [HR2.out]
                exact StaPost.rnone rfl ((HC8.out.trans HCX.out (fun i hi e => by have := HQP.out; omega)).ext (fun i hi e => by omega)))
          by_cases h8 : n8 = 0
          case neg =>
            have HR2 : Hid (refRd l = none) := Lib.hid (by
              rw [HR2'.out]
              have : l8 ≠ [] := by
                rintro rfl
                exact h8 HN8.out.symm
              simp [refTail, this])
            have h8i : (0 : Int) < (n8 : Int) := by omega
            clear HR2' h8
            (
                go_wp2_with (first | (refine wpList_store_box rfl _ _ _ rfl _ _ _ _ rfl rfl HB8.out rfl rsta_info (by simp [Value.oneCell']) ?_; rintro wx hbx hcx; have HBX := Lib.hid hbx; have HCX := Lib.hid hcx; clear hbx hcx))
                refine bodyPost_ret (results_box_tmp Tryz.results38 _ _ rfl HBX.out Tryz.underlying47 rfl rsta_info) rfl ?_
                rw [HR2.out]
                exact StaPost.rnone rfl ((HC8.out.trans HCX.out (fun i hi e => by have := HQP.out; omega)).ext (fun i hi e => by omega)))
          subst h8
          have hl8 : l8 = [] := List.length_eq_zero_iff.mp HN8.out
          subst hl8
          have c6' := cell_of_block HBQ.out 6
          have c7' := cell_of_block HBQ.out 7
          by_cases hFN : (F.length : Int) = (N : Int)
          case neg =>
            have HR2 : Hid (refRd l = none) := Lib.hid (by
              rw [HR2'.out]
              unfold refTail
              rw [if_pos (.inr (.inr (.inl hFN)))])
            have hfe : ((F.length : Int) == (N : Int)) = false := by simpa using hFN
            have hfn : ((F.length : Int) != (N : Int)) = true := by simp [bne, hfe]
            clear HR2' hFN
            (
                go_wp2_with (first | (refine wpList_store_box rfl _ _ _ rfl _ _ _ _ rfl rfl HB8.out rfl rsta_info (by simp [Value.oneCell']) ?_; rintro wx hbx hcx; have HBX := Lib.hid hbx; have HCX := Lib.hid hcx; clear hbx hcx))
                refine bodyPost_ret (results_box_tmp Tryz.results38 _ _ rfl HBX.out Tryz.underlying47 rfl rsta_info) rfl ?_
                rw [HR2.out]
                exact StaPost.rnone rfl ((HC8.out.trans HCX.out (fun i hi e => by have := HQP.out; omega)).ext (fun i hi e => by omega)))
          have hfe : ((F.length : Int) != (N : Int)) = false := by simp [hFN]
          by_cases hTM : (T.length : Int) = (M : Int)
          case neg =>
            have HR2 : Hid (refRd l = none) := Lib.hid (by
              rw [HR2'.out]
              unfold refTail
              rw [if_pos (.inr (.inr (.inr (.inl hTM))))])
            have hte : ((T.length : Int) == (M : Int)) = false := by simpa using hTM
            have htn : ((T.length : Int) != (M : Int)) = true := by simp [bne, hte]
            clear HR2' hTM
            (
                go_wp2_with (first | (refine wpList_store_box rfl _ _ _ rfl _ _ _ _ rfl rfl HB8.out rfl rsta_info (by simp [Value.oneCell']) ?_; rintro wx hbx hcx; have HBX := Lib.hid hbx; have HCX := Lib.hid hcx; clear hbx hcx))
                refine bodyPost_ret (results_box_tmp Tryz.results38 _ _ rfl HBX.out Tryz.underlying47 rfl rsta_info) rfl ?_
                rw [HR2.out]
                exact StaPost.rnone rfl ((HC8.out.trans HCX.out (fun i hi e => by have := HQP.out; omega)).ext (fun i hi e => by omega)))
          have hte : ((T.length : Int) != (M : Int)) = false := by simp [hTM]
          have HRI := Lib.hid (ref18Right_any wc ⟨x, y, z, ⟨ms, mt, mg⟩, F, T⟩ fa ta F.length fc T.length tc HIN.out)
          have HR3 : Hid (refRd l = if staR ⟨x, y, z, ⟨ms, mt, mg⟩, F, T⟩ = true then some ⟨x, y, z, ⟨ms, mt, mg⟩, F, T⟩ else none) := Lib.hid (by
            rw [HR2'.out]
            unfold refTail
            cases staR ⟨x, y, z, ⟨ms, mt, mg⟩, F, T⟩ <;> simp [hFN, hTM])
          obtain ⟨R, hR⟩ : ∃ R, R = staR ⟨x, y, z, ⟨ms, mt, mg⟩, F, T⟩ := ⟨_, rfl⟩
          rw [← hR] at HR3 HRI
          clear hR HR2' hFN hTM
          have c0 := cell_of_block HBQ.out 0
          have c1 := cell_of_block HBQ.out 1
          have c2 := cell_of_block HBQ.out 2
          have c3 := cell_of_block HBQ.out 3
          have c4 := cell_of_block HBQ.out 4
          have c5 := cell_of_block HBQ.out 5
          cases R
          · have HR2 : Hid (refRd l = none) := Lib.hid (by rw [HR3.out]; simp)
            clear HR3
            go_wp2_with fail
            refine HRI.out.mono ?_
            rintro e w9' ⟨rfl, hx⟩
            have HB9 := Lib.hid (hx.keep HB8.out)
            have HC9 := Lib.hid (HC8.out.trans (Chg.of_ext (S := fun _ => False) hx) (fun _ _ e => e.elim))
            clear hx HB8 HC8
            have HB8 := HB9
            have HC8 := HC9
            clear c0 c1 c2 c3 c4 c5 c6' c7' d0 d1
            (
                go_wp2_with (first | (refine wpList_store_box rfl _ _ _ rfl _ _ _ _ rfl rfl HB8.out rfl rsta_info (by simp [Value.oneCell']) ?_; rintro wx hbx hcx; have HBX := Lib.hid hbx; have HCX := Lib.hid hcx; clear hbx hcx))
                refine bodyPost_ret (results_box_tmp Tryz.results38 _ _ rfl HBX.out Tryz.underlying47 rfl rsta_info) rfl ?_
                rw [HR2.out]
                exact StaPost.rnone rfl ((HC8.out.trans HCX.out (fun i hi e => by have := HQP.out; omega)).ext (fun i hi e => by omega)))
          · replace HR3 : Hid (refRd l = some ⟨x, y, z, ⟨ms, mt, mg⟩, F, T⟩) := Lib.hid (by rw [HR3.out]; simp)
            go_wp2_with fail
            refine HRI.out.mono ?_
            rintro e w9' ⟨rfl, hx⟩
            have HB9 := Lib.hid (hx.keep HB8.out)
            have HIN9 := Lib.hid (HIN.out.ext hx)
            have HX9 := Lib.hid hx
            have HC9 := Lib.hid (HC8.out.trans (Chg.of_ext (S := fun _ => False) hx) (fun _ _ e => e.elim))
            have HBQ9 := Lib.hid (hx.keep HBQ.out)
            clear hx HB8 HC8 HIN HBQ
            clear c0 c1 c2 c3 c4 c5 c6' c7' d0 d1
            have c0 := cell_of_block HBQ9.out 0
            have c1 := cell_of_block HBQ9.out 1
            have c2 := cell_of_block HBQ9.out 2
            have c3 := cell_of_block HBQ9.out 3
            have c4 := cell_of_block HBQ9.out 4
            have c5 := cell_of_block HBQ9.out 5
            have c6' := cell_of_block HBQ9.out 6
            have c7' := cell_of_block HBQ9.out 7
            go_wp2_with (first | (refine wpList_store_box rfl _ _ _ rfl _ _ _ _ rfl rfl HB9.out rfl rsta_info (by simp [Value.oneCell']) ?_; rintro wx hbx hcx; have HBX := Lib.hid hbx; have HCX := Lib.hid hcx; clear hbx hcx))
            refine bodyPost_ret (results_box_tmp Tryz.results38 _ _ rfl HBX.out Tryz.underlying47 rfl rsta_info) rfl ?_
            rw [HR3.out]
            have hx9 : Ext w wx := (HC9.out.trans HCX.out (fun i hi e => by have := HQP.out; omega)).ext (fun i hi e => by omega)
            refine ⟨fa, F.length, fc, ta, T.length, tc, rfl, hx9, ?_⟩
            exact ⟨((HRF.out.ext HX9.out).chg HCX.out (fun g' hg e => by have := HOWN7.out g' hg; have := HQP.out; omega)).src (fls_one _), ((HRT.out.ext HX9.out).chg HCX.out (fun g' hg e => by have := HOT.out g' hg; have := HQP.out; omega)).src (trs_one _), HIN9.out.ok, HIN9.out.fn63, HIN9.out.tn63⟩
    · have HR2 : Hid (refRd l = none) := Lib.hid (by rw [HR.out]; simp [hk])
      have hki : ((k.toNat : Int) == 7) = false := by
        simp only [beq_eq_false_iff_ne, ne_eq]
        intro h
        exact hk (by apply UInt8.toNat_inj.mp; show k.toNat = 7; omega)
      have hkn : ((k.toNat : Int) != 7) = true := by simp [hki, bne]
      clear HR hk
      (
          go_wp2_with (first | (refine wpList_store_box rfl _ _ _ rfl _ _ _ _ rfl rfl HB1.out rfl rsta_info (by simp [Value.oneCell']) ?_; rintro wx hbx hcx; have HBX := Lib.hid hbx; have HCX := Lib.hid hcx; clear hbx hcx))
          refine bodyPost_ret (results_box_tmp Tryz.results38 _ _ rfl HBX.out Tryz.underlying47 rfl rsta_info) rfl ?_
          rw [HR2.out]
          exact StaPost.rnone rfl (HX1.out.stored HCX.out (by have := HGW.out; omega)))
  · have HR2 : Hid (refRd l = none) := Lib.hid (by rw [HR.out]; simp [hx0])
    have hxe : (x == 0) = false := by simp [hx0]
    have hxn : (x != 0) = true := by simp [hx0]
    clear HR hx0
    (
        go_wp2_with (first | (refine wpList_store_box rfl _ _ _ rfl _ _ _ _ rfl rfl HB1.out rfl rsta_info (by simp [Value.oneCell']) ?_; rintro wx hbx hcx; have HBX := Lib.hid hbx; have HCX := Lib.hid hcx; clear hbx hcx))
        refine bodyPost_ret (results_box_tmp Tryz.results38 _ _ rfl HBX.out Tryz.underlying47 rfl rsta_info) rfl ?_
        rw [HR2.out]
        exact StaPost.rnone rfl (HX1.out.stored HCX.out (by have := HGW.out; omega)))
end Go.Proofs.YtgdgjnecgelalaaGreatDoor
