/- manifest.reader: what is read, plainly; took. -/
import Derived.Test.YtgdgjnecgelalaaGreatDoorMgc
namespace Go.Proofs.YtgdgjnecgelalaaGreatDoor
open Go.RowKit Go.Sort Go.Lib

/-- Bytes that are read, and whether they were bad. -/
structure Rd where
  l : List UInt8
  bad : Bool
def rdNum (r : Rd) : Int × Rd :=
  (if (r.bad || (varR r.l).2.2 != 0 || decide (1152921504606846976 < (varR r.l).1)) = true then 0 else ((varR r.l).1 : Int), ⟨r.l.drop (varR r.l).2.1, r.bad || (varR r.l).2.2 != 0 || decide (1152921504606846976 < (varR r.l).1)⟩)
def rdInt (r : Rd) : Int × Rd := (zag (varR r.l).1, ⟨r.l.drop (varR r.l).2.1, r.bad || (varR r.l).2.2 != 0⟩)
def rdText (r : Rd) : ByteArray × Rd := (⟨(txtR r.l 64).1.toArray⟩, ⟨r.l.drop (txtR r.l 64).2.1, r.bad || (txtR r.l 64).2.2 != 0⟩)
def rdMark (r : Rd) : Mk × Rd := ((markR r.l).1, ⟨r.l.drop (markR r.l).2.1, r.bad || (markR r.l).2.2 != 0⟩)

/-- A reader in memory. -/
structure RdAt (t : TypeId) (w0 : World) (p : Nat) (r : Rd) (w : World) : Prop where
  blk : ∃ a n c, w.heap[p]? = some (.cells #[.slice a n c, .bool r.bad] t (0, 0)) ∧ SlB w0 a n c r.l
  new : w0.heap.size ≤ p
  ext : Ext w0 w
  et : HasET w0
theorem RdAt.ext' {t : TypeId} {w0 w w' : World} {p : Nat} {r : Rd} (h : RdAt t w0 p r w) (hx : Ext w w') : RdAt t w0 p r w' := by
  obtain ⟨a, n, c, hb, hs⟩ := h.blk
  exact ⟨⟨a, n, c, hx.keep hb, hs⟩, h.new, h.ext.trans hx, h.et⟩
theorem RdAt.chg {t : TypeId} {w0 w w' : World} {p : Nat} {r : Rd} {S : Nat → Prop} (h : RdAt t w0 p r w) (hx : Chg S w w') (hp : ¬ S p) (hS : ∀ i, S i → w0.heap.size ≤ i) : RdAt t w0 p r w' := by
  obtain ⟨a, n, c, hb, hs⟩ := h.blk
  exact ⟨⟨a, n, c, (hx.block _ (block_lt hb) hp).trans hb, hs⟩, h.new, ((Chg.of_ext h.ext).trans hx (fun _ _ e => e)).ext (fun i hi e => by have := hS i e; omega), h.et⟩
theorem rd_store {w0 w w' : World} {p : Nat} (h : Ext w0 w) (hp : w0.heap.size ≤ p) (hx : Chg (· = p) w w') : Ext w0 w' := ((Chg.of_ext h).trans hx (fun _ _ e => e)).ext (fun i hi e => by omega)

set_option maxHeartbeats 4000000 in
set_option maxRecDepth 100000 in
theorem took_any (w0 w : World) (p : Nat) (r : Rd) (n : Nat) (e : Int) (h : RdAt 122 w0 p r w) (hn : n ≤ r.l.length) :
    Calls Tryz.prog 101 #[.pointer (some ⟨p, 0, none⟩), .int .i64 (n : Int), .int .i64 e] w fun z w' => z = .returned (.tuple #[]) ∧ RdAt 122 w0 p ⟨r.l.drop n, r.bad || e != 0⟩ w' ∧ Chg (· = p) w w' := by
  obtain ⟨l, bad⟩ := r
  obtain ⟨a, m, c, hb, hs⟩ := h.blk
  have H := Lib.hid h
  have HS := Lib.hid hs
  have hnm : n ≤ m := by have := hs.len; simp only at *; omega
  have hs1 := run_slice_lo Tryz.underlying56 sz_u8 a m c n hnm
  have HBX := Lib.hid hb
  have HFIN : Hid (∀ w1 w' , w1 = w.setCell ⟨p, 1, none⟩ (.bool (bad || e != 0)) → w' = w1.setCell ⟨p, 0, none⟩ (.slice (cutA a c n) (m - n) (c - n)) → RdAt 122 w0 p ⟨l.drop n, bad || e != 0⟩ w' ∧ Chg (· = p) w w') := Lib.hid (by
    rintro w1 w' rfl rfl
    have b1 := setCell_block hb (i := 1) (.bool (bad || e != 0))
    have b2 := setCell_block b1 (i := 0) (.slice (cutA a c n) (m - n) (c - n))
    have hc := (setCell_chg w p 1 (.bool (bad || e != 0))).trans (setCell_chg _ p 0 (.slice (cutA a c n) (m - n) (c - n))) (fun _ _ e => e)
    refine ⟨⟨⟨_, _, _, by simpa using b2, hs.cut hnm⟩, h.new, rd_store h.ext h.new hc, h.et⟩, hc⟩)
  have c0 := cell_of_block hb 0
  have c1 := cell_of_block hb 1
  have z1 := free_of_block hb 1
  clear h hb hs hn hnm
  generalize cutA a c n = a1 at *
  generalize m - n = m1 at *
  generalize c - n = k1 at *
  go_enter Tryz.func101, Tryz.ntmps101
  cases bad
  · go_upto_region 1 with fail
    generalize hw1 : World.setCell _ _ _ = w1
    have hb1 : w1.heap[p]? = some (.cells #[.slice a m c, .bool (e != 0)] 122 (0, 0)) := by
      have b1 := setCell_block HBX.out (i := 1) (.bool (e != 0))
      rw [← hw1]; simpa using b1
    have HW1 := Lib.hid hw1
    clear c0 c1 z1 hw1
    have c0 := cell_of_block hb1 0
    have z0 := free_of_block hb1 0
    clear hb1
    go_wp2_with fail
    go_end0
    exact ⟨rfl, HFIN.out w1 _ (by rw [← HW1.out]; simp) rfl⟩
  · go_upto_region 1 with fail
    generalize hw1 : World.setCell _ _ _ = w1
    have hb1 : w1.heap[p]? = some (.cells #[.slice a m c, .bool true] 122 (0, 0)) := by
      have b1 := setCell_block HBX.out (i := 1) (.bool true)
      rw [← hw1]; simpa using b1
    have HW1 := Lib.hid hw1
    clear c0 c1 z1 hw1
    have c0 := cell_of_block hb1 0
    have z0 := free_of_block hb1 0
    clear hb1
    go_wp2_with fail
    go_end0
    exact ⟨rfl, HFIN.out w1 _ (by rw [← HW1.out]; simp) rfl⟩
end Go.Proofs.YtgdgjnecgelalaaGreatDoor

/-! manifest.reader: num, int, text, mark. -/

namespace Go.Proofs.YtgdgjnecgelalaaGreatDoor
open Go.RowKit Go.Sort Go.Lib

theorem txtR_le (l : List UInt8) : (txtR l 64).2.1 ≤ l.length := by
  have h := varR_bounds l
  unfold txtR
  split
  · simp
  split
  · simp
  split
  · simp
  · simp only; omega
theorem markR_le (l : List UInt8) : (markR l).2.1 ≤ l.length := by
  have h1 := (varR_bounds l).2.1
  have h2 := (varR_bounds (l.drop (varR l).2.1)).2.1
  rw [List.length_drop] at h2
  have h3 := (varR_bounds (l.drop ((varR l).2.1 + (varR (l.drop (varR l).2.1)).2.1))).2.1
  rw [List.length_drop] at h3
  unfold markR
  split
  · simp [markE]
  unfold markC
  split
  · simp [markE]
  split
  · unfold markIf; split
    · simp only; omega
    · simp [markE]
  split
  · unfold markD
    split
    · simp [markE]
    · unfold markIf; split
      · simp only; omega
      · simp [markE]
  · simp [markE]
theorem num_conv {u : Nat} (h : u ≤ 1152921504606846976) : IntKind.i64.wrap (u : Int) = (u : Int) := by
  rw [IntKind.wrap_i64]; omega

set_option maxHeartbeats 4000000 in
set_option maxRecDepth 100000 in
theorem rdNum_any (w0 w : World) (p : Nat) (r : Rd) (h : RdAt 122 w0 p r w) :
    Calls Tryz.prog 65 #[.pointer (some ⟨p, 0, none⟩)] w fun z w' => z = .returned (.int .i64 (rdNum r).1) ∧ RdAt 122 w0 p (rdNum r).2 w' ∧ Chg (· = p) w w' := by
  obtain ⟨l, bad⟩ := r
  obtain ⟨a, m, c, hb, hs⟩ := h.blk
  have H := Lib.hid h
  have HS := Lib.hid (hs.ext h.ext)
  have HG := Lib.hid (h.et.ext h.ext)
  have c0 := cell_of_block hb 0
  have hv := varR_bounds l
  obtain ⟨u, k, x, hV⟩ : ∃ u k x, varR l = (u, k, x) := ⟨_, _, _, rfl⟩
  rw [hV] at hv
  obtain ⟨hv1, hv2, hv3, -⟩ := hv
  simp only at hv1 hv2 hv3
  have HFIN : Hid (rdNum ⟨l, bad⟩ = (if (bad || x != 0 || decide (1152921504606846976 < u)) = true then 0 else (u : Int), ⟨l.drop k, bad || x != 0 || decide (1152921504606846976 < u)⟩)) := Lib.hid (by simp [rdNum, hV])
  have HV := Lib.hid hV
  have HK := Lib.hid hv2
  clear h hb hs hV hv2
  go_enter Tryz.func65, Tryz.ntmps65
  go_wp2_with fail
  refine (varRead_any w a m c l HS.out.src HS.out.few HG.out).mono ?_
  rw [HV.out]
  rintro e w1 ⟨rfl, hx⟩
  have HX := Lib.hid hx
  have HR := Lib.hid (H.out.ext' hx)
  clear hx c0
  go_wp2_with fail
  refine (took_any w0 w1 p ⟨l, bad⟩ k x HR.out HK.out).mono ?_
  rintro e w2 ⟨rfl, hr, hc⟩
  have HR2 := Lib.hid hr
  have HC := Lib.hid ((Chg.of_ext (S := (· = p)) HX.out).trans hc (fun _ _ e => e))
  simp only at hr
  obtain ⟨B, hB⟩ : ∃ B, B = (bad || x != 0) := ⟨_, rfl⟩
  rw [← hB] at hr HFIN
  obtain ⟨a2, m2, c2, hb2, hs2⟩ := hr.blk
  have HBX := Lib.hid hb2
  have HR3 := Lib.hid hr
  have HSS := Lib.hid hs2
  have c0 := cell_of_block hb2 0
  have c1 := cell_of_block hb2 1
  have z1 := free_of_block hb2 1
  clear hr hc hb2 hB hs2 HR HR2
  have HGO : Hid (∀ b w3, w3 = w2.setCell ⟨p, 1, none⟩ (.bool b) → RdAt 122 w0 p ⟨l.drop k, b⟩ w3 ∧ Chg (· = p) w w3 ∧ w3.cell? ⟨p, 1, none⟩ = some (.bool b)) := Lib.hid (by
    rintro b w3 rfl
    have b1 := setCell_block HBX.out (i := 1) (.bool b)
    have b2 : (w2.setCell ⟨p, 1, none⟩ (.bool b)).heap[p]? = some (.cells #[.slice a2 m2 c2, .bool b] 122 (0, 0)) := by simpa using b1
    have hc := setCell_chg w2 p 1 (.bool b)
    exact ⟨⟨⟨_, _, _, b2, HSS.out⟩, HR3.out.new, rd_store HR3.out.ext HR3.out.new hc, HR3.out.et⟩, HC.out.trans hc (fun _ _ e => e), cell_of_block b2 1⟩)
  cases B
  · by_cases hu : 1152921504606846976 < u
    · have hd : decide (1152921504606846976 < u) = true := by simpa using hu
      have hdi : decide ((1152921504606846976 : Int) < (u : Int)) = true := by simp; omega
      have HF2 : Hid (rdNum ⟨l, bad⟩ = (0, ⟨l.drop k, true⟩)) := Lib.hid (by rw [HFIN.out, hd]; simp)
      have hui : (1152921504606846976 : Int) < (u : Int) := by omega
      clear hd hu HFIN
      go_upto_region 4 with fail
      generalize hw1 : World.setCell _ _ _ = w3
      obtain ⟨hq1, hq2, hq3⟩ := HGO.out true w3 (by rw [← hw1])
      have HQ1 := Lib.hid hq1
      have HQ2 := Lib.hid hq2
      clear c0 c1 z1 hw1 hq1 hq2
      go_wp2_with fail
      go_ret
      rw [HF2.out]
      exact ⟨rfl, HQ1.out, HQ2.out⟩
    · have hd : decide (1152921504606846976 < u) = false := by simpa using hu
      have HF2 : Hid (rdNum ⟨l, bad⟩ = ((u : Int), ⟨l.drop k, false⟩)) := Lib.hid (by rw [HFIN.out, hd]; simp)
      have hui : ¬ (1152921504606846976 : Int) < (u : Int) := by omega
      have hcv := num_conv (u := u) (by omega)
      clear hd hu HFIN
      go_upto_region 4 with fail
      generalize hw1 : World.setCell _ _ _ = w3
      obtain ⟨hq1, hq2, hq3⟩ := HGO.out false w3 (by rw [← hw1, show decide ((1152921504606846976 : Int) < (u : Int)) = false by simp; omega])
      have HQ1 := Lib.hid hq1
      have HQ2 := Lib.hid hq2
      clear c0 c1 z1 hw1 hq1 hq2
      go_wp2_with fail
      go_ret
      rw [HF2.out]
      exact ⟨by simp [hcv], HQ1.out, HQ2.out⟩
  · have HF2 : Hid (rdNum ⟨l, bad⟩ = (0, ⟨l.drop k, true⟩)) := Lib.hid (by rw [HFIN.out]; simp)
    clear HFIN
    go_upto_region 4 with fail
    generalize hw1 : World.setCell _ _ _ = w3
    obtain ⟨hq1, hq2, hq3⟩ := HGO.out true w3 (by rw [← hw1])
    have HQ1 := Lib.hid hq1
    have HQ2 := Lib.hid hq2
    clear c0 c1 z1 hw1 hq1 hq2
    go_wp2_with fail
    go_ret
    rw [HF2.out]
    exact ⟨rfl, HQ1.out, HQ2.out⟩

set_option maxHeartbeats 4000000 in
set_option maxRecDepth 100000 in
theorem rdInt_any (w0 w : World) (p : Nat) (r : Rd) (h : RdAt 122 w0 p r w) :
    Calls Tryz.prog 103 #[.pointer (some ⟨p, 0, none⟩)] w fun z w' => z = .returned (.int .i64 (rdInt r).1) ∧ RdAt 122 w0 p (rdInt r).2 w' ∧ Chg (· = p) w w' := by
  obtain ⟨l, bad⟩ := r
  obtain ⟨a, m, c, hb, hs⟩ := h.blk
  have H := Lib.hid h
  have HS := Lib.hid (hs.ext h.ext)
  have HG := Lib.hid (h.et.ext h.ext)
  have c0 := cell_of_block hb 0
  clear h hb hs
  go_enter Tryz.func103, Tryz.ntmps103
  go_wp2_with fail
  refine (varReadInt_any w a m c l HS.out.src HS.out.few HG.out).mono ?_
  rintro e w1 ⟨rfl, hx⟩
  have HX := Lib.hid hx
  have HR := Lib.hid (H.out.ext' hx)
  clear hx c0
  go_wp2_with fail
  refine (took_any w0 w1 p ⟨l, bad⟩ (varR l).2.1 (varR l).2.2 HR.out (varR_bounds l).2.1).mono ?_
  rintro e w2 ⟨rfl, hr, hc⟩
  have HR2 := Lib.hid hr
  have HC := Lib.hid ((Chg.of_ext (S := (· = p)) HX.out).trans hc (fun _ _ e => e))
  clear hr hc
  go_wp2_with fail
  go_ret
  exact ⟨rfl, HR2.out, HC.out⟩

set_option maxHeartbeats 4000000 in
set_option maxRecDepth 100000 in
theorem rdText_any (w0 w : World) (p : Nat) (r : Rd) (h : RdAt 122 w0 p r w) :
    Calls Tryz.prog 102 #[.pointer (some ⟨p, 0, none⟩)] w fun z w' => z = .returned (.string (rdText r).1) ∧ RdAt 122 w0 p (rdText r).2 w' ∧ Chg (· = p) w w' := by
  obtain ⟨l, bad⟩ := r
  obtain ⟨a, m, c, hb, hs⟩ := h.blk
  have H := Lib.hid h
  have HS := Lib.hid (hs.ext h.ext)
  have HG := Lib.hid (h.et.ext h.ext)
  have c0 := cell_of_block hb 0
  clear h hb hs
  go_enter Tryz.func102, Tryz.ntmps102
  go_wp2_with fail
  refine (varText_any w a m c l 64 (by decide) HS.out.src HS.out.le HS.out.few HG.out).mono ?_
  rintro e w1 ⟨rfl, hx⟩
  have HX := Lib.hid hx
  have HR := Lib.hid (H.out.ext' hx)
  clear hx c0
  go_wp2_with fail
  refine (took_any w0 w1 p ⟨l, bad⟩ (txtR l 64).2.1 (txtR l 64).2.2 HR.out (txtR_le l)).mono ?_
  rintro e w2 ⟨rfl, hr, hc⟩
  have HR2 := Lib.hid hr
  have HC := Lib.hid ((Chg.of_ext (S := (· = p)) HX.out).trans hc (fun _ _ e => e))
  clear hr hc
  go_wp2_with fail
  go_ret
  exact ⟨rfl, HR2.out, HC.out⟩

end Go.Proofs.YtgdgjnecgelalaaGreatDoor

/-! manifest.reader: mark, file, tier. -/

namespace Go.Proofs.YtgdgjnecgelalaaGreatDoor
open Go.RowKit Go.Sort Go.Lib

def rdFl (r : Rd) : Fl × Rd :=
  (⟨(rdText r).1, (rdInt (rdText r).2).1, (rdInt (rdInt (rdText r).2).2).1, (rdNum (rdInt (rdInt (rdText r).2).2).2).1⟩, (rdNum (rdInt (rdInt (rdText r).2).2).2).2)
/-- Behind a tier's first three numbers. -/
def rdTrM (w o m : Int) (r : Rd) : Tr × Rd :=
  if m = 1 then (⟨w, o, (rdInt r).1, true, (rdText (rdInt r).2).1⟩, (rdText (rdInt r).2).2) else (⟨w, o, 0, false, ⟨#[]⟩⟩, r)
def rdOver (m : Int) (r : Rd) : Rd := ⟨r.l, r.bad || decide (1 < m)⟩
def rdTr (r : Rd) : Tr × Rd :=
  rdTrM (rdNum r).1 (rdNum (rdNum r).2).1 (rdNum (rdNum (rdNum r).2).2).1 (rdOver (rdNum (rdNum (rdNum r).2).2).1 (rdNum (rdNum (rdNum r).2).2).2)
theorem mfile_info : (Tryz.prog.info? 74).map (·.size) = some 4 := by kernel_rfl
theorem tier_info : (Tryz.prog.info? 76).map (·.size) = some 5 := by kernel_rfl
theorem RdAt.lt {t : TypeId} {w0 w : World} {p : Nat} {r : Rd} (h : RdAt t w0 p r w) : p < w.heap.size := by
  obtain ⟨_, _, _, hb, _⟩ := h.blk
  exact block_lt hb

set_option maxHeartbeats 4000000 in
set_option maxRecDepth 100000 in
theorem rdMark_any (w0 w : World) (p : Nat) (r : Rd) (h : RdAt 122 w0 p r w) :
    Calls Tryz.prog 66 #[.pointer (some ⟨p, 0, none⟩)] w fun z w' => z = .returned (rdMark r).1.val ∧ RdAt 122 w0 p (rdMark r).2 w' ∧ Chg (· = p) w w' := by
  have HNE := Lib.hid h.lt
  obtain ⟨l, bad⟩ := r
  obtain ⟨q, hq⟩ : ∃ q, q = w.heap.size := ⟨_, rfl⟩
  have HQ := Lib.hid hq
  have hxa := (Ext.refl w).alloc (.cells #[.bool false, .int .i64 0, .int .i64 0] 36 (0, 0))
  have h' := h.ext' hxa
  have hbq : (w.alloc (.cells #[.bool false, .int .i64 0, .int .i64 0] 36 (0, 0))).heap[q]? = some (.cells #[.bool false, .int .i64 0, .int .i64 0] 36 (0, 0)) := by rw [hq]; exact heap_alloc_new w _
  have HBQ := Lib.hid hbq
  have HXA := Lib.hid hxa
  obtain ⟨a, m, c, hb, hs⟩ := h'.blk
  have H := Lib.hid h'
  have HS := Lib.hid (hs.ext h'.ext)
  have HG := Lib.hid (h'.et.ext h'.ext)
  clear h hs h' hbq hxa
  go_enter Tryz.func66, Tryz.ntmps66
  go_upto_region 1 with fail
  rw [← hq]
  clear hq
  generalize w.alloc _ = wa at *
  have c0 := cell_of_block hb 0
  clear hb
  go_wp2_with fail
  refine (waterRead_any wa a m c l HS.out HG.out).mono ?_
  rintro e w1 ⟨rfl, hx⟩
  have HX := Lib.hid hx
  have HR := Lib.hid (H.out.ext' hx)
  have HBQ1 := Lib.hid (hx.keep HBQ.out)
  clear hx c0
  go_upto_region 2 with fail
  obtain ⟨g, hg⟩ : ∃ g, g = w1.heap.size := ⟨_, rfl⟩
  rw [← hg]
  generalize hW : w1.alloc _ = w2
  have hx2 : Ext w1 w2 := by rw [← hW]; exact (Ext.refl w1).alloc _
  have HBG : Hid (w2.heap[g]? = some (.cells #[.bool (markR l).1.s, .int .i64 (markR l).1.t, .int .i64 (markR l).1.g] 36 (0, 0))) := Lib.hid (by rw [← hW, hg]; exact heap_alloc_new w1 _)
  have HBQ2 := Lib.hid (hx2.keep HBQ1.out)
  have HR2 := Lib.hid (HR.out.ext' hx2)
  have HGP : Hid (g ≠ p ∧ q ≠ p ∧ q ≠ g) := Lib.hid (by have := HR.out.lt; have := block_lt HBQ1.out; have := HQ.out; have := HNE.out; omega)
  have HX2 := Lib.hid (HX.out.trans hx2)
  clear hW hx2 hg
  go_wp2_with fail
  refine (took_any w0 w2 p ⟨l, bad⟩ (markR l).2.1 (markR l).2.2 HR2.out (markR_le l)).mono ?_
  rintro e w3 ⟨rfl, hr, hc⟩
  have HR3 := Lib.hid hr
  have HC := Lib.hid ((Chg.of_ext (S := (· = p)) (HXA.out.trans HX2.out)).trans hc (fun _ _ e => e))
  have HBG3 := Lib.hid ((hc.block _ (block_lt HBG.out) HGP.out.1).trans HBG.out)
  have HBQ3 := Lib.hid ((hc.block _ (block_lt HBQ2.out) HGP.out.2.1).trans HBQ2.out)
  clear hr hc
  have c0 := cell_of_block HBG3.out 0
  have c1 := cell_of_block HBG3.out 1
  have c2 := cell_of_block HBG3.out 2
  go_wp2_with (first | (refine wpList_store_box rfl _ _ _ rfl _ _ _ _ rfl rfl HBQ3.out rfl mark_info (by simp [Value.oneCell']) ?_; rintro wx hbx hcx; have HBX := Lib.hid hbx; have HCX := Lib.hid hcx; clear hbx hcx))
  refine bodyPost_ret (results_box Tryz.results66 _ _ rfl HBX.out Tryz.underlying36 rfl mark_info) rfl ?_
  refine ⟨rfl, HR3.out.chg HCX.out (fun e => HGP.out.2.1 e.symm) (fun i hi => ?_), ?_⟩
  · have := HR3.out.new; have h1 := HR3.out.ext.size; have h2 := HQ.out; have h3 := HNE.out; have h4 := HR3.out.new; omega
  · exact HC.out.trans HCX.out (fun i hi e => by have := HQ.out; omega)

theorem RdAt.over {w0 w : World} {p : Nat} {r : Rd} (h : RdAt 122 w0 p r w) (b : Bool) :
    RdAt 122 w0 p ⟨r.l, b⟩ (w.setCell ⟨p, 1, none⟩ (.bool b)) := by
  obtain ⟨a, n, c, hb, hs⟩ := h.blk
  have b1 := setCell_block hb (i := 1) (.bool b)
  exact ⟨⟨a, n, c, by simpa using b1, hs⟩, h.new, rd_store h.ext h.new (setCell_chg w p 1 (.bool b)), h.et⟩

set_option maxHeartbeats 4000000 in
set_option maxRecDepth 100000 in
theorem rdFl_any (w0 w : World) (p : Nat) (r : Rd) (h : RdAt 122 w0 p r w) :
    Calls Tryz.prog 69 #[.pointer (some ⟨p, 0, none⟩)] w fun z w' => z = .returned (rdFl r).1.val ∧ RdAt 122 w0 p (rdFl r).2 w' ∧ Chg (· = p) w w' := by
  have HNE := Lib.hid h.lt
  obtain ⟨q, hq⟩ : ∃ q, q = w.heap.size := ⟨_, rfl⟩
  have HQ := Lib.hid hq
  have hxa := (Ext.refl w).alloc (.cells #[.string ⟨#[]⟩, .int .i64 0, .int .i64 0, .int .i64 0] 74 (0, 0))
  have H := Lib.hid (h.ext' hxa)
  have hbq : (w.alloc (.cells #[.string ⟨#[]⟩, .int .i64 0, .int .i64 0, .int .i64 0] 74 (0, 0))).heap[q]? = some (.cells #[.string ⟨#[]⟩, .int .i64 0, .int .i64 0, .int .i64 0] 74 (0, 0)) := by rw [hq]; exact heap_alloc_new w _
  have HBQ := Lib.hid hbq
  have HC := Lib.hid (Chg.of_ext (S := (· = p)) hxa)
  have HQP : Hid (q ≠ p) := Lib.hid (by have := HNE.out; omega)
  clear h hbq hxa
  go_enter Tryz.func69, Tryz.ntmps69
  go_upto_region 1 with fail
  rw [← hq]
  clear hq
  generalize w.alloc _ = wa at *
  go_wp2_with fail
  refine (rdText_any w0 wa p r H.out).mono ?_
  rintro e w1 ⟨rfl, hr, hc⟩
  have H1 := Lib.hid hr
  have HC1 := Lib.hid (HC.out.trans hc (fun _ _ e => e))
  have HB1 := Lib.hid ((hc.block _ (block_lt HBQ.out) HQP.out).trans HBQ.out)
  clear hr hc HC HBQ H
  go_wp2_with fail
  refine (rdInt_any w0 w1 p _ H1.out).mono ?_
  rintro e w2 ⟨rfl, hr, hc⟩
  have H2 := Lib.hid hr
  have HC2 := Lib.hid (HC1.out.trans hc (fun _ _ e => e))
  have HB2 := Lib.hid ((hc.block _ (block_lt HB1.out) HQP.out).trans HB1.out)
  clear hr hc HC1 HB1 H1
  go_wp2_with fail
  refine (rdInt_any w0 w2 p _ H2.out).mono ?_
  rintro e w3 ⟨rfl, hr, hc⟩
  have H3 := Lib.hid hr
  have HC3 := Lib.hid (HC2.out.trans hc (fun _ _ e => e))
  have HB3 := Lib.hid ((hc.block _ (block_lt HB2.out) HQP.out).trans HB2.out)
  clear hr hc HC2 HB2 H2
  go_wp2_with fail
  refine (rdNum_any w0 w3 p _ H3.out).mono ?_
  rintro e w4 ⟨rfl, hr, hc⟩
  have H4 := Lib.hid hr
  have HC4 := Lib.hid (HC3.out.trans hc (fun _ _ e => e))
  have HB4 := Lib.hid ((hc.block _ (block_lt HB3.out) HQP.out).trans HB3.out)
  clear hr hc HC3 HB3 H3
  go_wp2_with (first | (refine wpList_store_box rfl _ _ _ rfl _ _ _ _ rfl rfl HB4.out rfl mfile_info (by simp [Value.oneCell']) ?_; rintro wx hbx hcx; have HBX := Lib.hid hbx; have HCX := Lib.hid hcx; clear hbx hcx))
  refine bodyPost_ret (results_box Tryz.results69 _ _ rfl HBX.out Tryz.underlying74 rfl mfile_info) rfl ?_
  refine ⟨rfl, H4.out.chg HCX.out (fun e => HQP.out e.symm) (fun i hi => ?_), ?_⟩
  · have := H4.out.new; have h2 := HQ.out; have h3 := HNE.out; omega
  · exact HC4.out.trans HCX.out (fun i hi e => by have := HQ.out; omega)
end Go.Proofs.YtgdgjnecgelalaaGreatDoor

/-! manifest.reader: tier. -/

namespace Go.Proofs.YtgdgjnecgelalaaGreatDoor
open Go.RowKit Go.Sort Go.Lib

set_option maxHeartbeats 8000000 in
set_option maxRecDepth 100000 in
theorem rdTr_any (w0 w : World) (p : Nat) (r : Rd) (h : RdAt 122 w0 p r w) :
    Calls Tryz.prog 71 #[.pointer (some ⟨p, 0, none⟩)] w fun z w' => z = .returned (rdTr r).1.val ∧ RdAt 122 w0 p (rdTr r).2 w' ∧ Chg (· = p) w w' := by
  have HNE := Lib.hid h.lt
  obtain ⟨q, hq⟩ : ∃ q, q = w.heap.size := ⟨_, rfl⟩
  have HQ := Lib.hid hq
  have hxa := (Ext.refl w).alloc (.cells #[.int .i64 0, .int .i64 0, .int .i64 0, .bool false, .string ⟨#[]⟩] 76 (0, 0))
  have H := Lib.hid (h.ext' hxa)
  have hbq : (w.alloc (.cells #[.int .i64 0, .int .i64 0, .int .i64 0, .bool false, .string ⟨#[]⟩] 76 (0, 0))).heap[q]? = some (.cells #[.int .i64 0, .int .i64 0, .int .i64 0, .bool false, .string ⟨#[]⟩] 76 (0, 0)) := by rw [hq]; exact heap_alloc_new w _
  have HBQ := Lib.hid hbq
  have HC := Lib.hid (Chg.of_ext (S := (· = p)) hxa)
  have HQP : Hid (q ≠ p) := Lib.hid (by have := HNE.out; omega)
  clear h hbq hxa
  go_enter Tryz.func71, Tryz.ntmps71
  go_upto_region 1 with fail
  rw [← hq]
  clear hq
  generalize w.alloc _ = wa at *
  go_wp2_with fail
  refine (rdNum_any w0 wa p r H.out).mono ?_
  rintro e w1 ⟨rfl, hr, hc⟩
  have H1 := Lib.hid hr
  have HC1 := Lib.hid (HC.out.trans hc (fun _ _ e => e))
  have HB1 := Lib.hid ((hc.block _ (block_lt HBQ.out) HQP.out).trans HBQ.out)
  clear hr hc HC HBQ H
  go_wp2_with fail
  refine (rdNum_any w0 w1 p _ H1.out).mono ?_
  rintro e w2 ⟨rfl, hr, hc⟩
  have H2 := Lib.hid hr
  have HC2 := Lib.hid (HC1.out.trans hc (fun _ _ e => e))
  have HB2 := Lib.hid ((hc.block _ (block_lt HB1.out) HQP.out).trans HB1.out)
  clear hr hc HC1 HB1 H1
  have HF : Hid (rdTr r = rdTrM (rdNum r).1 (rdNum (rdNum r).2).1 (rdNum (rdNum (rdNum r).2).2).1 (rdOver (rdNum (rdNum (rdNum r).2).2).1 (rdNum (rdNum (rdNum r).2).2).2)) := Lib.hid rfl
  generalize (rdNum (rdNum r).2).2 = r2 at *
  generalize (rdNum (rdNum r).2).1 = o at *
  generalize (rdNum r).1 = d at *
  go_upto_region 2 with fail
  obtain ⟨g, hg⟩ : ∃ g, g = w2.heap.size := ⟨_, rfl⟩
  rw [← hg]
  generalize hW : w2.alloc _ = wb
  have hx2 : Ext w2 wb := by rw [← hW]; exact (Ext.refl w2).alloc _
  have HTB : Hid (wb.heap[g]? = some (.cells #[.int .i64 d, .int .i64 o, .int .i64 0, .bool false, .string ⟨#[]⟩] 76 (0, 0))) := Lib.hid (by rw [← hW, hg]; exact heap_alloc_new w2 _)
  have HBB := Lib.hid (hx2.keep HB2.out)
  have HRB := Lib.hid (H2.out.ext' hx2)
  have HGP : Hid (q ≠ p ∧ g ≠ p ∧ q ≠ g ∧ w.heap.size ≤ g) := Lib.hid (by have := H2.out.lt; have := block_lt HB2.out; have := HQ.out; have := HNE.out; omega)
  have HCB := Lib.hid (HC2.out.trans (Chg.of_ext hx2) (fun _ _ e => e))
  clear hW hx2 hg HC2 HB2 H2
  go_wp2_with fail
  refine (rdNum_any w0 wb p _ HRB.out).mono ?_
  rintro e w3 ⟨rfl, hr, hc⟩
  have HC3 := Lib.hid (HCB.out.trans hc (fun _ _ e => e))
  have HB3 := Lib.hid ((hc.block _ (block_lt HBB.out) HGP.out.1).trans HBB.out)
  have HT3 := Lib.hid ((hc.block _ (block_lt HTB.out) HGP.out.2.1).trans HTB.out)
  generalize (rdNum r2).2 = r3 at *
  generalize (rdNum r2).1 = m at *
  obtain ⟨l3, b3'⟩ := r3
  have H3 := Lib.hid hr
  obtain ⟨a, n, c, hb, -⟩ := hr.blk
  have c1 := cell_of_block hb 1
  have z1 := free_of_block hb 1
  clear hr hc hb HCB HBB HTB HRB
  by_cases h1 : m = 1
  · subst h1
    have hmd : decide ((1 : Int) < 1) = false := by decide
    have HF2 : Hid (rdTr r = (⟨d, o, (rdInt (rdOver 1 ⟨l3, b3'⟩)).1, true, (rdText (rdInt (rdOver 1 ⟨l3, b3'⟩)).2).1⟩, (rdText (rdInt (rdOver 1 ⟨l3, b3'⟩)).2).2)) := Lib.hid (by rw [HF.out]; simp [rdTrM])
    clear HF
    cases b3'
    all_goals as_aux_lemma =>
      go_upto_region 4 with fail
      generalize hw5 : World.setCell _ _ _ = w5
      have hcm : Chg (· = p) w3 w5 := by rw [← hw5]; exact setCell_chg _ _ _ _
      have H5 : Hid (RdAt 122 w0 p (rdOver 1 ⟨l3, _⟩) w5) := Lib.hid (by
        rw [← hw5]
        exact H3.out.over _)
      have HC5 := Lib.hid (HC3.out.trans hcm (fun _ _ e => e))
      have HB5 := Lib.hid ((hcm.block _ (block_lt HB3.out) HGP.out.1).trans HB3.out)
      have HT5 := (hcm.block _ (block_lt HT3.out) HGP.out.2.1).trans HT3.out
      have z3 := free_of_block HT5 3
      have c3 := cell_of_block HT5 3
      have HT5 := Lib.hid HT5
      clear hw5 hcm c1 z1
      go_upto_region 5 with fail
      generalize hw6 : World.setCell _ _ _ = w6
      have hcm : Chg (· = g) w5 w6 := by rw [← hw6]; exact setCell_chg _ _ _ _
      have H6 := Lib.hid (H5.out.chg hcm (fun e => HGP.out.2.1 e.symm) (fun i hi => by have := H5.out.new; have := HGP.out.2.2.2; have := HNE.out; omega))
      have HC6 := Lib.hid (HC5.out.trans hcm (fun i hi e => by have := HGP.out.2.2.2; omega))
      have HB6 := Lib.hid ((hcm.block _ (block_lt HB5.out) HGP.out.2.2.1).trans HB5.out)
      have HT6 : w6.heap[g]? = some (.cells #[.int .i64 d, .int .i64 o, .int .i64 0, .bool true, .string ⟨#[]⟩] 76 (0, 0)) := by
        have := setCell_block HT5.out (i := 3) (.bool true)
        rw [← hw6]; simpa using this
      clear hw6 hcm z3 c3 HC5 HB5 HT5 H5
      have c3 := cell_of_block HT6 3
      have HT6 := Lib.hid HT6
      go_wp2_with fail
      refine (rdInt_any w0 w6 p _ H6.out).mono ?_
      rintro e w7 ⟨rfl, hr, hc⟩
      have H7 := Lib.hid hr
      have HC7 := Lib.hid (HC6.out.trans hc (fun _ _ e => e))
      have HB7 := Lib.hid ((hc.block _ (block_lt HB6.out) HGP.out.1).trans HB6.out)
      have HT7 := Lib.hid ((hc.block _ (block_lt HT6.out) HGP.out.2.1).trans HT6.out)
      clear hr hc H6 HC6 HB6 HT6 c3
      go_wp2_with fail
      refine (rdText_any w0 w7 p _ H7.out).mono ?_
      rintro e w8 ⟨rfl, hr, hc⟩
      have H8 := Lib.hid hr
      have HC8 := Lib.hid (HC7.out.trans hc (fun _ _ e => e))
      have HB8 := Lib.hid ((hc.block _ (block_lt HB7.out) HGP.out.1).trans HB7.out)
      have HT8 := (hc.block _ (block_lt HT7.out) HGP.out.2.1).trans HT7.out
      have z2 := free_of_block HT8 2
      have z4 := free_of_block HT8 4
      have c2 := cell_of_block HT8 2
      have c4 := cell_of_block HT8 4
      have HT8 := Lib.hid HT8
      generalize (rdInt (rdOver 1 _)).1 = vi at *
      generalize (rdText (rdInt (rdOver 1 _)).2).1 = vt at *
      clear hr hc H7 HC7 HB7 HT7
      go_upto_region 7 with fail
      generalize hw9 : World.setCell _ _ _ = w9
      have hcm : Chg (· = g) w8 w9 := by rw [← hw9]; exact (setCell_chg _ _ _ _).trans (setCell_chg _ _ _ _) (fun _ _ e => e)
      have H9 := Lib.hid (H8.out.chg hcm (fun e => HGP.out.2.1 e.symm) (fun i hi => by have := H8.out.new; have := HGP.out.2.2.2; have := HNE.out; omega))
      have HC9 := Lib.hid (HC8.out.trans hcm (fun i hi e => by have := HGP.out.2.2.2; omega))
      have HB9 := Lib.hid ((hcm.block _ (block_lt HB8.out) HGP.out.2.2.1).trans HB8.out)
      have HT9 : w9.heap[g]? = some (.cells #[.int .i64 d, .int .i64 o, .int .i64 vi, .bool true, .string vt] 76 (0, 0)) := by
        have h1 := setCell_block HT8.out (i := 2) (.int .i64 vi)
        have h2 := setCell_block h1 (i := 4) (.string vt)
        rw [← hw9]; simpa using h2
      clear hw9 hcm z2 z4 c2 c4 HC8 HB8 HT8 H8
      have c0 := cell_of_block HT9 0
      have c1 := cell_of_block HT9 1
      have c2 := cell_of_block HT9 2
      have c3 := cell_of_block HT9 3
      have c4 := cell_of_block HT9 4
      clear HT9
      go_wp2_with (first | (refine wpList_store_box rfl _ _ _ rfl _ _ _ _ rfl rfl HB9.out rfl tier_info (by simp [Value.oneCell']) ?_; rintro wx hbx hcx; have HBX := Lib.hid hbx; have HCX := Lib.hid hcx; clear hbx hcx))
      refine bodyPost_ret (results_box Tryz.results71 _ _ rfl HBX.out Tryz.underlying76 rfl tier_info) rfl ?_
      rw [HF2.out]
      refine ⟨rfl, H9.out.chg HCX.out (fun e => HGP.out.1 e.symm) (fun i hi => ?_), ?_⟩
      · have := H9.out.new; have h2 := HQ.out; have h3 := HNE.out; omega
      · exact HC9.out.trans HCX.out (fun i hi e => by have := HQ.out; omega)
  · have HF2 : Hid (rdTr r = (⟨d, o, 0, false, ⟨#[]⟩⟩, rdOver m ⟨l3, b3'⟩)) := Lib.hid (by rw [HF.out]; simp [rdTrM, h1])
    have hme : (m == 1) = false := by simp [h1]
    clear HF h1
    cases b3'
    all_goals as_aux_lemma =>
      go_upto_region 4 with fail
      generalize hw5 : World.setCell _ _ _ = w5
      have hcm : Chg (· = p) w3 w5 := by rw [← hw5]; exact setCell_chg _ _ _ _
      have H5 : Hid (RdAt 122 w0 p (rdOver m ⟨l3, _⟩) w5) := Lib.hid (by
        rw [← hw5]
        exact H3.out.over _)
      have HC5 := Lib.hid (HC3.out.trans hcm (fun _ _ e => e))
      have HB5 := Lib.hid ((hcm.block _ (block_lt HB3.out) HGP.out.1).trans HB3.out)
      have HT5 := (hcm.block _ (block_lt HT3.out) HGP.out.2.1).trans HT3.out
      have z3 := free_of_block HT5 3
      have c3 := cell_of_block HT5 3
      have HT5 := Lib.hid HT5
      clear hw5 hcm c1 z1
      go_upto_region 5 with fail
      generalize hw6 : World.setCell _ _ _ = w6
      have hcm : Chg (· = g) w5 w6 := by rw [← hw6]; exact setCell_chg _ _ _ _
      have H6 := Lib.hid (H5.out.chg hcm (fun e => HGP.out.2.1 e.symm) (fun i hi => by have := H5.out.new; have := HGP.out.2.2.2; have := HNE.out; omega))
      have HC6 := Lib.hid (HC5.out.trans hcm (fun i hi e => by have := HGP.out.2.2.2; omega))
      have HB6 := Lib.hid ((hcm.block _ (block_lt HB5.out) HGP.out.2.2.1).trans HB5.out)
      have HT6 : w6.heap[g]? = some (.cells #[.int .i64 d, .int .i64 o, .int .i64 0, .bool false, .string ⟨#[]⟩] 76 (0, 0)) := by
        have := setCell_block HT5.out (i := 3) (.bool false)
        rw [← hw6]; simpa [hme] using this
      clear hw6 hcm z3 c3 HC5 HB5 HT5 H5
      have c0 := cell_of_block HT6 0
      have c1 := cell_of_block HT6 1
      have c2 := cell_of_block HT6 2
      have c3 := cell_of_block HT6 3
      have c4 := cell_of_block HT6 4
      clear HT6
      go_wp2_with (first | (refine wpList_store_box rfl _ _ _ rfl _ _ _ _ rfl rfl HB6.out rfl tier_info (by simp [Value.oneCell']) ?_; rintro wx hbx hcx; have HBX := Lib.hid hbx; have HCX := Lib.hid hcx; clear hbx hcx))
      refine bodyPost_ret (results_box Tryz.results71 _ _ rfl HBX.out Tryz.underlying76 rfl tier_info) rfl ?_
      rw [HF2.out]
      refine ⟨rfl, H6.out.chg HCX.out (fun e => HGP.out.1 e.symm) (fun i hi => ?_), ?_⟩
      · have := H6.out.new; have h2 := HQ.out; have h3 := HNE.out; omega
      · exact HC6.out.trans HCX.out (fun i hi e => by have := HQ.out; omega)
end Go.Proofs.YtgdgjnecgelalaaGreatDoor
