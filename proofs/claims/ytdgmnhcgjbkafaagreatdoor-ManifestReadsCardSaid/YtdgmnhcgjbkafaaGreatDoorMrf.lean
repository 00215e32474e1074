/- manifest.reader: what is read, plainly; took. -/
import Derived.Test.YtdgmnhcgjbkafaaGreatDoorMgc
namespace Go.Proofs.YtdgmnhcgjbkafaaGreatDoor
open Go.RowKit Go.Sort Go.Lib

/-- Bytes that are read, and whether they were bad. -/
structure Rd where
  l : List UInt8
  bad : Bool
def rdNum (r : Rd) : Int × Rd :=
  (if (r.bad || (varR r.l).2.2 != 0 || decide (1152921504606846976 < (varR r.l).1)) = true then 0 else ((varR r.l).1 : Int), ⟨r.l.drop (varR r.l).2.1, r.bad || (varR r.l).2.2 != 0 || decide (1152921504606846976 < (varR r.l).1)⟩)
def rdInt (r : Rd) : Int × Rd := (zag (varR r.l).1, ⟨r.l.drop (varR r.l).2.1, r.bad || (varR r.l).2.2 != 0⟩)
def rdText (r : Rd) : ByteArray × Rd := (⟨(txtR r.l 64).1.toArray⟩, ⟨r.l.drop (txtR r.l 64).2.1, r.bad || (txtR r.l 64).2.2 != 0⟩)
def rdMark (r : Rd) : Mk × Rd := ((markR r.l).1, ⟨r.l.drop (markR r.l).2.1, r.bad || (markR r.l).2.2 != 0⟩)

/-- A reader in memory. -/
structure RdAt (t : TypeId) (w0 : World) (p : Nat) (r : Rd) (w : World) : Prop where
  blk : ∃ a n c, w.heap[p]? = some (.cells #[.slice a n c, .bool r.bad] t (0, 0)) ∧ SlB w0 a n c r.l
  new : w0.heap.size ≤ p
  ext : Ext w0 w
  et : HasET w0
theorem RdAt.ext' {t : TypeId} {w0 w w' : World} {p : Nat} {r : Rd} (h : RdAt t w0 p r w) (hx : Ext w w') : RdAt t w0 p r w' := by
  obtain ⟨a, n, c, hb, hs⟩ := h.blk
  exact ⟨⟨a, n, c, hx.keep hb, hs⟩, h.new, h.ext.trans hx, h.et⟩
theorem RdAt.chg {t : TypeId} {w0 w w' : World} {p : Nat} {r : Rd} {S : Nat → Prop} (h : RdAt t w0 p r w) (hx : Chg S w w') (hp : ¬ S p) (hS : ∀ i, S i → w0.heap.size ≤ i) : RdAt t w0 p r w' := by
  obtain ⟨a, n, c, hb, hs⟩ := h.blk
  exact ⟨⟨a, n, c, (hx.block _ (block_lt hb) hp).trans hb, hs⟩, h.new, ((Chg.of_ext h.ext).trans hx (fun _ _ e => e)).ext (fun i hi e => by have := hS i e; omega), h.et⟩
theorem rd_store {w0 w w' : World} {p : Nat} (h : Ext w0 w) (hp : w0.heap.size ≤ p) (hx : Chg (· = p) w w') : Ext w0 w' := ((Chg.of_ext h).trans hx (fun _ _ e => e)).ext (fun i hi e => by omega)

set_option maxHeartbeats 4000000 in
set_option maxRecDepth 100000 in
theorem took_any (w0 w : World) (p : Nat) (r : Rd) (n : Nat) (e : Int) (h : RdAt 68 w0 p r w) (hn : n ≤ r.l.length) :
    Calls Tryz.prog 53 #[.pointer (some ⟨p, 0, none⟩), .int .i64 (n : Int), .int .i64 e] w fun z w' => z = .returned (.tuple #[]) ∧ RdAt 68 w0 p ⟨r.l.drop n, r.bad || e != 0⟩ w' ∧ Chg (· = p) w w' := by
  obtain ⟨l, bad⟩ := r
  obtain ⟨a, m, c, hb, hs⟩ := h.blk
  have H := Lib.hid h
  have HS := Lib.hid hs
  have hnm : n ≤ m := by have := hs.len; simp only at *; omega
  have hs1 := run_slice_lo Tryz.underlying28 sz_u8 a m c n hnm
  have HBX := Lib.hid hb
  have HFIN : Hid (∀ w1 w' , w1 = w.setCell ⟨p, 1, none⟩ (.bool (bad || e != 0)) → w' = w1.setCell ⟨p, 0, none⟩ (.slice (cutA a c n) (m - n) (c - n)) → RdAt 68 w0 p ⟨l.drop n, bad || e != 0⟩ w' ∧ Chg (· = p) w w') := Lib.hid (by
    rintro w1 w' rfl rfl
    have b1 := setCell_block hb (i := 1) (.bool (bad || e != 0))
    have b2 := setCell_block b1 (i := 0) (.slice (cutA a c n) (m - n) (c - n))
    have hc := (setCell_chg w p 1 (.bool (bad || e != 0))).trans (setCell_chg _ p 0 (.slice (cutA a c n) (m - n) (c - n))) (fun _ _ e => e)
    refine ⟨⟨⟨_, _, _, by simpa using b2, hs.cut hnm⟩, h.new, rd_store h.ext h.new hc, h.et⟩, hc⟩)
  have c0 := cell_of_block hb 0
  have c1 := cell_of_block hb 1
  have z1 := free_of_block hb 1
  clear h hb hs hn hnm
  generalize cutA a c n = a1 at *
  generalize m - n = m1 at *
  generalize c - n = k1 at *
  go_enter Tryz.func53, Tryz.ntmps53
  cases bad
  · go_upto_region 1 with fail
    generalize hw1 : World.setCell _ _ _ = w1
    have hb1 : w1.heap[p]? = some (.cells #[.slice a m c, .bool (e != 0)] 68 (0, 0)) := by
      have b1 := setCell_block HBX.out (i := 1) (.bool (e != 0))
      rw [← hw1]; simpa using b1
    have HW1 := Lib.hid hw1
    clear c0 c1 z1 hw1
    have c0 := cell_of_block hb1 0
    have z0 := free_of_block hb1 0
    clear hb1
    go_wp2_with fail
    go_end0
    exact ⟨rfl, HFIN.out w1 _ (by rw [← HW1.out]; simp) rfl⟩
  · go_upto_region 1 with fail
    generalize hw1 : World.setCell _ _ _ = w1
    have hb1 : w1.heap[p]? = some (.cells #[.slice a m c, .bool true] 68 (0, 0)) := by
      have b1 := setCell_block HBX.out (i := 1) (.bool true)
      rw [← hw1]; simpa using b1
    have HW1 := Lib.hid hw1
    clear c0 c1 z1 hw1
    have c0 := cell_of_block hb1 0
    have z0 := free_of_block hb1 0
    clear hb1
    go_wp2_with fail
    go_end0
    exact ⟨rfl, HFIN.out w1 _ (by rw [← HW1.out]; simp) rfl⟩
end Go.Proofs.YtdgmnhcgjbkafaaGreatDoor

/-! manifest.reader: num, int, text, mark. -/

namespace Go.Proofs.YtdgmnhcgjbkafaaGreatDoor
open Go.RowKit Go.Sort Go.Lib

theorem txtR_le (l : List UInt8) : (txtR l 64).2.1 ≤ l.length := by
  have h := varR_bounds l
  unfold txtR
  split
  · simp
  split
  · simp
  split
  · simp
  · simp only; omega
theorem markR_le (l : List UInt8) : (markR l).2.1 ≤ l.length := by
  have h1 := (varR_bounds l).2.1
  have h2 := (varR_bounds (l.drop (varR l).2.1)).2.1
  rw [List.length_drop] at h2
  have h3 := (varR_bounds (l.drop ((varR l).2.1 + (varR (l.drop (varR l).2.1)).2.1))).2.1
  rw [List.length_drop] at h3
  unfold markR
  split
  · simp [markE]
  unfold markC
  split
  · simp [markE]
  split
  · unfold markIf; split
    · simp only; omega
    · simp [markE]
  split
  · unfold markD
    split
    · simp [markE]
    · unfold markIf; split
      · simp only; omega
      · simp [markE]
  · simp [markE]
theorem num_conv {u : Nat} (h : u ≤ 1152921504606846976) : IntKind.i64.wrap (u : Int) = (u : Int) := by
  rw [IntKind.wrap_i64]; omega

set_option maxHeartbeats 4000000 in
set_option maxRecDepth 100000 in
theorem rdNum_any (w0 w : World) (p : Nat) (r : Rd) (h : RdAt 68 w0 p r w) :
    Calls Tryz.prog 22 #[.pointer (some ⟨p, 0, none⟩)] w fun z w' => z = .returned (.int .i64 (rdNum r).1) ∧ RdAt 68 w0 p (rdNum r).2 w' ∧ Chg (· = p) w w' := by
  obtain ⟨l, bad⟩ := r
  obtain ⟨a, m, c, hb, hs⟩ := h.blk
  have H := Lib.hid h
  have HS := Lib.hid (hs.ext h.ext)
  have HG := Lib.hid (h.et.ext h.ext)
  have c0 := cell_of_block hb 0
  have hv := varR_bounds l
  obtain ⟨u, k, x, hV⟩ : ∃ u k x, varR l = (u, k, x) := ⟨_, _, _, rfl⟩
  rw [hV] at hv
  obtain ⟨hv1, hv2, hv3, -⟩ := hv
  simp only at hv1 hv2 hv3
  have HFIN : Hid (rdNum ⟨l, bad⟩ = (if (bad || x != 0 || decide (1152921504606846976 < u)) = true then 0 else (u : Int), ⟨l.drop k, bad || x != 0 || decide (1152921504606846976 < u)⟩)) := Lib.hid (by simp [rdNum, hV])
  have HV := Lib.hid hV
  have HK := Lib.hid hv2
  clear h hb hs hV hv2
  go_enter Tryz.func22, Tryz.ntmps22
  go_wp2_with fail
  refine (varRead_any w a m c l HS.out.src HS.out.few HG.out).mono ?_
  rw [HV.out]
  rintro e w1 ⟨rfl, hx⟩
  have HX := Lib.hid hx
  have HR := Lib.hid (H.out.ext' hx)
  clear hx c0
  go_wp2_with fail
  refine (took_any w0 w1 p ⟨l, bad⟩ k x HR.out HK.out).mono ?_
  rintro e w2 ⟨rfl, hr, hc⟩
  have HR2 := Lib.hid hr
  have HC := Lib.hid ((Chg.of_ext (S := (· = p)) HX.out).trans hc (fun _ _ e => e))
  simp only at hr
  obtain ⟨B, hB⟩ : ∃ B, B = (bad || x != 0) := ⟨_, rfl⟩
  rw [← hB] at hr HFIN
  obtain ⟨a2, m2, c2, hb2, hs2⟩ := hr.blk
  have HBX := Lib.hid hb2
  have HR3 := Lib.hid hr
  have HSS := Lib.hid hs2
  have c0 := cell_of_block hb2 0
  have c1 := cell_of_block hb2 1
  have z1 := free_of_block hb2 1
  clear hr hc hb2 hB hs2 HR HR2
  have HGO : Hid (∀ b w3, w3 = w2.setCell ⟨p, 1, none⟩ (.bool b) → RdAt 68 w0 p ⟨l.drop k, b⟩ w3 ∧ Chg (· = p) w w3 ∧ w3.cell? ⟨p, 1, none⟩ = some (.bool b)) := Lib.hid (by
    rintro b w3 rfl
    have b1 := setCell_block HBX.out (i := 1) (.bool b)
    have b2 : (w2.setCell ⟨p, 1, none⟩ (.bool b)).heap[p]? = some (.cells #[.slice a2 m2 c2, .bool b] 68 (0, 0)) := by simpa using b1
    have hc := setCell_chg w2 p 1 (.bool b)
    exact ⟨⟨⟨_, _, _, b2, HSS.out⟩, HR3.out.new, rd_store HR3.out.ext HR3.out.new hc, HR3.out.et⟩, HC.out.trans hc (fun _ _ e => e), cell_of_block b2 1⟩)
  cases B
  · by_cases hu : 1152921504606846976 < u
    · have hd : decide (1152921504606846976 < u) = true := by simpa using hu
      have hdi : decide ((1152921504606846976 : Int) < (u : Int)) = true := by simp; omega
      have HF2 : Hid (rdNum ⟨l, bad⟩ = (0, ⟨l.drop k, true⟩)) := Lib.hid (by rw [HFIN.out, hd]; simp)
      have hui : (1152921504606846976 : Int) < (u : Int) := by omega
      clear hd hu HFIN
      go_upto_region 4 with fail
      generalize hw1 : World.setCell _ _ _ = w3
      obtain ⟨hq1, hq2, hq3⟩ := HGO.out true w3 (by rw [← hw1])
      have HQ1 := Lib.hid hq1
      have HQ2 := Lib.hid hq2
      clear c0 c1 z1 hw1 hq1 hq2
      go_wp2_with fail
      go_ret
      rw [HF2.out]
      exact ⟨rfl, HQ1.out, HQ2.out⟩
    · have hd : decide (1152921504606846976 < u) = false := by simpa using hu
      have HF2 : Hid (rdNum ⟨l, bad⟩ = ((u : Int), ⟨l.drop k, false⟩)) := Lib.hid (by rw [HFIN.out, hd]; simp)
      have hui : ¬ (1152921504606846976 : Int) < (u : Int) := by omega
      have hcv := num_conv (u := u) (by omega)
      clear hd hu HFIN
      go_upto_region 4 with fail
      generalize hw1 : World.setCell _ _ _ = w3
      obtain ⟨hq1, hq2, hq3⟩ := HGO.out false w3 (by rw [← hw1, show decide ((1152921504606846976 : Int) < (u : Int)) = false by simp; omega])
      have HQ1 := Lib.hid hq1
      have HQ2 := Lib.hid hq2
      clear c0 c1 z1 hw1 hq1 hq2
      go_wp2_with fail
      go_ret
      rw [HF2.out]
      exact ⟨by simp [hcv], HQ1.out, HQ2.out⟩
  · have HF2 : Hid (rdNum ⟨l, bad⟩ = (0, ⟨l.drop k, true⟩)) := Lib.hid (by rw [HFIN.out]; simp)
    clear HFIN
    go_upto_region 4 with fail
    generalize hw1 : World.setCell _ _ _ = w3
    obtain ⟨hq1, hq2, hq3⟩ := HGO.out true w3 (by rw [← hw1])
    have HQ1 := Lib.hid hq1
    have HQ2 := Lib.hid hq2
    clear c0 c1 z1 hw1 hq1 hq2
    go_wp2_with fail
    go_ret
    rw [HF2.out]
    exact ⟨rfl, HQ1.out, HQ2.out⟩

set_option maxHeartbeats 4000000 in
set_option maxRecDepth 100000 in
theorem rdInt_any (w0 w : World) (p : Nat) (r : Rd) (h : RdAt 68 w0 p r w) :
    Calls Tryz.prog 55 #[.pointer (some ⟨p, 0, none⟩)] w fun z w' => z = .returned (.int .i64 (rdInt r).1) ∧ RdAt 68 w0 p (rdInt r).2 w' ∧ Chg (· = p) w w' := by
  obtain ⟨l, bad⟩ := r
  obtain ⟨a, m, c, hb, hs⟩ := h.blk
  have H := Lib.hid h
  have HS := Lib.hid (hs.ext h.ext)
  have HG := Lib.hid (h.et.ext h.ext)
  have c0 := cell_of_block hb 0
  clear h hb hs
  go_enter Tryz.func55, Tryz.ntmps55
  go_wp2_with fail
  refine (varReadInt_any w a m c l HS.out.src HS.out.few HG.out).mono ?_
  rintro e w1 ⟨rfl, hx⟩
  have HX := Lib.hid hx
  have HR := Lib.hid (H.out.ext' hx)
  clear hx c0
  go_wp2_with fail
  refine (took_any w0 w1 p ⟨l, bad⟩ (varR l).2.1 (varR l).2.2 HR.out (varR_bounds l).2.1).mono ?_
  rintro e w2 ⟨rfl, hr, hc⟩
  have HR2 := Lib.hid hr
  have HC := Lib.hid ((Chg.of_ext (S := (· = p)) HX.out).trans hc (fun _ _ e => e))
  clear hr hc
  go_wp2_with fail
  go_ret
  exact ⟨rfl, HR2.out, HC.out⟩

set_option maxHeartbeats 4000000 in
set_option maxRecDepth 100000 in
theorem rdText_any (w0 w : World) (p : Nat) (r : Rd) (h : RdAt 68 w0 p r w) :
    Calls Tryz.prog 54 #[.pointer (some ⟨p, 0, none⟩)] w fun z w' => z = .returned (.string (rdText r).1) ∧ RdAt 68 w0 p (rdText r).2 w' ∧ Chg (· = p) w w' := by
  obtain ⟨l, bad⟩ := r
  obtain ⟨a, m, c, hb, hs⟩ := h.blk
  have H := Lib.hid h
  have HS := Lib.hid (hs.ext h.ext)
  have HG := Lib.hid (h.et.ext h.ext)
  have c0 := cell_of_block hb 0
  clear h hb hs
  go_enter Tryz.func54, Tryz.ntmps54
  go_wp2_with fail
  refine (varText_any w a m c l 64 (by decide) HS.out.src HS.out.le HS.out.few HG.out).mono ?_
  rintro e w1 ⟨rfl, hx⟩
  have HX := Lib.hid hx
  have HR := Lib.hid (H.out.ext' hx)
  clear hx c0
  go_wp2_with fail
  refine (took_any w0 w1 p ⟨l, bad⟩ (txtR l 64).2.1 (txtR l 64).2.2 HR.out (txtR_le l)).mono ?_
  rintro e w2 ⟨rfl, hr, hc⟩
  have HR2 := Lib.hid hr
  have HC := Lib.hid ((Chg.of_ext (S := (· = p)) HX.out).trans hc (fun _ _ e => e))
  clear hr hc
  go_wp2_with fail
  go_ret
  exact ⟨rfl, HR2.out, HC.out⟩

end Go.Proofs.YtdgmnhcgjbkafaaGreatDoor

/-! manifest.reader: mark, file, tier. -/

namespace Go.Proofs.YtdgmnhcgjbkafaaGreatDoor
open Go.RowKit Go.Sort Go.Lib

def rdFl (r : Rd) : Fl × Rd :=
  (⟨(rdText r).1, (rdInt (rdText r).2).1, (rdInt (rdInt (rdText r).2).2).1, (rdNum (rdInt (rdInt (rdText r).2).2).2).1⟩, (rdNum (rdInt (rdInt (rdText r).2).2).2).2)
/-- Behind a tier's first three numbers. -/
def rdTrM (w o m : Int) (r : Rd) : Tr × Rd :=
  if m = 1 then (⟨w, o, (rdInt r).1, true, (rdText (rdInt r).2).1⟩, (rdText (rdInt r).2).2) else (⟨w, o, 0, false, ⟨#[]⟩⟩, r)
def rdOver (m : Int) (r : Rd) : Rd := ⟨r.l, r.bad || decide (1 < m)⟩
def rdTr (r : Rd) : Tr × Rd :=
  rdTrM (rdNum r).1 (rdNum (rdNum r).2).1 (rdNum (rdNum (rdNum r).2).2).1 (rdOver (rdNum (rdNum (rdNum r).2).2).1 (rdNum (rdNum (rdNum r).2).2).2)
theorem file_info : (Tryz.prog.info? 48).map (·.size) = some 4 := by kernel_rfl
theorem tier_info : (Tryz.prog.info? 50).map (·.size) = some 5 := by kernel_rfl
theorem RdAt.lt {t : TypeId} {w0 w : World} {p : Nat} {r : Rd} (h : RdAt t w0 p r w) : p < w.heap.size := by
  obtain ⟨_, _, _, hb, _⟩ := h.blk
  exact block_lt hb

set_option maxHeartbeats 4000000 in
set_option maxRecDepth 100000 in
theorem rdMark_any (w0 w : World) (p : Nat) (r : Rd) (h : RdAt 68 w0 p r w) :
    Calls Tryz.prog 23 #[.pointer (some ⟨p, 0, none⟩)] w fun z w' => z = .returned (rdMark r).1.val ∧ RdAt 68 w0 p (rdMark r).2 w' ∧ Chg (· = p) w w' := by
  have HNE := Lib.hid h.lt
  obtain ⟨l, bad⟩ := r
  obtain ⟨q, hq⟩ : ∃ q, q = w.heap.size := ⟨_, rfl⟩
  have HQ := Lib.hid hq
  have hxa := (Ext.refl w).alloc (.cells #[.bool false, .int .i64 0, .int .i64 0] 23 (0, 0))
  have h' := h.ext' hxa
  have hbq : (w.alloc (.cells #[.bool false, .int .i64 0, .int .i64 0] 23 (0, 0))).heap[q]? = some (.cells #[.bool false, .int .i64 0, .int .i64 0] 23 (0, 0)) := by rw [hq]; exact heap_alloc_new w _
  have HBQ := Lib.hid hbq
  have HXA := Lib.hid hxa
  obtain ⟨a, m, c, hb, hs⟩ := h'.blk
  have H := Lib.hid h'
  have HS := Lib.hid (hs.ext h'.ext)
  have HG := Lib.hid (h'.et.ext h'.ext)
  clear h hs h' hbq hxa
  go_enter Tryz.func23, Tryz.ntmps23
  go_upto_region 1 with fail
  rw [← hq]
  clear hq
  generalize w.alloc _ = wa at *
  have c0 := cell_of_block hb 0
  clear hb
  go_wp2_with fail
  refine (waterRead_any wa a m c l HS.out HG.out).mono ?_
  rintro e w1 ⟨rfl, hx⟩
  have HX := Lib.hid hx
  have HR := Lib.hid (H.out.ext' hx)
  have HBQ1 := Lib.hid (hx.keep HBQ.out)
  clear hx c0
  go_upto_region 2 with fail
  obtain ⟨g, hg⟩ : ∃ g, g = w1.heap.size := ⟨_, rfl⟩
  rw [← hg]
  generalize hW : w1.alloc _ = w2
  have hx2 : Ext w1 w2 := by rw [← hW]; exact (Ext.refl w1).alloc _
  have HBG : Hid (w2.heap[g]? = some (.cells #[.bool (markR l).1.s, .int .i64 (markR l).1.t, .int .i64 (markR l).1.g] 23 (0, 0))) := Lib.hid (by rw [← hW, hg]; exact heap_alloc_new w1 _)
  have HBQ2 := Lib.hid (hx2.keep HBQ1.out)
  have HR2 := Lib.hid (HR.out.ext' hx2)
  have HGP : Hid (g ≠ p ∧ q ≠ p ∧ q ≠ g) := Lib.hid (by have := HR.out.lt; have := block_lt HBQ1.out; have := HQ.out; have := HNE.out; omega)
  have HX2 := Lib.hid (HX.out.trans hx2)
  clear hW hx2 hg
  go_wp2_with fail
  refine (took_any w0 w2 p ⟨l, bad⟩ (markR l).2.1 (markR l).2.2 HR2.out (markR_le l)).mono ?_
  rintro e w3 ⟨rfl, hr, hc⟩
  have HR3 := Lib.hid hr
  have HC := Lib.hid ((Chg.of_ext (S := (· = p)) (HXA.out.trans HX2.out)).trans hc (fun _ _ e => e))
  have HBG3 := Lib.hid ((hc.block _ (block_lt HBG.out) HGP.out.1).trans HBG.out)
  have HBQ3 := Lib.hid ((hc.block _ (block_lt HBQ2.out) HGP.out.2.1).trans HBQ2.out)
  clear hr hc
  have c0 := cell_of_block HBG3.out 0
  have c1 := cell_of_block HBG3.out 1
  have c2 := cell_of_block HBG3.out 2
  go_wp2_with (first | (refine wpList_store_box rfl _ _ _ rfl _ _ _ _ rfl rfl HBQ3.out rfl mark_info (by simp [Value.oneCell']) ?_; rintro wx hbx hcx; have HBX := Lib.hid hbx; have HCX := Lib.hid hcx; clear hbx hcx))
  refine bodyPost_ret (results_box Tryz.results23 _ _ rfl HBX.out Tryz.underlying23 rfl mark_info) rfl ?_
  refine ⟨rfl, HR3.out.chg HCX.out (fun e => HGP.out.2.1 e.symm) (fun i hi => ?_), ?_⟩
  · have := HR3.out.new; have h1 := HR3.out.ext.size; have h2 := HQ.out; have h3 := HNE.out; have h4 := HR3.out.new; omega
  · exact HC.out.trans HCX.out (fun i hi e => by have := HQ.out; omega)

theorem RdAt.over {w0 w : World} {p : Nat} {r : Rd} (h : RdAt 68 w0 p r w) (b : Bool) :
    RdAt 68 w0 p ⟨r.l, b⟩ (w.setCell ⟨p, 1, none⟩ (.bool b)) := by
  obtain ⟨a, n, c, hb, hs⟩ := h.blk
  have b1 := setCell_block hb (i := 1) (.bool b)
  exact ⟨⟨a, n, c, by simpa using b1, hs⟩, h.new, rd_store h.ext h.new (setCell_chg w p 1 (.bool b)), h.et⟩

set_option maxHeartbeats 4000000 in
set_option maxRecDepth 100000 in
theorem rdFl_any (w0 w : World) (p : Nat) (r : Rd) (h : RdAt 68 w0 p r w) :
    Calls Tryz.prog 26 #[.pointer (some ⟨p, 0, none⟩)] w fun z w' => z = .returned (rdFl r).1.val ∧ RdAt 68 w0 p (rdFl r).2 w' ∧ Chg (· = p) w w' := by
  have HNE := Lib.hid h.lt
  obtain ⟨q, hq⟩ : ∃ q, q = w.heap.size := ⟨_, rfl⟩
  have HQ := Lib.hid hq
  have hxa := (Ext.refl w).alloc (.cells #[.string ⟨#[]⟩, .int .i64 0, .int .i64 0, .int .i64 0] 48 (0, 0))
  have H := Lib.hid (h.ext' hxa)
  have hbq : (w.alloc (.cells #[.string ⟨#[]⟩, .int .i64 0, .int .i64 0, .int .i64 0] 48 (0, 0))).heap[q]? = some (.cells #[.string ⟨#[]⟩, .int .i64 0, .int .i64 0, .int .i64 0] 48 (0, 0)) := by rw [hq]; exact heap_alloc_new w _
  have HBQ := Lib.hid hbq
  have HC := Lib.hid (Chg.of_ext (S := (· = p)) hxa)
  have HQP : Hid (q ≠ p) := Lib.hid (by have := HNE.out; omega)
  clear h hbq hxa
  go_enter Tryz.func26, Tryz.ntmps26
  go_upto_region 1 with fail
  rw [← hq]
  clear hq
  generalize w.alloc _ = wa at *
  go_wp2_with fail
  refine (rdText_any w0 wa p r H.out).mono ?_
  rintro e w1 ⟨rfl, hr, hc⟩
  have H1 := Lib.hid hr
  have HC1 := Lib.hid (HC.out.trans hc (fun _ _ e => e))
  have HB1 := Lib.hid ((hc.block _ (block_lt HBQ.out) HQP.out).trans HBQ.out)
  clear hr hc HC HBQ H
  go_wp2_with fail
  refine (rdInt_any w0 w1 p _ H1.out).mono ?_
  rintro e w2 ⟨rfl, hr, hc⟩
  have H2 := Lib.hid hr
  have HC2 := Lib.hid (HC1.out.trans hc (fun _ _ e => e))
  have HB2 := Lib.hid ((hc.block _ (block_lt HB1.out) HQP.out).trans HB1.out)
  clear hr hc HC1 HB1 H1
  go_wp2_with fail
  refine (rdInt_any w0 w2 p _ H2.out).mono ?_
  rintro e w3 ⟨rfl, hr, hc⟩
  have H3 := Lib.hid hr
  have HC3 := Lib.hid (HC2.out.trans hc (fun _ _ e => e))
  have HB3 := Lib.hid ((hc.block _ (block_lt HB2.out) HQP.out).trans HB2.out)
  clear hr hc HC2 HB2 H2
  go_wp2_with fail
  refine (rdNum_any w0 w3 p _ H3.out).mono ?_
  rintro e w4 ⟨rfl, hr, hc⟩
  have H4 := Lib.hid hr
  have HC4 := Lib.hid (HC3.out.trans hc (fun _ _ e => e))
  have HB4 := Lib.hid ((hc.block _ (block_lt HB3.out) HQP.out).trans HB3.out)
  clear hr hc HC3 HB3 H3
  go_wp2_with (first | (refine wpList_store_box rfl _ _ _ rfl _ _ _ _ rfl rfl HB4.out rfl file_info (by simp [Value.oneCell']) ?_; rintro wx hbx hcx; have HBX := Lib.hid hbx; have HCX := Lib.hid hcx; clear hbx hcx))
  refine bodyPost_ret (results_box Tryz.results26 _ _ rfl HBX.out Tryz.underlying48 rfl file_info) rfl ?_
  refine ⟨rfl, H4.out.chg HCX.out (fun e => HQP.out e.symm) (fun i hi => ?_), ?_⟩
  · have := H4.out.new; have h2 := HQ.out; have h3 := HNE.out; omega
  · exact HC4.out.trans HCX.out (fun i hi e => by have := HQ.out; omega)
end Go.Proofs.YtdgmnhcgjbkafaaGreatDoor

/-! manifest.reader: tier. -/

namespace Go.Proofs.YtdgmnhcgjbkafaaGreatDoor
open Go.RowKit Go.Sort Go.Lib

set_option maxHeartbeats 8000000 in
set_option maxRecDepth 100000 in
theorem rdTr_any (w0 w : World) (p : Nat) (r : Rd) (h : RdAt 68 w0 p r w) :
    Calls Tryz.prog 28 #[.pointer (some ⟨p, 0, none⟩)] w fun z w' => z = .returned (rdTr r).1.val ∧ RdAt 68 w0 p (rdTr r).2 w' ∧ Chg (· = p) w w' := by
  have HNE := Lib.hid h.lt
  obtain ⟨q, hq⟩ : ∃ q, q = w.heap.size := ⟨_, rfl⟩
  have HQ := Lib.hid hq
  have hxa := (Ext.refl w).alloc (.cells #[.int .i64 0, .int .i64 0, .int .i64 0, .bool false, .string ⟨#[]⟩] 50 (0, 0))
  have H := Lib.hid (h.ext' hxa)
  have hbq : (w.alloc (.cells #[.int .i64 0, .int .i64 0, .int .i64 0, .bool false, .string ⟨#[]⟩] 50 (0, 0))).heap[q]? = some (.cells #[.int .i64 0, .int .i64 0, .int .i64 0, .bool false, .string ⟨#[]⟩] 50 (0, 0)) := by rw [hq]; exact heap_alloc_new w _
  have HBQ := Lib.hid hbq
  have HC := Lib.hid (Chg.of_ext (S := (· = p)) hxa)
  have HQP : Hid (q ≠ p) := Lib.hid (by have := HNE.out; omega)
  clear h hbq hxa
  go_enter Tryz.func28, Tryz.ntmps28
  go_upto_region 1 with fail
  rw [← hq]
  clear hq
  generalize w.alloc _ = wa at *
  go_wp2_with fail
  refine (rdNum_any w0 wa p r H.out).mono ?_
  rintro e w1 ⟨rfl, hr, hc⟩
  have H1 := Lib.hid hr
  have HC1 := Lib.hid (HC.out.trans hc (fun _ _ e => e))
  have HB1 := Lib.hid ((hc.block _ (block_lt HBQ.out) HQP.out).trans HBQ.out)
  clear hr hc HC HBQ H
  go_wp2_with fail
  refine (rdNum_any w0 w1 p _ H1.out).mono ?_
  rintro e w2 ⟨rfl, hr, hc⟩
  have H2 := Lib.hid hr
  have HC2 := Lib.hid (HC1.out.trans hc (fun _ _ e => e))
  have HB2 := Lib.hid ((hc.block _ (block_lt HB1.out) HQP.out).trans HB1.out)
  clear hr hc HC1 HB1 H1
  have HF : Hid (rdTr r = rdTrM (rdNum r).1 (rdNum (rdNum r).2).1 (rdNum (rdNum (rdNum r).2).2).1 (rdOver (rdNum (rdNum (rdNum r).2).2).1 (rdNum (rdNum (rdNum r).2).2).2)) := Lib.hid rfl
  generalize (rdNum (rdNum r).2).2 = r2 at *
  generalize (rdNum (rdNum r).2).1 = o at *
  generalize (rdNum r).1 = d at *
  go_upto_region 2 with fail
  obtain ⟨g, hg⟩ : ∃ g, g = w2.heap.size := ⟨_, rfl⟩
  rw [← hg]
  generalize hW : w2.alloc _ = wb
  have hx2 : Ext w2 wb := by rw [← hW]; exact (Ext.refl w2).alloc _
  have HTB : Hid (wb.heap[g]? = some (.cells #[.int .i64 d, .int .i64 o, .int .i64 0, .bool false, .string ⟨#[]⟩] 50 (0, 0))) := Lib.hid (by rw [← hW, hg]; exact heap_alloc_new w2 _)
  have HBB := Lib.hid (hx2.keep HB2.out)
  have HRB := Lib.hid (H2.out.ext' hx2)
  have HGP : Hid (q ≠ p ∧ g ≠ p ∧ q ≠ g ∧ w.heap.size ≤ g) := Lib.hid (by have := H2.out.lt; have := block_lt HB2.out; have := HQ.out; have := HNE.out; omega)
  have HCB := Lib.hid (HC2.out.trans (Chg.of_ext hx2) (fun _ _ e => e))
  clear hW hx2 hg HC2 HB2 H2
  go_wp2_with fail
  refine (rdNum_any w0 wb p _ HRB.out).mono ?_
  rintro e w3 ⟨rfl, hr, hc⟩
  have HC3 := Lib.hid (HCB.out.trans hc (fun _ _ e => e))
  have HB3 := Lib.hid ((hc.block _ (block_lt HBB.out) HGP.out.1).trans HBB.out)
  have HT3 := Lib.hid ((hc.block _ (block_lt HTB.out) HGP.out.2.1).trans HTB.out)
  generalize (rdNum r2).2 = r3 at *
  generalize (rdNum r2).1 = m at *
  obtain ⟨l3, b3'⟩ := r3
  have H3 := Lib.hid hr
  obtain ⟨a, n, c, hb, -⟩ := hr.blk
  have c1 := cell_of_block hb 1
  have z1 := free_of_block hb 1
  clear hr hc hb HCB HBB HTB HRB
  by_cases h1 : m = 1
  · subst h1
    have hmd : decide ((1 : Int) < 1) = false := by decide
    have HF2 : Hid (rdTr r = (⟨d, o, (rdInt (rdOver 1 ⟨l3, b3'⟩)).1, true, (rdText (rdInt (rdOver 1 ⟨l3, b3'⟩)).2).1⟩, (rdText (rdInt (rdOver 1 ⟨l3, b3'⟩)).2).2)) := Lib.hid (by rw [HF.out]; simp [rdTrM])
    clear HF
    cases b3'
    all_goals as_aux_lemma =>
      go_upto_region 4 with fail
      generalize hw5 : World.setCell _ _ _ = w5
      have hcm : Chg (· = p) w3 w5 := by rw [← hw5]; exact setCell_chg _ _ _ _
      have H5 : Hid (RdAt 68 w0 p (rdOver 1 ⟨l3, _⟩) w5) := Lib.hid (by
        rw [← hw5]
        exact H3.out.over _)
      have HC5 := Lib.hid (HC3.out.trans hcm (fun _ _ e => e))
      have HB5 := Lib.hid ((hcm.block _ (block_lt HB3.out) HGP.out.1).trans HB3.out)
      have HT5 := (hcm.block _ (block_lt HT3.out) HGP.out.2.1).trans HT3.out
      have z3 := free_of_block HT5 3
      have c3 := cell_of_block HT5 3
      have HT5 := Lib.hid HT5
      clear hw5 hcm c1 z1
      go_upto_region 5 with fail
      generalize hw6 : World.setCell _ _ _ = w6
      have hcm : Chg (· = g) w5 w6 := by rw [← hw6]; exact setCell_chg _ _ _ _
      have H6 := Lib.hid (H5.out.chg hcm (fun e => HGP.out.2.1 e.symm) (fun i hi => by have := H5.out.new; have := HGP.out.2.2.2; have := HNE.out; omega))
      have HC6 := Lib.hid (HC5.out.trans hcm (fun i hi e => by have := HGP.out.2.2.2; omega))
      have HB6 := Lib.hid ((hcm.block _ (block_lt HB5.out) HGP.out.2.2.1).trans HB5.out)
      have HT6 : w6.heap[g]? = some (.cells #[.int .i64 d, .int .i64 o, .int .i64 0, .bool true, .string ⟨#[]⟩] 50 (0, 0)) := by
        have := setCell_block HT5.out (i := 3) (.bool true)
        rw [← hw6]; simpa using this
      clear hw6 hcm z3 c3 HC5 HB5 HT5 H5
      have c3 := cell_of_block HT6 3
      have HT6 := Lib.hid HT6
      go_wp2_with fail
      refine (rdInt_any w0 w6 p _ H6.out).mono ?_
      rintro e w7 ⟨rfl, hr, hc⟩
      have H7 := Lib.hid hr
      have HC7 := Lib.hid (HC6.out.trans hc (fun _ _ e => e))
      have HB7 := Lib.hid ((hc.block _ (block_lt HB6.out) HGP.out.1).trans HB6.out)
      have HT7 := Lib.hid ((hc.block _ (block_lt HT6.out) HGP.out.2.1).trans HT6.out)
      clear hr hc H6 HC6 HB6 HT6 c3
      go_wp2_with fail
      refine (rdText_any w0 w7 p _ H7.out).mono ?_
      rintro e w8 ⟨rfl, hr, hc⟩
      have H8 := Lib.hid hr
      have HC8 := Lib.hid (HC7.out.trans hc (fun _ _ e => e))
      have HB8 := Lib.hid ((hc.block _ (block_lt HB7.out) HGP.out.1).trans HB7.out)
      have HT8 := (hc.block _ (block_lt HT7.out) HGP.out.2.1).trans HT7.out
      have z2 := free_of_block HT8 2
      have z4 := free_of_block HT8 4
      have c2 := cell_of_block HT8 2
      have c4 := cell_of_block HT8 4
      have HT8 := Lib.hid HT8
      generalize (rdInt (rdOver 1 _)).1 = vi at *
      generalize (rdText (rdInt (rdOver 1 _)).2).1 = vt at *
      clear hr hc H7 HC7 HB7 HT7
      go_upto_region 7 with fail
      generalize hw9 : World.setCell _ _ _ = w9
      have hcm : Chg (· = g) w8 w9 := by rw [← hw9]; exact (setCell_chg _ _ _ _).trans (setCell_chg _ _ _ _) (fun _ _ e => e)
      have H9 := Lib.hid (H8.out.chg hcm (fun e => HGP.out.2.1 e.symm) (fun i hi => by have := H8.out.new; have := HGP.out.2.2.2; have := HNE.out; omega))
      have HC9 := Lib.hid (HC8.out.trans hcm (fun i hi e => by have := HGP.out.2.2.2; omega))
      have HB9 := Lib.hid ((hcm.block _ (block_lt HB8.out) HGP.out.2.2.1).trans HB8.out)
      have HT9 : w9.heap[g]? = some (.cells #[.int .i64 d, .int .i64 o, .int .i64 vi, .bool true, .string vt] 50 (0, 0)) := by
        have h1 := setCell_block HT8.out (i := 2) (.int .i64 vi)
        have h2 := setCell_block h1 (i := 4) (.string vt)
        rw [← hw9]; simpa using h2
      clear hw9 hcm z2 z4 c2 c4 HC8 HB8 HT8 H8
      have c0 := cell_of_block HT9 0
      have c1 := cell_of_block HT9 1
      have c2 := cell_of_block HT9 2
      have c3 := cell_of_block HT9 3
      have c4 := cell_of_block HT9 4
      clear HT9
      go_wp2_with (first | (refine wpList_store_box rfl _ _ _ rfl _ _ _ _ rfl rfl HB9.out rfl tier_info (by simp [Value.oneCell']) ?_; rintro wx hbx hcx; have HBX := Lib.hid hbx; have HCX := Lib.hid hcx; clear hbx hcx))
      refine bodyPost_ret (results_box Tryz.results28 _ _ rfl HBX.out Tryz.underlying50 rfl tier_info) rfl ?_
      rw [HF2.out]
      refine ⟨rfl, H9.out.chg HCX.out (fun e => HGP.out.1 e.symm) (fun i hi => ?_), ?_⟩
      · have := H9.out.new; have h2 := HQ.out; have h3 := HNE.out; omega
      · exact HC9.out.trans HCX.out (fun i hi e => by have := HQ.out; omega)
  · have HF2 : Hid (rdTr r = (⟨d, o, 0, false, ⟨#[]⟩⟩, rdOver m ⟨l3, b3'⟩)) := Lib.hid (by rw [HF.out]; simp [rdTrM, h1])
    have hme : (m == 1) = false := by simp [h1]
    clear HF h1
    cases b3'
    all_goals as_aux_lemma =>
      go_upto_region 4 with fail
      generalize hw5 : World.setCell _ _ _ = w5
      have hcm : Chg (· = p) w3 w5 := by rw [← hw5]; exact setCell_chg _ _ _ _
      have H5 : Hid (RdAt 68 w0 p (rdOver m ⟨l3, _⟩) w5) := Lib.hid (by
        rw [← hw5]
        exact H3.out.over _)
      have HC5 := Lib.hid (HC3.out.trans hcm (fun _ _ e => e))
      have HB5 := Lib.hid ((hcm.block _ (block_lt HB3.out) HGP.out.1).trans HB3.out)
      have HT5 := (hcm.block _ (block_lt HT3.out) HGP.out.2.1).trans HT3.out
      have z3 := free_of_block HT5 3
      have c3 := cell_of_block HT5 3
      have HT5 := Lib.hid HT5
      clear hw5 hcm c1 z1
      go_upto_region 5 with fail
      generalize hw6 : World.setCell _ _ _ = w6
      have hcm : Chg (· = g) w5 w6 := by rw [← hw6]; exact setCell_chg _ _ _ _
      have H6 := Lib.hid (H5.out.chg hcm (fun e => HGP.out.2.1 e.symm) (fun i hi => by have := H5.out.new; have := HGP.out.2.2.2; have := HNE.out; omega))
      have HC6 := Lib.hid (HC5.out.trans hcm (fun i hi e => by have := HGP.out.2.2.2; omega))
      have HB6 := Lib.hid ((hcm.block _ (block_lt HB5.out) HGP.out.2.2.1).trans HB5.out)
      have HT6 : w6.heap[g]? = some (.cells #[.int .i64 d, .int .i64 o, .int .i64 0, .bool false, .string ⟨#[]⟩] 50 (0, 0)) := by
        have := setCell_block HT5.out (i := 3) (.bool false)
        rw [← hw6]; simpa [hme] using this
      clear hw6 hcm z3 c3 HC5 HB5 HT5 H5
      have c0 := cell_of_block HT6 0
      have c1 := cell_of_block HT6 1
      have c2 := cell_of_block HT6 2
      have c3 := cell_of_block HT6 3
      have c4 := cell_of_block HT6 4
      clear HT6
      go_wp2_with (first | (refine wpList_store_box rfl _ _ _ rfl _ _ _ _ rfl rfl HB6.out rfl tier_info (by simp [Value.oneCell']) ?_; rintro wx hbx hcx; have HBX := Lib.hid hbx; have HCX := Lib.hid hcx; clear hbx hcx))
      refine bodyPost_ret (results_box Tryz.results28 _ _ rfl HBX.out Tryz.underlying50 rfl tier_info) rfl ?_
      rw [HF2.out]
      refine ⟨rfl, H6.out.chg HCX.out (fun e => HGP.out.1 e.symm) (fun i hi => ?_), ?_⟩
      · have := H6.out.new; have h2 := HQ.out; have h3 := HNE.out; omega
      · exact HC6.out.trans HCX.out (fun i hi e => by have := HQ.out; omega)
end Go.Proofs.YtdgmnhcgjbkafaaGreatDoor

/-! manifest.Read: many things of a kind (Read$1). -/

namespace Go.Proofs.YtdgmnhcgjbkafaaGreatDoor
open Go.RowKit Go.Sort Go.Lib

section
variable {α : Type}
/-- A step is done till it is bad, at most so often. -/
def loopR (stp : α → Rd → α × Rd) : Nat → α × Rd → α × Rd
  | 0, s => s
  | k + 1, s => if (loopR stp k s).2.bad = true then loopR stp k s else stp (loopR stp k s).1 (loopR stp k s).2
theorem loopR_stay {stp : α → Rd → α × Rd} {s : α × Rd} {k m : Nat} (h : (loopR stp k s).2.bad = true) (hm : k ≤ m) : loopR stp m s = loopR stp k s := by
  induction m with
  | zero => obtain rfl : k = 0 := by omega
            rfl
  | succ m ih =>
    by_cases hk : k = m + 1
    · rw [hk]
    · have := ih (by omega)
      show (if (loopR stp m s).2.bad = true then loopR stp m s else _) = _
      rw [this, if_pos h]
def manyR (stp : α → Rd → α × Rd) (most : Nat) (s : α × Rd) : α × Rd :=
  loopR stp (rdNum s.2).1.toNat (s.1, ⟨(rdNum s.2).2.l, (rdNum s.2).2.bad || decide ((most : Int) < (rdNum s.2).1)⟩)
end
theorem rdNum_lo (r : Rd) : 0 ≤ (rdNum r).1 ∧ (rdNum r).1 ≤ 1152921504606846976 := by
  unfold rdNum
  simp only
  split
  · omega
  · rename_i h
    simp at h
    omega

set_option maxHeartbeats 8000000 in
set_option maxRecDepth 100000 in
/-- The walk of Read$1, whatever is done. -/
theorem many_any {α : Type} (stp : α → Rd → α × Rd) (most K : Nat) (caps : Array Value) (hcf : ∀ W, (callFunc K caps).run Tryz.prog W = .ok (.enter K caps) W) (w0 : World) (p rp : Nat) (hm : most < 1000) (A : Nat → α × Rd → World → Prop)
    (hA : ∀ k s w, A k s w → RdAt 68 w0 p s.2 w ∧ w.cell? ⟨rp, 0, none⟩ = some (.pointer (some ⟨p, 0, none⟩)))
    (hN : ∀ k s r' w w', A k s w → RdAt 68 w0 p r' w' → Chg (· = p) w w' → A k (s.1, r') w')
    (hS : ∀ k s w, k ≤ most → A k s w → Calls Tryz.prog K caps w fun e w' => e = .returned (.tuple #[]) ∧ A (k + 1) (stp s.1 s.2) w')
    (s : α × Rd) (w : World) (h : A 0 s w) :
    Calls Tryz.prog 24 #[.int .i64 (most : Int), .func (.func K) #[] caps, .pointer (some ⟨rp, 0, none⟩)] w fun e w' => e = .returned (.tuple #[]) ∧ ∃ k, k ≤ most ∧ A k (manyR stp most s) w' := by
  have H := Lib.hid h
  have HA := Lib.hid hA
  have HN := Lib.hid hN
  have HS := Lib.hid hS
  have c0 := (hA _ _ _ h).2
  clear h hA hN hS
  go_enter Tryz.func24, Tryz.ntmps24
  go_wp2_with fail
  refine (rdNum_any w0 w p s.2 (HA.out _ _ _ H.out).1).mono ?_
  rintro e w1 ⟨rfl, hr, hc⟩
  have H1 := Lib.hid (HN.out _ _ _ _ _ H.out hr hc)
  have HF : Hid (manyR stp most s = loopR stp (rdNum s.2).1.toNat (s.1, ⟨(rdNum s.2).2.l, (rdNum s.2).2.bad || decide ((most : Int) < (rdNum s.2).1)⟩)) := Lib.hid rfl
  have HLO := Lib.hid (rdNum_lo s.2)
  obtain ⟨⟨N, r1⟩, hN⟩ : ∃ x, x = rdNum s.2 := ⟨_, rfl⟩
  rw [← hN] at HF H1 HLO hr ⊢
  simp only at HF H1 HLO hr
  clear hN hc c0 H
  obtain ⟨N, rfl⟩ : ∃ n : Nat, N = (n : Int) := ⟨N.toNat, by have := HLO.out; omega⟩
  have HN60 : Hid (N ≤ 1152921504606846976) := Lib.hid (by have := HLO.out; omega)
  rw [Int.toNat_natCast] at HF
  obtain ⟨B, hB⟩ : ∃ B, B = (r1.bad || decide ((most : Int) < (N : Int))) := ⟨_, rfl⟩
  have HBM : Hid (B = false → N ≤ most) := Lib.hid (fun h => by rw [hB] at h; simp at h; omega)
  -- the number is too great, or not
  have HMID : Hid (∀ w2, w2 = (w1.setCell ⟨p, 1, none⟩ (.bool B)).drew → A 0 (s.1, ⟨r1.l, B⟩) w2) := Lib.hid (by
    rintro w2 rfl
    have hx := Ext.drewN (w1.setCell ⟨p, 1, none⟩ (.bool B)) 1
    exact HN.out 0 (s.1, r1) ⟨r1.l, B⟩ w1 _ H1.out ((RdAt.over hr B).ext' hx) ((setCell_chg w1 p 1 (.bool B)).trans (Chg.of_ext (S := (· = p)) hx) (fun _ _ e => e)))
  obtain ⟨l1, b1⟩ := r1
  rw [← hB] at HF
  obtain ⟨a, n, c, hb, -⟩ := hr.blk
  have q0 := cell_turned (T := fun _ => false) (HA.out _ _ _ H1.out).2 rfl
  have q1 := cell_turned (T := fun _ => false) (cell_of_block hb 1) rfl
  have z1 := free_of_block hb 1
  have d1 := cell_of_block hb 1
  clear hb hr HLO
  have HSTAY : Hid (B = true → ∀ k, loopR stp k (s.1, ⟨l1, B⟩) = (s.1, ⟨l1, B⟩)) := Lib.hid (fun h k => loopR_stay (k := 0) (m := k) (s := (s.1, ⟨l1, B⟩)) h (Nat.zero_le _))
  clear H1
  cases b1
  · have HBV : Hid (B = decide (most < N)) := Lib.hid (by rw [hB]; simp)
    clear hB
    go_wp2_with fail
    refine wp_region_plan 12 (fun w' => ∃ p : Turned, w' = turned w1 (fun _ => false) p.d p.f p.os) (.reads [0, 1, 2, 3, 4, 5, 6, 7, 8, 9, 10, 11] (.one 12 .done)) (by kernel_rfl) (by kernel_rfl) (fun _ _ dd _ _ hh => by cases dd <;> exact hh) ?_ ?_
    · exact turned_of_ext (Ext.drewN w1 1)
    refine wpPlan_reads ?_
    simp only [pickOps, List.getElem?_cons_succ, List.getElem?_cons_zero]
    repeat (go_big_quiet_step (fail))
    refine wpQuiet_nil ?_
    refine wpPlan_one ?_
    simp only [pickOps, List.getElem?_cons_succ, List.getElem?_cons_zero]
    clear q0 q1
    go_wp2_with fail
    refine thenX_last (wpPlan_done ?_)
    go_wp2_with fail
    generalize hw2 : World.drew _ = w2
    have HI := Lib.hid (HMID.out w2 (by rw [← hw2, HBV.out]))
    clear hw2 d1 z1 HMID HBV
    go_loopw [6] (fun i wr => ∃ k : Nat, k ≤ N ∧ k ≤ most ∧ i = .int .i64 k ∧ Hid (A k (loopR stp k (s.1, ⟨l1, B⟩)) wr)) (fun i _ => N - (RowKit.intOf i).toNat)
    case atStart => exact ⟨0, by omega, by omega, rfl, HI⟩
    case round =>
      obtain ⟨k, hk, hkm, rfl, HI2⟩ := hrel
      obtain ⟨hrd, r0⟩ := HA.out _ _ _ HI2.out
      obtain ⟨⟨x, ⟨lk, bk⟩⟩, hst⟩ : ∃ t, t = loopR stp k (s.1, ⟨l1, B⟩) := ⟨_, rfl⟩
      rw [← hst] at hrd HI2
      obtain ⟨a2, n2, c2, hb2, -⟩ := hrd.blk
      have r1 := cell_of_block hb2 1
      have HST := Lib.hid hst
      clear hst hb2 hrd
      by_cases hlt : k < N
      · cases bk
        · have hNm : N ≤ most := HBM.out (by
            cases hB : B with
            | false => rfl
            | true =>
              have h1 := HSTAY.out hB k
              rw [← HST.out] at h1
              rw [hB] at h1
              simp at h1)
          have hlti : (k : Int) < (N : Int) := by omega
          have HCC := Lib.hid (HS.out k _ _ hkm HI2.out)
          go_wp2_with fail
          refine HCC.out.mono ?_
          rintro e w5 ⟨rfl, hI⟩
          have HI3 : Hid (A (k + 1) (loopR stp (k + 1) (s.1, ⟨l1, B⟩)) w5) := Lib.hid (by
            show A (k + 1) (if (loopR stp k (s.1, ⟨l1, B⟩)).2.bad = true then _ else _) w5
            rw [← HST.out]
            exact hI)
          clear hI HCC
          go_wp2_with fail
          go_roundw
          case rel => exact ⟨k + 1, by omega, by omega, by go_num, HI3⟩
          case measure => simp [RowKit.intOf]; omega
        · have hlti : (k : Int) < (N : Int) := by omega
          have HI3 : Hid (A k (manyR stp most s) wr) := Lib.hid (by
            rw [HF.out, loopR_stay (k := k) (m := N) (by rw [← HST.out]) hk, ← HST.out]
            exact HI2.out)
          go_wp2_with fail
          go_end0
          exact ⟨rfl, k, hkm, HI3.out⟩
      · obtain rfl : k = N := by omega
        have hlti : ¬ (k : Int) < (k : Int) := by omega
        have HI3 : Hid (A k (manyR stp most s) wr) := Lib.hid (by
          rw [HF.out, ← HST.out]
          exact HI2.out)
        go_wp2_with fail
        go_end0
        exact ⟨rfl, k, hkm, HI3.out⟩
  · have HBV : Hid (B = true) := Lib.hid (by rw [hB]; rfl)
    clear hB
    go_wp2_with fail
    refine wp_region_plan 12 (fun w' => ∃ p : Turned, w' = turned w1 (fun _ => false) p.d p.f p.os) (.reads [0, 1, 2, 3, 4, 5, 6, 7, 8, 9, 10, 11] (.one 12 .done)) (by kernel_rfl) (by kernel_rfl) (fun _ _ dd _ _ hh => by cases dd <;> exact hh) ?_ ?_
    · exact turned_of_ext (Ext.drewN w1 1)
    refine wpPlan_reads ?_
    simp only [pickOps, List.getElem?_cons_succ, List.getElem?_cons_zero]
    repeat (go_big_quiet_step (fail))
    refine wpQuiet_nil ?_
    refine wpPlan_one ?_
    simp only [pickOps, List.getElem?_cons_succ, List.getElem?_cons_zero]
    clear q0 q1
    go_wp2_with fail
    refine thenX_last (wpPlan_done ?_)
    go_wp2_with fail
    generalize hw2 : World.drew _ = w2
    have HI := Lib.hid (HMID.out w2 (by rw [← hw2, HBV.out]))
    clear hw2 d1 z1 HMID HBV
    go_loopw [6] (fun i wr => ∃ k : Nat, k ≤ N ∧ k ≤ most ∧ i = .int .i64 k ∧ Hid (A k (loopR stp k (s.1, ⟨l1, B⟩)) wr)) (fun i _ => N - (RowKit.intOf i).toNat)
    case atStart => exact ⟨0, by omega, by omega, rfl, HI⟩
    case round =>
      obtain ⟨k, hk, hkm, rfl, HI2⟩ := hrel
      obtain ⟨hrd, r0⟩ := HA.out _ _ _ HI2.out
      obtain ⟨⟨x, ⟨lk, bk⟩⟩, hst⟩ : ∃ t, t = loopR stp k (s.1, ⟨l1, B⟩) := ⟨_, rfl⟩
      rw [← hst] at hrd HI2
      obtain ⟨a2, n2, c2, hb2, -⟩ := hrd.blk
      have r1 := cell_of_block hb2 1
      have HST := Lib.hid hst
      clear hst hb2 hrd
      by_cases hlt : k < N
      · cases bk
        · have hNm : N ≤ most := HBM.out (by
            cases hB : B with
            | false => rfl
            | true =>
              have h1 := HSTAY.out hB k
              rw [← HST.out] at h1
              rw [hB] at h1
              simp at h1)
          have hlti : (k : Int) < (N : Int) := by omega
          have HCC := Lib.hid (HS.out k _ _ hkm HI2.out)
          go_wp2_with fail
          refine HCC.out.mono ?_
          rintro e w5 ⟨rfl, hI⟩
          have HI3 : Hid (A (k + 1) (loopR stp (k + 1) (s.1, ⟨l1, B⟩)) w5) := Lib.hid (by
            show A (k + 1) (if (loopR stp k (s.1, ⟨l1, B⟩)).2.bad = true then _ else _) w5
            rw [← HST.out]
            exact hI)
          clear hI HCC
          go_wp2_with fail
          go_roundw
          case rel => exact ⟨k + 1, by omega, by omega, by go_num, HI3⟩
          case measure => simp [RowKit.intOf]; omega
        · have hlti : (k : Int) < (N : Int) := by omega
          have HI3 : Hid (A k (manyR stp most s) wr) := Lib.hid (by
            rw [HF.out, loopR_stay (k := k) (m := N) (by rw [← HST.out]) hk, ← HST.out]
            exact HI2.out)
          go_wp2_with fail
          go_end0
          exact ⟨rfl, k, hkm, HI3.out⟩
      · obtain rfl : k = N := by omega
        have hlti : ¬ (k : Int) < (k : Int) := by omega
        have HI3 : Hid (A k (manyR stp most s) wr) := Lib.hid (by
          rw [HF.out, ← HST.out]
          exact HI2.out)
        go_wp2_with fail
        go_end0
        exact ⟨rfl, k, hkm, HI3.out⟩
end Go.Proofs.YtdgmnhcgjbkafaaGreatDoor

/-! manifest.Read: a file, a tier is read and put behind the others (Read$2, Read$3). -/

namespace Go.Proofs.YtdgmnhcgjbkafaaGreatDoor
open Go.RowKit Go.Sort Go.Lib

theorem elem_file : ElemOk Tryz.prog 24 48 4 40 :=
  ⟨Tryz.underlying24, by
    obtain ⟨i0, hi, hz0, hz1, hz2⟩ := info_parts (show (Tryz.prog.info? 48).map (fun i => (i.zero, i.size, i.bytes)) = some (some (.agg #[.string ByteArray.empty, .int .i64 0, .int .i64 0, .int .i64 0]), 4, 40) from by kernel_rfl)
    exact ⟨i0, _, hi, hz0, hz1, hz2, rfl⟩, by decide⟩
theorem elem_tier : ElemOk Tryz.prog 25 50 5 48 :=
  ⟨Tryz.underlying25, by
    obtain ⟨i0, hi, hz0, hz1, hz2⟩ := info_parts (show (Tryz.prog.info? 50).map (fun i => (i.zero, i.size, i.bytes)) = some (some (.agg #[.int .i64 0, .int .i64 0, .int .i64 0, .bool false, .string ByteArray.empty]), 5, 48) from by kernel_rfl)
    exact ⟨i0, _, hi, hz0, hz1, hz2, rfl⟩, by decide⟩

/-- A field of a struct in a box grows while bytes are read. -/
structure StG (ws w0 : World) (q p : Nat) (tr ts te : TypeId) (i size : Nat) (base : Array Value) (n : Nat) (xs : List Value) (r : Rd) (w : World) : Prop where
  blk : ∃ a c, w.heap[q]? = some (.cells (base.setIfInBounds i (.slice a n c)) ts (0, 0)) ∧ Row w te size (.slice a n c) n xs ∧ ∀ g, (Value.slice a n c).ownBlock = some g → ws.heap.size ≤ g
  rd : RdAt tr w0 p r w
  chg : Chg (fun k => k = p ∨ k = q) ws w
  ql : q < ws.heap.size
  pl : p < ws.heap.size
  qp : q ≠ p
  qw : w0.heap.size ≤ q
section
variable {ws w0 w w1 w2 w3 : World} {q p : Nat} {tr ts te : TypeId} {i size n : Nat} {base : Array Value} {xs : List Value} {r r' : Rd}
theorem StG.read (h : StG ws w0 q p tr ts te i size base n xs r w) (hr : RdAt tr w0 p r' w1) (hc : Chg (· = p) w w1) : StG ws w0 q p tr ts te i size base n xs r' w1 := by
  obtain ⟨a, c, hb, hrow, ho⟩ := h.blk
  exact ⟨⟨a, c, (hc.block q (block_lt hb) h.qp).trans hb, hrow.chg hc (fun g hg e => by have := ho g hg; have := h.pl; omega), ho⟩, hr, h.chg.trans hc (fun _ _ e => .inl e), h.ql, h.pl, h.qp, h.qw⟩
theorem StG.ext' (h : StG ws w0 q p tr ts te i size base n xs r w) (hx : Ext w w1) : StG ws w0 q p tr ts te i size base n xs r w1 := by
  obtain ⟨a, c, hb, hrow, ho⟩ := h.blk
  exact ⟨⟨a, c, hx.keep hb, hrow.ext hx, ho⟩, h.rd.ext' hx, h.chg.trans (Chg.of_ext (S := fun _ => False) hx) (fun _ _ e => e.elim), h.ql, h.pl, h.qp, h.qw⟩
theorem StG.add {a : Option Addr} {c m : Nat} {ys : List Value} {v' : Value} (h : StG ws w0 q p tr ts te i size base n xs r w)
    (hb : w.heap[q]? = some (.cells (base.setIfInBounds i (.slice a n c)) ts (0, 0))) (ho : ∀ g, (Value.slice a n c).ownBlock = some g → ws.heap.size ≤ g)
    (happ : Appended w te size (.slice a n c) m ys v' w1) : w1.heap[q]? = some (.cells (base.setIfInBounds i (.slice a n c)) ts (0, 0)) ∧ StG ws w0 q p tr ts te i size base m ys r (w1.setCell ⟨q, i, none⟩ v') := by
  have hq1 : w1.heap[q]? = some (.cells (base.setIfInBounds i (.slice a n c)) ts (0, 0)) := (happ.chg.block q (block_lt hb) (fun e => by have := ho q e; have := h.ql; omega)).trans hb
  obtain ⟨a', c', rfl⟩ := happ.row.shape
  have hs := setCell_chg w1 q i (.slice a' m c')
  have ho' : ∀ g, (Value.slice a' m c').ownBlock = some g → ws.heap.size ≤ g := fun g hg => by
    rcases happ.loc with e | e
    · exact ho g (by rw [← e]; exact hg)
    · rw [e] at hg; simp at hg; have := h.chg.size; omega
  have hc : Chg (fun k => k = p ∨ k = q) ws (w1.setCell ⟨q, i, none⟩ (.slice a' m c')) := (h.chg.trans happ.chg (fun k hk e => by have := ho k e; omega)).trans hs (fun _ _ e => .inr e)
  refine ⟨hq1, ⟨a', c', ?_, happ.row.chg hs (fun g hg e => by have := ho' g hg; have := h.ql; omega), ho'⟩, ?_, hc, h.ql, h.pl, h.qp, h.qw⟩
  · have := setCell_block hq1 (i := i) (.slice a' m c')
    rw [this]
    simp [Array.setIfInBounds_setIfInBounds]
  · have h1 := h.rd.chg happ.chg (fun e => by have := ho p e; have := h.pl; omega) (fun g hg => by have := ho g hg; have := h.ql; have := h.qw; omega)
    exact h1.chg hs (fun e => h.qp e.symm) (fun g hg => by have := h.qw; omega)
end
theorem src_fl {W : World} {b : Nat} {p : Fl} {t : TypeId} {fr : Nat × Nat} (h : W.heap[b]? = some (.cells #[.string p.nm, .int .i64 p.a, .int .i64 p.b, .int .i64 p.k] t fr)) : Src W 4 (.slice (some ⟨b, 0, none⟩) 1 1) 1 (fls [p]) := by
  refine .inr ⟨_, _, rfl, by simp [fls, Fl.cells], fun j u hj => ?_, fls_one _⟩
  rw [Go.WideShapes.add_plain, Nat.zero_add, cell_of_block h]
  simpa [fls, Fl.cells] using hj
theorem src_tr {W : World} {b : Nat} {p : Tr} {t : TypeId} {fr : Nat × Nat} (h : W.heap[b]? = some (.cells #[.int .i64 p.w, .int .i64 p.o, .int .i64 p.u, .bool p.m, .string p.f] t fr)) : Src W 5 (.slice (some ⟨b, 0, none⟩) 1 1) 1 (trs [p]) := by
  refine .inr ⟨_, _, rfl, by simp [trs, Tr.cells], fun j u hj => ?_, trs_one _⟩
  rw [Go.WideShapes.add_plain, Nat.zero_add, cell_of_block h]
  simpa [trs, Tr.cells] using hj

set_option maxHeartbeats 4000000 in
set_option maxRecDepth 100000 in
theorem readF_any (ws w0 w : World) (q p rp n : Nat) (b0 b1 b2 b3 b4 b5 b6 b7 : Value) (l : List Fl) (r : Rd) (hn : n ≤ 600)
    (h : StG ws w0 q p 68 27 48 6 4 #[b0, b1, b2, b3, b4, b5, b6, b7] n (fls l) r w)
    (hr : w.cell? ⟨rp, 0, none⟩ = some (.pointer (some ⟨p, 0, none⟩))) :
    Calls Tryz.prog 25 #[.pointer (some ⟨q, 0, none⟩), .pointer (some ⟨rp, 0, none⟩)] w fun e w' => e = .returned (.tuple #[]) ∧
      StG ws w0 q p 68 27 48 6 4 #[b0, b1, b2, b3, b4, b5, b6, b7] (n + 1) (fls (l ++ [(rdFl r).1])) (rdFl r).2 w' := by
  obtain ⟨a, c, hb, -, ho⟩ := h.blk
  have H := Lib.hid h
  have HO := Lib.hid ho
  have HBQ := Lib.hid hb
  have hT : (fun k => k == p) q = false := by have := h.qp; simpa using this
  have hRP : (fun k => k == p) rp = false := by
    obtain ⟨_, _, _, hbp, _⟩ := h.rd.blk
    have h0 := cell_of_block hbp 0
    simp only [beq_eq_false_iff_ne, ne_eq]
    rintro rfl
    rw [hr] at h0
    simp at h0
  have f0 := cell_turned (T := fun k => k == p) (a := ⟨q, 6, none⟩) (v := .slice a n c) (by rw [cell_of_block hb 6]; rfl) hT
  have f1 := cell_turned (T := fun k => k == p) (a := ⟨rp, 0, none⟩) hr hRP
  clear h hb hr ho hT hRP
  go_enter Tryz.func25, Tryz.ntmps25
  go_wp2_with fail
  refine wp_region_plan 5 (fun w' => ∃ z : Turned, w' = turned w (fun k => k == p) z.d z.f z.os) (.reads [0, 1, 2] (.one 3 (.one 4 (.one 5 (.one 6 (.one 7 .done)))))) (by kernel_rfl) (by kernel_rfl) (fun _ _ dd _ _ hh => by cases dd <;> exact hh) ?_ ?_
  · exact turned_of_ext (Ext.drewN w 1)
  refine wpPlan_reads ?_
  simp only [pickOps, List.getElem?_cons_succ, List.getElem?_cons_zero]
  repeat (go_big_quiet_step (fail))
  refine wpQuiet_nil ?_
  clear f0 f1
  refine wpPlan_one ?_
  simp only [pickOps, List.getElem?_cons_succ, List.getElem?_cons_zero]
  go_wp2_with fail
  refine (rdFl_any w0 _ p r (H.out.rd.ext' (Ext.drewN w 1))).mono ?_
  rintro e w1 ⟨rfl, hr, hc⟩
  have hc' := (Chg.of_ext (S := (· = p)) (Ext.drewN w 1)).trans hc (fun _ _ e => e)
  have H1 := Lib.hid (H.out.read hr hc')
  have HC := Lib.hid hc'
  have HBQ1 := Lib.hid ((hc'.block q (block_lt HBQ.out) H.out.qp).trans HBQ.out)
  have HTU : Hid (∀ w', Ext w1 w' → ∃ z : Turned, w' = turned w (fun k => k == p) z.d z.f z.os) := Lib.hid (fun w' hx => turned_of_chg ((HC.out.trans (Chg.of_ext (S := (· = p)) hx) (fun _ _ e => e)).mono (fun _ _ e => by simpa using e)))
  clear hr hc hc' H HBQ
  generalize hy : (rdFl r).1 = y at *
  generalize hr1 : (rdFl r).2 = r1 at *
  have HY := Lib.hid hy
  have HR1 := Lib.hid hr1
  clear hy hr1
  go_wp2_with fail
  refine thenX_mk (HTU.out w1 (Ext.refl _)) (wpPlan_one ?_)
  simp only [pickOps, List.getElem?_cons_succ, List.getElem?_cons_zero]
  go_wp2_with fail
  generalize hw2 : w1.alloc _ = w2
  have hx2 : Ext w1 w2 := by rw [← hw2]; exact (Ext.refl w1).alloc _
  have hsrc : Src w2 4 (.slice (some ⟨w1.heap.size, 0, none⟩) 1 1) 1 (fls [y]) := src_fl (p := y) (by rw [← hw2]; exact heap_alloc_new w1 _)
  have HSRC := Lib.hid hsrc
  have HBQ2 := Lib.hid (hx2.keep HBQ1.out)
  have H2 := Lib.hid (H1.out.ext' hx2)
  have hrow : Row w2 48 4 (.slice a n c) n (fls l) := by
    obtain ⟨a2, c2, hb2, hrow, -⟩ := H2.out.blk
    have := hb2.symm.trans HBQ2.out
    simp at this
    obtain ⟨rfl, rfl⟩ := this
    exact hrow
  have HROW := Lib.hid hrow
  have HTU2 := Lib.hid (HTU.out w2 hx2)
  clear hw2 hx2 hsrc hrow HTU H1 HBQ1
  refine thenX_mk HTU2.out (wpPlan_one ?_)
  simp only [pickOps, List.getElem?_cons_succ, List.getElem?_cons_zero]
  refine wpList_append_to (n := n) (m := 1) elem_file rfl _ _ rfl (v := .slice a n c) rfl rfl HROW.out HSRC.out (by unfold maxLen; omega) (by omega) ?_
  intro v3 w3 happ
  rw [← fls_append] at happ
  obtain ⟨hq3, hfin⟩ := H2.out.add HBQ2.out HO.out happ
  have HFIN := Lib.hid hfin
  have d0 : w3.cell? ⟨q, 6, none⟩ = some (.slice a n c) := by rw [cell_of_block hq3 6]; rfl
  have z0 := free_of_block hq3 6
  obtain ⟨a3, c3, rfl⟩ := happ.row.shape
  clear happ hq3 hfin
  go_wp2_with fail
  refine thenX_last (wpPlan_one ?_)
  simp only [pickOps, List.getElem?_cons_succ, List.getElem?_cons_zero]
  go_wp2_with fail
  refine thenX_last (wpPlan_one ?_)
  simp only [pickOps, List.getElem?_cons_succ, List.getElem?_cons_zero]
  go_wp2_with fail
  refine thenX_last (wpPlan_done ?_)
  go_wp2_with fail
  go_end0
  rw [HY.out, HR1.out]
  exact ⟨rfl, HFIN.out⟩

set_option maxHeartbeats 4000000 in
set_option maxRecDepth 100000 in
theorem readT_any (ws w0 w : World) (q p rp n : Nat) (b0 b1 b2 b3 b4 b5 b6 b7 : Value) (l : List Tr) (r : Rd) (hn : n ≤ 600)
    (h : StG ws w0 q p 68 27 50 7 5 #[b0, b1, b2, b3, b4, b5, b6, b7] n (trs l) r w)
    (hr : w.cell? ⟨rp, 0, none⟩ = some (.pointer (some ⟨p, 0, none⟩))) :
    Calls Tryz.prog 27 #[.pointer (some ⟨q, 0, none⟩), .pointer (some ⟨rp, 0, none⟩)] w fun e w' => e = .returned (.tuple #[]) ∧
      StG ws w0 q p 68 27 50 7 5 #[b0, b1, b2, b3, b4, b5, b6, b7] (n + 1) (trs (l ++ [(rdTr r).1])) (rdTr r).2 w' := by
  obtain ⟨a, c, hb, -, ho⟩ := h.blk
  have H := Lib.hid h
  have HO := Lib.hid ho
  have HBQ := Lib.hid hb
  have hT : (fun k => k == p) q = false := by have := h.qp; simpa using this
  have hRP : (fun k => k == p) rp = false := by
    obtain ⟨_, _, _, hbp, _⟩ := h.rd.blk
    have h0 := cell_of_block hbp 0
    simp only [beq_eq_false_iff_ne, ne_eq]
    rintro rfl
    rw [hr] at h0
    simp at h0
  have f0 := cell_turned (T := fun k => k == p) (a := ⟨q, 7, none⟩) (v := .slice a n c) (by rw [cell_of_block hb 7]; rfl) hT
  have f1 := cell_turned (T := fun k => k == p) (a := ⟨rp, 0, none⟩) hr hRP
  clear h hb hr ho hT hRP
  go_enter Tryz.func27, Tryz.ntmps27
  go_wp2_with fail
  refine wp_region_plan 5 (fun w' => ∃ z : Turned, w' = turned w (fun k => k == p) z.d z.f z.os) (.reads [0, 1, 2] (.one 3 (.one 4 (.one 5 (.one 6 (.one 7 .done)))))) (by kernel_rfl) (by kernel_rfl) (fun _ _ dd _ _ hh => by cases dd <;> exact hh) ?_ ?_
  · exact turned_of_ext (Ext.drewN w 1)
  refine wpPlan_reads ?_
  simp only [pickOps, List.getElem?_cons_succ, List.getElem?_cons_zero]
  repeat (go_big_quiet_step (fail))
  refine wpQuiet_nil ?_
  clear f0 f1
  refine wpPlan_one ?_
  simp only [pickOps, List.getElem?_cons_succ, List.getElem?_cons_zero]
  go_wp2_with fail
  refine (rdTr_any w0 _ p r (H.out.rd.ext' (Ext.drewN w 1))).mono ?_
  rintro e w1 ⟨rfl, hr, hc⟩
  have hc' := (Chg.of_ext (S := (· = p)) (Ext.drewN w 1)).trans hc (fun _ _ e => e)
  have H1 := Lib.hid (H.out.read hr hc')
  have HC := Lib.hid hc'
  have HBQ1 := Lib.hid ((hc'.block q (block_lt HBQ.out) H.out.qp).trans HBQ.out)
  have HTU : Hid (∀ w', Ext w1 w' → ∃ z : Turned, w' = turned w (fun k => k == p) z.d z.f z.os) := Lib.hid (fun w' hx => turned_of_chg ((HC.out.trans (Chg.of_ext (S := (· = p)) hx) (fun _ _ e => e)).mono (fun _ _ e => by simpa using e)))
  clear hr hc hc' H HBQ
  generalize hy : (rdTr r).1 = y at *
  generalize hr1 : (rdTr r).2 = r1 at *
  have HY := Lib.hid hy
  have HR1 := Lib.hid hr1
  clear hy hr1
  go_wp2_with fail
  refine thenX_mk (HTU.out w1 (Ext.refl _)) (wpPlan_one ?_)
  simp only [pickOps, List.getElem?_cons_succ, List.getElem?_cons_zero]
  go_wp2_with fail
  generalize hw2 : w1.alloc _ = w2
  have hx2 : Ext w1 w2 := by rw [← hw2]; exact (Ext.refl w1).alloc _
  have hsrc : Src w2 5 (.slice (some ⟨w1.heap.size, 0, none⟩) 1 1) 1 (trs [y]) := src_tr (p := y) (by rw [← hw2]; exact heap_alloc_new w1 _)
  have HSRC := Lib.hid hsrc
  have HBQ2 := Lib.hid (hx2.keep HBQ1.out)
  have H2 := Lib.hid (H1.out.ext' hx2)
  have hrow : Row w2 50 5 (.slice a n c) n (trs l) := by
    obtain ⟨a2, c2, hb2, hrow, -⟩ := H2.out.blk
    have := hb2.symm.trans HBQ2.out
    simp at this
    obtain ⟨rfl, rfl⟩ := this
    exact hrow
  have HROW := Lib.hid hrow
  have HTU2 := Lib.hid (HTU.out w2 hx2)
  clear hw2 hx2 hsrc hrow HTU H1 HBQ1
  refine thenX_mk HTU2.out (wpPlan_one ?_)
  simp only [pickOps, List.getElem?_cons_succ, List.getElem?_cons_zero]
  refine wpList_append_to (n := n) (m := 1) elem_tier rfl _ _ rfl (v := .slice a n c) rfl rfl HROW.out HSRC.out (by unfold maxLen; omega) (by omega) ?_
  intro v3 w3 happ
  rw [← trs_append] at happ
  obtain ⟨hq3, hfin⟩ := H2.out.add HBQ2.out HO.out happ
  have HFIN := Lib.hid hfin
  have d0 : w3.cell? ⟨q, 7, none⟩ = some (.slice a n c) := by rw [cell_of_block hq3 7]; rfl
  have z0 := free_of_block hq3 7
  obtain ⟨a3, c3, rfl⟩ := happ.row.shape
  clear happ hq3 hfin
  go_wp2_with fail
  refine thenX_last (wpPlan_one ?_)
  simp only [pickOps, List.getElem?_cons_succ, List.getElem?_cons_zero]
  go_wp2_with fail
  refine thenX_last (wpPlan_one ?_)
  simp only [pickOps, List.getElem?_cons_succ, List.getElem?_cons_zero]
  go_wp2_with fail
  refine thenX_last (wpPlan_done ?_)
  go_wp2_with fail
  go_end0
  rw [HY.out, HR1.out]
  exact ⟨rfl, HFIN.out⟩
end Go.Proofs.YtdgmnhcgjbkafaaGreatDoor
