/- tidemillref18.reader: num, int, text. -/
import Derived.Test.YtdgmnhcgjbkafaaGreatDoorMrf
import Derived.Test.YtdgmnhcgjbkafaaGreatDoorR04
namespace Go.Proofs.YtdgmnhcgjbkafaaGreatDoor
open Go.RowKit Go.Sort Go.Lib

theorem RdAt.two {t : TypeId} {w0 w : World} {p : Nat} {l : List UInt8} {bad : Bool} (h : RdAt t w0 p ⟨l, bad⟩ w) {a : Option Addr} {n c k : Nat} (hb : w.heap[p]? = some (.cells #[.slice a n c, .bool bad] t (0, 0))) (hs : SlB w0 a n c l) (hk : k ≤ n) (b' : Bool) :
    RdAt t w0 p ⟨l.drop k, b'⟩ ((w.setCell ⟨p, 1, none⟩ (.bool b')).setCell ⟨p, 0, none⟩ (.slice (cutA a c k) (n - k) (c - k))) ∧ Chg (· = p) w ((w.setCell ⟨p, 1, none⟩ (.bool b')).setCell ⟨p, 0, none⟩ (.slice (cutA a c k) (n - k) (c - k))) := by
  have b1 := setCell_block hb (i := 1) (.bool b')
  have b2 := setCell_block b1 (i := 0) (.slice (cutA a c k) (n - k) (c - k))
  have hc := (setCell_chg w p 1 (.bool b')).trans (setCell_chg _ p 0 (.slice (cutA a c k) (n - k) (c - k))) (fun _ _ e => e)
  exact ⟨⟨⟨_, _, _, by simpa using b2, hs.cut hk⟩, h.new, rd_store h.ext h.new hc, h.et⟩, hc⟩

theorem ref3Text64m (w : World) (a : Option Addr) (n c : Nat) (l : List UInt8) (hl : Src w 1 (.slice a n c) n (u8s l)) (hnc : n ≤ c) (hn : n < 4611686018427387904) :
    Calls Tryz.prog 59 #[.slice a n c, .int .i64 64] w fun e w' => e = .returned (.tuple #[.string ⟨(txtR l 64).1.toArray⟩, .int .i64 ((txtR l 64).2.1 : Int), .int .i64 (txtR l 64).2.2]) ∧ w = w' :=
  ref3Text_any w a n c l 64 (by decide) hl hnc hn
set_option maxHeartbeats 4000000 in
set_option maxRecDepth 100000 in
theorem refrdNum_any (w0 w : World) (p : Nat) (r : Rd) (h : RdAt 78 w0 p r w) :
    Calls Tryz.prog 30 #[.pointer (some ⟨p, 0, none⟩)] w fun z w' => z = .returned (.int .i64 (rdNum r).1) ∧ RdAt 78 w0 p (rdNum r).2 w' ∧ Chg (· = p) w w' := by
  obtain ⟨l, bad⟩ := r
  obtain ⟨a, m, c, hb, hs⟩ := h.blk
  have hlen := hs.len
  simp only at hlen
  have hv := varR_bounds l
  obtain ⟨u, k, x, hV⟩ : ∃ u k x, varR l = (u, k, x) := ⟨_, _, _, rfl⟩
  rw [hV] at hv
  obtain ⟨hv1, hv2, hv3, -⟩ := hv
  simp only at hv1 hv2 hv3
  have HFIN : Hid (rdNum ⟨l, bad⟩ = (if (bad || x != 0 || decide (1152921504606846976 < u)) = true then 0 else (u : Int), ⟨l.drop k, bad || x != 0 || decide (1152921504606846976 < u)⟩)) := Lib.hid (by simp [rdNum, hV])
  have HV := Lib.hid hV
  clear hV
  have hkm : k ≤ m := by omega
  have hs1 := run_slice_lo Tryz.underlying28 sz_u8 a m c k hkm
  have HTWO := Lib.hid (fun b' => h.two hb hs hkm b')
  have HS := Lib.hid (hs.ext h.ext)
  have HBX := Lib.hid hb
  have c0 := cell_of_block hb 0
  have c1 := cell_of_block hb 1
  have z1 := free_of_block hb 1
  clear h hb hs hlen hkm
  generalize cutA a c k = a1 at *
  generalize m - k = m1 at *
  generalize c - k = k1 at *
  go_enter Tryz.func30, Tryz.ntmps30
  go_wp2_with fail
  refine (ref3Read_any w a m c l HS.out.src HS.out.few).mono ?_
  rw [HV.out]
  rintro e w' ⟨rfl, rfl⟩
  cases bad
  · by_cases hx : x = 0
    · subst hx
      by_cases hu : (1152921504606846976 : Int) < (u : Int)
      · have HF2 : Hid (rdNum ⟨l, false⟩ = (0, ⟨l.drop k, true⟩)) := Lib.hid (by rw [HFIN.out, show decide (1152921504606846976 < u) = true by simp; omega]; simp)
        clear HFIN
        go_upto_region 3 with fail
        generalize hw1 : World.setCell _ _ _ = w1
        have hb1 : w1.heap[p]? = some (.cells #[.slice a m c, .bool true] 78 (0, 0)) := by
          have b1 := setCell_block HBX.out (i := 1) (.bool true)
          rw [← hw1]; simpa using b1
        have HT := Lib.hid (HTWO.out true)
        have HW1 : Hid (w.setCell ⟨p, 1, none⟩ (.bool true) = w1) := Lib.hid (by rw [← hw1])
        rw [HW1.out] at HT
        clear c0 c1 z1 hw1 HTWO
        have c0 := cell_of_block hb1 0
        have c1 := cell_of_block hb1 1
        have z0 := free_of_block hb1 0
        clear hb1
        go_upto_region 4 with fail
        generalize World.setCell w1 _ _ = w2 at *
        clear c0 c1 z0
        have hq := HT.out.1
        have HQ1 := Lib.hid hq
        have HQ2 := Lib.hid HT.out.2
        obtain ⟨_, _, _, hb2, _⟩ := hq.blk
        have c1 := cell_of_block hb2 1
        clear hb2 hq HT
        go_wp2_with fail
        go_ret
        rw [HF2.out]
        exact ⟨rfl, HQ1.out, HQ2.out⟩
      · have HF2 : Hid (rdNum ⟨l, false⟩ = ((u : Int), ⟨l.drop k, false⟩)) := Lib.hid (by rw [HFIN.out, show decide (1152921504606846976 < u) = false by simp; omega]; simp)
        have hcv := num_conv (u := u) (by omega)
        clear HFIN
        go_upto_region 3 with fail
        generalize hw1 : World.setCell _ _ _ = w1
        have hb1 : w1.heap[p]? = some (.cells #[.slice a m c, .bool false] 78 (0, 0)) := by
          have b1 := setCell_block HBX.out (i := 1) (.bool false)
          rw [← hw1, show decide ((1152921504606846976 : Int) < (u : Int)) = false by simp; omega]; simpa using b1
        have HT := Lib.hid (HTWO.out false)
        have HW1 : Hid (w.setCell ⟨p, 1, none⟩ (.bool false) = w1) := Lib.hid (by rw [← hw1, show decide ((1152921504606846976 : Int) < (u : Int)) = false by simp; omega])
        rw [HW1.out] at HT
        clear c0 c1 z1 hw1 HTWO
        have c0 := cell_of_block hb1 0
        have c1 := cell_of_block hb1 1
        have z0 := free_of_block hb1 0
        clear hb1
        go_upto_region 4 with fail
        generalize World.setCell w1 _ _ = w2 at *
        clear c0 c1 z0
        have hq := HT.out.1
        have HQ1 := Lib.hid hq
        have HQ2 := Lib.hid HT.out.2
        obtain ⟨_, _, _, hb2, _⟩ := hq.blk
        have c1 := cell_of_block hb2 1
        clear hb2 hq HT
        go_wp2_with fail
        go_ret
        rw [HF2.out]
        exact ⟨by simp [hcv], HQ1.out, HQ2.out⟩
    · have HF2 : Hid (rdNum ⟨l, false⟩ = (0, ⟨l.drop k, true⟩)) := Lib.hid (by rw [HFIN.out]; simp [hx])
      have hxe : (x == 0) = false := by simp [hx]
      have hxn : (x != 0) = true := by simp [hx]
      clear HFIN hx
      go_upto_region 3 with fail
      generalize hw1 : World.setCell _ _ _ = w1
      have hb1 : w1.heap[p]? = some (.cells #[.slice a m c, .bool true] 78 (0, 0)) := by
        have b1 := setCell_block HBX.out (i := 1) (.bool true)
        rw [← hw1]; simpa using b1
      have HT := Lib.hid (HTWO.out true)
      have HW1 : Hid (w.setCell ⟨p, 1, none⟩ (.bool true) = w1) := Lib.hid (by rw [← hw1])
      rw [HW1.out] at HT
      clear c0 c1 z1 hw1 HTWO
      have c0 := cell_of_block hb1 0
      have c1 := cell_of_block hb1 1
      have z0 := free_of_block hb1 0
      clear hb1
      go_upto_region 4 with fail
      generalize World.setCell w1 _ _ = w2 at *
      clear c0 c1 z0
      have hq := HT.out.1
      have HQ1 := Lib.hid hq
      have HQ2 := Lib.hid HT.out.2
      obtain ⟨_, _, _, hb2, _⟩ := hq.blk
      have c1 := cell_of_block hb2 1
      clear hb2 hq HT
      go_wp2_with fail
      go_ret
      rw [HF2.out]
      exact ⟨rfl, HQ1.out, HQ2.out⟩
  · have HF2 : Hid (rdNum ⟨l, true⟩ = (0, ⟨l.drop k, true⟩)) := Lib.hid (by rw [HFIN.out]; simp)
    clear HFIN
    go_upto_region 3 with fail
    generalize hw1 : World.setCell _ _ _ = w1
    have hb1 : w1.heap[p]? = some (.cells #[.slice a m c, .bool true] 78 (0, 0)) := by
      have b1 := setCell_block HBX.out (i := 1) (.bool true)
      rw [← hw1]; simpa using b1
    have HT := Lib.hid (HTWO.out true)
    have HW1 : Hid (w.setCell ⟨p, 1, none⟩ (.bool true) = w1) := Lib.hid (by rw [← hw1])
    rw [HW1.out] at HT
    clear c0 c1 z1 hw1 HTWO
    have c0 := cell_of_block hb1 0
    have c1 := cell_of_block hb1 1
    have z0 := free_of_block hb1 0
    clear hb1
    go_upto_region 4 with fail
    generalize World.setCell w1 _ _ = w2 at *
    clear c0 c1 z0
    have hq := HT.out.1
    have HQ1 := Lib.hid hq
    have HQ2 := Lib.hid HT.out.2
    obtain ⟨_, _, _, hb2, _⟩ := hq.blk
    have c1 := cell_of_block hb2 1
    clear hb2 hq HT
    go_wp2_with fail
    go_ret
    rw [HF2.out]
    exact ⟨rfl, HQ1.out, HQ2.out⟩

set_option maxHeartbeats 4000000 in
set_option maxRecDepth 100000 in
theorem refrdInt_any (w0 w : World) (p : Nat) (r : Rd) (h : RdAt 78 w0 p r w) :
    Calls Tryz.prog 33 #[.pointer (some ⟨p, 0, none⟩)] w fun z w' => z = .returned (.int .i64 (rdInt r).1) ∧ RdAt 78 w0 p (rdInt r).2 w' ∧ Chg (· = p) w w' := by
  obtain ⟨l, bad⟩ := r
  obtain ⟨a, m, c, hb, hs⟩ := h.blk
  have hlen := hs.len
  simp only at hlen
  have hv := varR_bounds l
  obtain ⟨u, k, x, hV⟩ : ∃ u k x, varR l = (u, k, x) := ⟨_, _, _, rfl⟩
  rw [hV] at hv
  obtain ⟨hv1, hv2, hv3, -⟩ := hv
  simp only at hv1 hv2 hv3
  have HFIN : Hid (rdInt ⟨l, bad⟩ = (zag u, ⟨l.drop k, bad || x != 0⟩)) := Lib.hid (by simp [rdInt, hV])
  have HV := Lib.hid hV
  clear hV
  have hkm : k ≤ m := by omega
  have hs1 := run_slice_lo Tryz.underlying28 sz_u8 a m c k hkm
  have HTWO := Lib.hid (fun b' => h.two hb hs hkm b')
  have HS := Lib.hid (hs.ext h.ext)
  have HBX := Lib.hid hb
  have c0 := cell_of_block hb 0
  have c1 := cell_of_block hb 1
  have z1 := free_of_block hb 1
  clear h hb hs hlen hkm
  generalize cutA a c k = a1 at *
  generalize m - k = m1 at *
  generalize c - k = k1 at *
  go_enter Tryz.func33, Tryz.ntmps33
  go_wp2_with fail
  refine (ref3ReadInt_any w a m c l HS.out.src HS.out.few).mono ?_
  rw [HV.out]
  rintro e w' ⟨rfl, rfl⟩
  cases bad
  · have HF2 : Hid (rdInt ⟨l, false⟩ = (zag u, ⟨l.drop k, x != 0⟩)) := Lib.hid (by rw [HFIN.out]; simp)
    clear HFIN
    go_upto_region 3 with fail
    generalize hw1 : World.setCell _ _ _ = w1
    have hb1 : w1.heap[p]? = some (.cells #[.slice a m c, .bool (x != 0)] 78 (0, 0)) := by
      have b1 := setCell_block HBX.out (i := 1) (.bool (x != 0))
      rw [← hw1]; simpa using b1
    have HT := Lib.hid (HTWO.out (x != 0))
    have HW1 : Hid (w.setCell ⟨p, 1, none⟩ (.bool (x != 0)) = w1) := Lib.hid (by rw [← hw1])
    rw [HW1.out] at HT
    clear c0 c1 z1 hw1 HTWO
    have c0 := cell_of_block hb1 0
    have c1 := cell_of_block hb1 1
    have z0 := free_of_block hb1 0
    clear hb1
    go_upto_region 4 with fail
    generalize World.setCell w1 _ _ = w2 at *
    clear c0 c1 z0
    have hq := HT.out.1
    have HQ1 := Lib.hid hq
    have HQ2 := Lib.hid HT.out.2
    obtain ⟨_, _, _, hb2, _⟩ := hq.blk
    have c1 := cell_of_block hb2 1
    clear hb2 hq HT
    go_wp2_with fail
    go_ret
    rw [HF2.out]
    exact ⟨rfl, HQ1.out, HQ2.out⟩
  · have HF2 : Hid (rdInt ⟨l, true⟩ = (zag u, ⟨l.drop k, true⟩)) := Lib.hid (by rw [HFIN.out]; simp)
    clear HFIN
    go_upto_region 3 with fail
    generalize hw1 : World.setCell _ _ _ = w1
    have hb1 : w1.heap[p]? = some (.cells #[.slice a m c, .bool true] 78 (0, 0)) := by
      have b1 := setCell_block HBX.out (i := 1) (.bool true)
      rw [← hw1]; simpa using b1
    have HT := Lib.hid (HTWO.out true)
    have HW1 : Hid (w.setCell ⟨p, 1, none⟩ (.bool true) = w1) := Lib.hid (by rw [← hw1])
    rw [HW1.out] at HT
    clear c0 c1 z1 hw1 HTWO
    have c0 := cell_of_block hb1 0
    have c1 := cell_of_block hb1 1
    have z0 := free_of_block hb1 0
    clear hb1
    go_upto_region 4 with fail
    generalize World.setCell w1 _ _ = w2 at *
    clear c0 c1 z0
    have hq := HT.out.1
    have HQ1 := Lib.hid hq
    have HQ2 := Lib.hid HT.out.2
    obtain ⟨_, _, _, hb2, _⟩ := hq.blk
    have c1 := cell_of_block hb2 1
    clear hb2 hq HT
    go_wp2_with fail
    go_ret
    rw [HF2.out]
    exact ⟨rfl, HQ1.out, HQ2.out⟩

set_option maxHeartbeats 4000000 in
set_option maxRecDepth 100000 in
theorem refrdText_any (w0 w : World) (p : Nat) (r : Rd) (h : RdAt 78 w0 p r w) :
    Calls Tryz.prog 32 #[.pointer (some ⟨p, 0, none⟩)] w fun z w' => z = .returned (.string (rdText r).1) ∧ RdAt 78 w0 p (rdText r).2 w' ∧ Chg (· = p) w w' := by
  obtain ⟨l, bad⟩ := r
  obtain ⟨a, m, c, hb, hs⟩ := h.blk
  have hlen := hs.len
  simp only at hlen
  have hv2 := txtR_le l
  obtain ⟨u, k, x, hV⟩ : ∃ u k x, txtR l 64 = (u, k, x) := ⟨_, _, _, rfl⟩
  rw [hV] at hv2
  simp only at hv2
  have HFIN : Hid (rdText ⟨l, bad⟩ = (⟨u.toArray⟩, ⟨l.drop k, bad || x != 0⟩)) := Lib.hid (by simp [rdText, hV])
  have HV := Lib.hid hV
  clear hV
  have hkm : k ≤ m := by omega
  have hs1 := run_slice_lo Tryz.underlying28 sz_u8 a m c k hkm
  have HTWO := Lib.hid (fun b' => h.two hb hs hkm b')
  have HS := Lib.hid (hs.ext h.ext)
  have HBX := Lib.hid hb
  have c0 := cell_of_block hb 0
  have c1 := cell_of_block hb 1
  have z1 := free_of_block hb 1
  clear h hb hs hlen hkm
  generalize cutA a c k = a1 at *
  generalize m - k = m1 at *
  generalize c - k = k1 at *
  go_enter Tryz.func32, Tryz.ntmps32
  go_wp2_with fail
  refine (ref3Text64m w a m c l HS.out.src HS.out.le HS.out.few).mono ?_
  rw [HV.out]
  rintro e w' ⟨rfl, rfl⟩
  cases bad
  · have HF2 : Hid (rdText ⟨l, false⟩ = (⟨u.toArray⟩, ⟨l.drop k, x != 0⟩)) := Lib.hid (by rw [HFIN.out]; simp)
    clear HFIN
    go_upto_region 3 with fail
    generalize hw1 : World.setCell _ _ _ = w1
    have hb1 : w1.heap[p]? = some (.cells #[.slice a m c, .bool (x != 0)] 78 (0, 0)) := by
      have b1 := setCell_block HBX.out (i := 1) (.bool (x != 0))
      rw [← hw1]; simpa using b1
    have HT := Lib.hid (HTWO.out (x != 0))
    have HW1 : Hid (w.setCell ⟨p, 1, none⟩ (.bool (x != 0)) = w1) := Lib.hid (by rw [← hw1])
    rw [HW1.out] at HT
    clear c0 c1 z1 hw1 HTWO
    have c0 := cell_of_block hb1 0
    have c1 := cell_of_block hb1 1
    have z0 := free_of_block hb1 0
    clear hb1
    go_upto_region 4 with fail
    generalize World.setCell w1 _ _ = w2 at *
    clear c0 c1 z0
    have hq := HT.out.1
    have HQ1 := Lib.hid hq
    have HQ2 := Lib.hid HT.out.2
    obtain ⟨_, _, _, hb2, _⟩ := hq.blk
    have c1 := cell_of_block hb2 1
    clear hb2 hq HT
    go_wp2_with fail
    go_ret
    rw [HF2.out]
    exact ⟨rfl, HQ1.out, HQ2.out⟩
  · have HF2 : Hid (rdText ⟨l, true⟩ = (⟨u.toArray⟩, ⟨l.drop k, true⟩)) := Lib.hid (by rw [HFIN.out]; simp)
    clear HFIN
    go_upto_region 3 with fail
    generalize hw1 : World.setCell _ _ _ = w1
    have hb1 : w1.heap[p]? = some (.cells #[.slice a m c, .bool true] 78 (0, 0)) := by
      have b1 := setCell_block HBX.out (i := 1) (.bool true)
      rw [← hw1]; simpa using b1
    have HT := Lib.hid (HTWO.out true)
    have HW1 : Hid (w.setCell ⟨p, 1, none⟩ (.bool true) = w1) := Lib.hid (by rw [← hw1])
    rw [HW1.out] at HT
    clear c0 c1 z1 hw1 HTWO
    have c0 := cell_of_block hb1 0
    have c1 := cell_of_block hb1 1
    have z0 := free_of_block hb1 0
    clear hb1
    go_upto_region 4 with fail
    generalize World.setCell w1 _ _ = w2 at *
    clear c0 c1 z0
    have hq := HT.out.1
    have HQ1 := Lib.hid hq
    have HQ2 := Lib.hid HT.out.2
    obtain ⟨_, _, _, hb2, _⟩ := hq.blk
    have c1 := cell_of_block hb2 1
    clear hb2 hq HT
    go_wp2_with fail
    go_ret
    rw [HF2.out]
    exact ⟨rfl, HQ1.out, HQ2.out⟩

end Go.Proofs.YtdgmnhcgjbkafaaGreatDoor
