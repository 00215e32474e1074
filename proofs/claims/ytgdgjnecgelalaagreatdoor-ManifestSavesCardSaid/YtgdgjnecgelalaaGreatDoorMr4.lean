/- tidemillref18.reader: num, int, text. -/
import Derived.Test.YtgdgjnecgelalaaGreatDoorMrd
import Derived.Test.YtgdgjnecgelalaaGreatDoorR03
import Derived.Test.YtgdgjnecgelalaaGreatDoorMpb
namespace Go.Proofs.YtgdgjnecgelalaaGreatDoor
open Go.RowKit Go.Sort Go.Lib

theorem RdAt.two {t : TypeId} {w0 w : World} {p : Nat} {l : List UInt8} {bad : Bool} (h : RdAt t w0 p ⟨l, bad⟩ w) {a : Option Addr} {n c k : Nat} (hb : w.heap[p]? = some (.cells #[.slice a n c, .bool bad] t (0, 0))) (hs : SlB w0 a n c l) (hk : k ≤ n) (b' : Bool) :
    RdAt t w0 p ⟨l.drop k, b'⟩ ((w.setCell ⟨p, 1, none⟩ (.bool b')).setCell ⟨p, 0, none⟩ (.slice (cutA a c k) (n - k) (c - k))) ∧ Chg (· = p) w ((w.setCell ⟨p, 1, none⟩ (.bool b')).setCell ⟨p, 0, none⟩ (.slice (cutA a c k) (n - k) (c - k))) := by
  have b1 := setCell_block hb (i := 1) (.bool b')
  have b2 := setCell_block b1 (i := 0) (.slice (cutA a c k) (n - k) (c - k))
  have hc := (setCell_chg w p 1 (.bool b')).trans (setCell_chg _ p 0 (.slice (cutA a c k) (n - k) (c - k))) (fun _ _ e => e)
  exact ⟨⟨⟨_, _, _, by simpa using b2, hs.cut hk⟩, h.new, rd_store h.ext h.new hc, h.et⟩, hc⟩

theorem ref3Text64m (w : World) (a : Option Addr) (n c : Nat) (l : List UInt8) (hl : Src w 1 (.slice a n c) n (u8s l)) (hnc : n ≤ c) (hn : n < 4611686018427387904) :
    Calls Tryz.prog 107 #[.slice a n c, .int .i64 64] w fun e w' => e = .returned (.tuple #[.string ⟨(txtR l 64).1.toArray⟩, .int .i64 ((txtR l 64).2.1 : Int), .int .i64 (txtR l 64).2.2]) ∧ w = w' :=
  ref3Text_any w a n c l 64 (by decide) hl hnc hn
set_option maxHeartbeats 4000000 in
set_option maxRecDepth 100000 in
theorem refrdNum_any (w0 w : World) (p : Nat) (r : Rd) (h : RdAt 131 w0 p r w) :
    Calls Tryz.prog 73 #[.pointer (some ⟨p, 0, none⟩)] w fun z w' => z = .returned (.int .i64 (rdNum r).1) ∧ RdAt 131 w0 p (rdNum r).2 w' ∧ Chg (· = p) w w' := by
  obtain ⟨l, bad⟩ := r
  obtain ⟨a, m, c, hb, hs⟩ := h.blk
  have hlen := hs.len
  simp only at hlen
  have hv := varR_bounds l
  obtain ⟨u, k, x, hV⟩ : ∃ u k x, varR l = (u, k, x) := ⟨_, _, _, rfl⟩
  rw [hV] at hv
  obtain ⟨hv1, hv2, hv3, -⟩ := hv
  simp only at hv1 hv2 hv3
  have HFIN : Hid (rdNum ⟨l, bad⟩ = (if (bad || x != 0 || decide (1152921504606846976 < u)) = true then 0 else (u : Int), ⟨l.drop k, bad || x != 0 || decide (1152921504606846976 < u)⟩)) := Lib.hid (by simp [rdNum, hV])
  have HV := Lib.hid hV
  clear hV
  have hkm : k ≤ m := by omega
  have hs1 := run_slice_lo Tryz.underlying56 sz_u8 a m c k hkm
  have HTWO := Lib.hid (fun b' => h.two hb hs hkm b')
  have HS := Lib.hid (hs.ext h.ext)
  have HBX := Lib.hid hb
  have c0 := cell_of_block hb 0
  have c1 := cell_of_block hb 1
  have z1 := free_of_block hb 1
  clear h hb hs hlen hkm
  generalize cutA a c k = a1 at *
  generalize m - k = m1 at *
  generalize c - k = k1 at *
  go_enter Tryz.func73, Tryz.ntmps73
  go_wp2_with fail
  refine (ref3Read_any w a m c l HS.out.src HS.out.few).mono ?_
  rw [HV.out]
  rintro e w' ⟨rfl, rfl⟩
  cases bad
  · by_cases hx : x = 0
    · subst hx
      by_cases hu : (1152921504606846976 : Int) < (u : Int)
      · have HF2 : Hid (rdNum ⟨l, false⟩ = (0, ⟨l.drop k, true⟩)) := Lib.hid (by rw [HFIN.out, show decide (1152921504606846976 < u) = true by simp; omega]; simp)
        clear HFIN
        go_upto_region 3 with fail
        generalize hw1 : World.setCell _ _ _ = w1
        have hb1 : w1.heap[p]? = some (.cells #[.slice a m c, .bool true] 131 (0, 0)) := by
          have b1 := setCell_block HBX.out (i := 1) (.bool true)
          rw [← hw1]; simpa using b1
        have HT := Lib.hid (HTWO.out true)
        have HW1 : Hid (w.setCell ⟨p, 1, none⟩ (.bool true) = w1) := Lib.hid (by rw [← hw1])
        rw [HW1.out] at HT
        clear c0 c1 z1 hw1 HTWO
        have c0 := cell_of_block hb1 0
        have c1 := cell_of_block hb1 1
        have z0 := free_of_block hb1 0
        clear hb1
        go_upto_region 4 with fail
        generalize World.setCell w1 _ _ = w2 at *
        clear c0 c1 z0
        have hq := HT.out.1
        have HQ1 := Lib.hid hq
        have HQ2 := Lib.hid HT.out.2
        obtain ⟨_, _, _, hb2, _⟩ := hq.blk
        have c1 := cell_of_block hb2 1
        clear hb2 hq HT
        go_wp2_with fail
        go_ret
        rw [HF2.out]
        exact ⟨rfl, HQ1.out, HQ2.out⟩
      · have HF2 : Hid (rdNum ⟨l, false⟩ = ((u : Int), ⟨l.drop k, false⟩)) := Lib.hid (by rw [HFIN.out, show decide (1152921504606846976 < u) = false by simp; omega]; simp)
        have hcv := num_conv (u := u) (by omega)
        clear HFIN
        go_upto_region 3 with fail
        generalize hw1 : World.setCell _ _ _ = w1
        have hb1 : w1.heap[p]? = some (.cells #[.slice a m c, .bool false] 131 (0, 0)) := by
          have b1 := setCell_block HBX.out (i := 1) (.bool false)
          rw [← hw1, show decide ((1152921504606846976 : Int) < (u : Int)) = false by simp; omega]; simpa using b1
        have HT := Lib.hid (HTWO.out false)
        have HW1 : Hid (w.setCell ⟨p, 1, none⟩ (.bool false) = w1) := Lib.hid (by rw [← hw1, show decide ((1152921504606846976 : Int) < (u : Int)) = false by simp; omega])
        rw [HW1.out] at HT
        clear c0 c1 z1 hw1 HTWO
        have c0 := cell_of_block hb1 0
        have c1 := cell_of_block hb1 1
        have z0 := free_of_block hb1 0
        clear hb1
        go_upto_region 4 with fail
        generalize World.setCell w1 _ _ = w2 at *
        clear c0 c1 z0
        have hq := HT.out.1
        have HQ1 := Lib.hid hq
        have HQ2 := Lib.hid HT.out.2
        obtain ⟨_, _, _, hb2, _⟩ := hq.blk
        have c1 := cell_of_block hb2 1
        clear hb2 hq HT
        go_wp2_with fail
        go_ret
        rw [HF2.out]
        exact ⟨by simp [hcv], HQ1.out, HQ2.out⟩
    · have HF2 : Hid (rdNum ⟨l, false⟩ = (0, ⟨l.drop k, true⟩)) := Lib.hid (by rw [HFIN.out]; simp [hx])
      have hxe : (x == 0) = false := by simp [hx]
      have hxn : (x != 0) = true := by simp [hx]
      clear HFIN hx
      go_upto_region 3 with fail
      generalize hw1 : World.setCell _ _ _ = w1
      have hb1 : w1.heap[p]? = some (.cells #[.slice a m c, .bool true] 131 (0, 0)) := by
        have b1 := setCell_block HBX.out (i := 1) (.bool true)
        rw [← hw1]; simpa using b1
      have HT := Lib.hid (HTWO.out true)
      have HW1 : Hid (w.setCell ⟨p, 1, none⟩ (.bool true) = w1) := Lib.hid (by rw [← hw1])
      rw [HW1.out] at HT
      clear c0 c1 z1 hw1 HTWO
      have c0 := cell_of_block hb1 0
      have c1 := cell_of_block hb1 1
      have z0 := free_of_block hb1 0
      clear hb1
      go_upto_region 4 with fail
      generalize World.setCell w1 _ _ = w2 at *
      clear c0 c1 z0
      have hq := HT.out.1
      have HQ1 := Lib.hid hq
      have HQ2 := Lib.hid HT.out.2
      obtain ⟨_, _, _, hb2, _⟩ := hq.blk
      have c1 := cell_of_block hb2 1
      clear hb2 hq HT
      go_wp2_with fail
      go_ret
      rw [HF2.out]
      exact ⟨rfl, HQ1.out, HQ2.out⟩
  · have HF2 : Hid (rdNum ⟨l, true⟩ = (0, ⟨l.drop k, true⟩)) := Lib.hid (by rw [HFIN.out]; simp)
    clear HFIN
    go_upto_region 3 with fail
    generalize hw1 : World.setCell _ _ _ = w1
    have hb1 : w1.heap[p]? = some (.cells #[.slice a m c, .bool true] 131 (0, 0)) := by
      have b1 := setCell_block HBX.out (i := 1) (.bool true)
      rw [← hw1]; simpa using b1
    have HT := Lib.hid (HTWO.out true)
    have HW1 : Hid (w.setCell ⟨p, 1, none⟩ (.bool true) = w1) := Lib.hid (by rw [← hw1])
    rw [HW1.out] at HT
    clear c0 c1 z1 hw1 HTWO
    have c0 := cell_of_block hb1 0
    have c1 := cell_of_block hb1 1
    have z0 := free_of_block hb1 0
    clear hb1
    go_upto_region 4 with fail
    generalize World.setCell w1 _ _ = w2 at *
    clear c0 c1 z0
    have hq := HT.out.1
    have HQ1 := Lib.hid hq
    have HQ2 := Lib.hid HT.out.2
    obtain ⟨_, _, _, hb2, _⟩ := hq.blk
    have c1 := cell_of_block hb2 1
    clear hb2 hq HT
    go_wp2_with fail
    go_ret
    rw [HF2.out]
    exact ⟨rfl, HQ1.out, HQ2.out⟩

set_option maxHeartbeats 4000000 in
set_option maxRecDepth 100000 in
theorem refrdInt_any (w0 w : World) (p : Nat) (r : Rd) (h : RdAt 131 w0 p r w) :
    Calls Tryz.prog 76 #[.pointer (some ⟨p, 0, none⟩)] w fun z w' => z = .returned (.int .i64 (rdInt r).1) ∧ RdAt 131 w0 p (rdInt r).2 w' ∧ Chg (· = p) w w' := by
  obtain ⟨l, bad⟩ := r
  obtain ⟨a, m, c, hb, hs⟩ := h.blk
  have hlen := hs.len
  simp only at hlen
  have hv := varR_bounds l
  obtain ⟨u, k, x, hV⟩ : ∃ u k x, varR l = (u, k, x) := ⟨_, _, _, rfl⟩
  rw [hV] at hv
  obtain ⟨hv1, hv2, hv3, -⟩ := hv
  simp only at hv1 hv2 hv3
  have HFIN : Hid (rdInt ⟨l, bad⟩ = (zag u, ⟨l.drop k, bad || x != 0⟩)) := Lib.hid (by simp [rdInt, hV])
  have HV := Lib.hid hV
  clear hV
  have hkm : k ≤ m := by omega
  have hs1 := run_slice_lo Tryz.underlying56 sz_u8 a m c k hkm
  have HTWO := Lib.hid (fun b' => h.two hb hs hkm b')
  have HS := Lib.hid (hs.ext h.ext)
  have HBX := Lib.hid hb
  have c0 := cell_of_block hb 0
  have c1 := cell_of_block hb 1
  have z1 := free_of_block hb 1
  clear h hb hs hlen hkm
  generalize cutA a c k = a1 at *
  generalize m - k = m1 at *
  generalize c - k = k1 at *
  go_enter Tryz.func76, Tryz.ntmps76
  go_wp2_with fail
  refine (ref3ReadInt_any w a m c l HS.out.src HS.out.few).mono ?_
  rw [HV.out]
  rintro e w' ⟨rfl, rfl⟩
  cases bad
  · have HF2 : Hid (rdInt ⟨l, false⟩ = (zag u, ⟨l.drop k, x != 0⟩)) := Lib.hid (by rw [HFIN.out]; simp)
    clear HFIN
    go_upto_region 3 with fail
    generalize hw1 : World.setCell _ _ _ = w1
    have hb1 : w1.heap[p]? = some (.cells #[.slice a m c, .bool (x != 0)] 131 (0, 0)) := by
      have b1 := setCell_block HBX.out (i := 1) (.bool (x != 0))
      rw [← hw1]; simpa using b1
    have HT := Lib.hid (HTWO.out (x != 0))
    have HW1 : Hid (w.setCell ⟨p, 1, none⟩ (.bool (x != 0)) = w1) := Lib.hid (by rw [← hw1])
    rw [HW1.out] at HT
    clear c0 c1 z1 hw1 HTWO
    have c0 := cell_of_block hb1 0
    have c1 := cell_of_block hb1 1
    have z0 := free_of_block hb1 0
    clear hb1
    go_upto_region 4 with fail
    generalize World.setCell w1 _ _ = w2 at *
    clear c0 c1 z0
    have hq := HT.out.1
    have HQ1 := Lib.hid hq
    have HQ2 := Lib.hid HT.out.2
    obtain ⟨_, _, _, hb2, _⟩ := hq.blk
    have c1 := cell_of_block hb2 1
    clear hb2 hq HT
    go_wp2_with fail
    go_ret
    rw [HF2.out]
    exact ⟨rfl, HQ1.out, HQ2.out⟩
  · have HF2 : Hid (rdInt ⟨l, true⟩ = (zag u, ⟨l.drop k, true⟩)) := Lib.hid (by rw [HFIN.out]; simp)
    clear HFIN
    go_upto_region 3 with fail
    generalize hw1 : World.setCell _ _ _ = w1
    have hb1 : w1.heap[p]? = some (.cells #[.slice a m c, .bool true] 131 (0, 0)) := by
      have b1 := setCell_block HBX.out (i := 1) (.bool true)
      rw [← hw1]; simpa using b1
    have HT := Lib.hid (HTWO.out true)
    have HW1 : Hid (w.setCell ⟨p, 1, none⟩ (.bool true) = w1) := Lib.hid (by rw [← hw1])
    rw [HW1.out] at HT
    clear c0 c1 z1 hw1 HTWO
    have c0 := cell_of_block hb1 0
    have c1 := cell_of_block hb1 1
    have z0 := free_of_block hb1 0
    clear hb1
    go_upto_region 4 with fail
    generalize World.setCell w1 _ _ = w2 at *
    clear c0 c1 z0
    have hq := HT.out.1
    have HQ1 := Lib.hid hq
    have HQ2 := Lib.hid HT.out.2
    obtain ⟨_, _, _, hb2, _⟩ := hq.blk
    have c1 := cell_of_block hb2 1
    clear hb2 hq HT
    go_wp2_with fail
    go_ret
    rw [HF2.out]
    exact ⟨rfl, HQ1.out, HQ2.out⟩

set_option maxHeartbeats 4000000 in
set_option maxRecDepth 100000 in
theorem refrdText_any (w0 w : World) (p : Nat) (r : Rd) (h : RdAt 131 w0 p r w) :
    Calls Tryz.prog 75 #[.pointer (some ⟨p, 0, none⟩)] w fun z w' => z = .returned (.string (rdText r).1) ∧ RdAt 131 w0 p (rdText r).2 w' ∧ Chg (· = p) w w' := by
  obtain ⟨l, bad⟩ := r
  obtain ⟨a, m, c, hb, hs⟩ := h.blk
  have hlen := hs.len
  simp only at hlen
  have hv2 := txtR_le l
  obtain ⟨u, k, x, hV⟩ : ∃ u k x, txtR l 64 = (u, k, x) := ⟨_, _, _, rfl⟩
  rw [hV] at hv2
  simp only at hv2
  have HFIN : Hid (rdText ⟨l, bad⟩ = (⟨u.toArray⟩, ⟨l.drop k, bad || x != 0⟩)) := Lib.hid (by simp [rdText, hV])
  have HV := Lib.hid hV
  clear hV
  have hkm : k ≤ m := by omega
  have hs1 := run_slice_lo Tryz.underlying56 sz_u8 a m c k hkm
  have HTWO := Lib.hid (fun b' => h.two hb hs hkm b')
  have HS := Lib.hid (hs.ext h.ext)
  have HBX := Lib.hid hb
  have c0 := cell_of_block hb 0
  have c1 := cell_of_block hb 1
  have z1 := free_of_block hb 1
  clear h hb hs hlen hkm
  generalize cutA a c k = a1 at *
  generalize m - k = m1 at *
  generalize c - k = k1 at *
  go_enter Tryz.func75, Tryz.ntmps75
  go_wp2_with fail
  refine (ref3Text64m w a m c l HS.out.src HS.out.le HS.out.few).mono ?_
  rw [HV.out]
  rintro e w' ⟨rfl, rfl⟩
  cases bad
  · have HF2 : Hid (rdText ⟨l, false⟩ = (⟨u.toArray⟩, ⟨l.drop k, x != 0⟩)) := Lib.hid (by rw [HFIN.out]; simp)
    clear HFIN
    go_upto_region 3 with fail
    generalize hw1 : World.setCell _ _ _ = w1
    have hb1 : w1.heap[p]? = some (.cells #[.slice a m c, .bool (x != 0)] 131 (0, 0)) := by
      have b1 := setCell_block HBX.out (i := 1) (.bool (x != 0))
      rw [← hw1]; simpa using b1
    have HT := Lib.hid (HTWO.out (x != 0))
    have HW1 : Hid (w.setCell ⟨p, 1, none⟩ (.bool (x != 0)) = w1) := Lib.hid (by rw [← hw1])
    rw [HW1.out] at HT
    clear c0 c1 z1 hw1 HTWO
    have c0 := cell_of_block hb1 0
    have c1 := cell_of_block hb1 1
    have z0 := free_of_block hb1 0
    clear hb1
    go_upto_region 4 with fail
    generalize World.setCell w1 _ _ = w2 at *
    clear c0 c1 z0
    have hq := HT.out.1
    have HQ1 := Lib.hid hq
    have HQ2 := Lib.hid HT.out.2
    obtain ⟨_, _, _, hb2, _⟩ := hq.blk
    have c1 := cell_of_block hb2 1
    clear hb2 hq HT
    go_wp2_with fail
    go_ret
    rw [HF2.out]
    exact ⟨rfl, HQ1.out, HQ2.out⟩
  · have HF2 : Hid (rdText ⟨l, true⟩ = (⟨u.toArray⟩, ⟨l.drop k, true⟩)) := Lib.hid (by rw [HFIN.out]; simp)
    clear HFIN
    go_upto_region 3 with fail
    generalize hw1 : World.setCell _ _ _ = w1
    have hb1 : w1.heap[p]? = some (.cells #[.slice a m c, .bool true] 131 (0, 0)) := by
      have b1 := setCell_block HBX.out (i := 1) (.bool true)
      rw [← hw1]; simpa using b1
    have HT := Lib.hid (HTWO.out true)
    have HW1 : Hid (w.setCell ⟨p, 1, none⟩ (.bool true) = w1) := Lib.hid (by rw [← hw1])
    rw [HW1.out] at HT
    clear c0 c1 z1 hw1 HTWO
    have c0 := cell_of_block hb1 0
    have c1 := cell_of_block hb1 1
    have z0 := free_of_block hb1 0
    clear hb1
    go_upto_region 4 with fail
    generalize World.setCell w1 _ _ = w2 at *
    clear c0 c1 z0
    have hq := HT.out.1
    have HQ1 := Lib.hid hq
    have HQ2 := Lib.hid HT.out.2
    obtain ⟨_, _, _, hb2, _⟩ := hq.blk
    have c1 := cell_of_block hb2 1
    clear hb2 hq HT
    go_wp2_with fail
    go_ret
    rw [HF2.out]
    exact ⟨rfl, HQ1.out, HQ2.out⟩

end Go.Proofs.YtgdgjnecgelalaaGreatDoor

/-! Plain: what the document reads of a state's bytes is what manifest.Read reads. -/

namespace Go.Proofs.YtgdgjnecgelalaaGreatDoor
open Go.RowKit Go.Sort Go.Lib

/-- The document: files and tiers. -/
def refFrom (x y z : Int) (m : Mk) (r4 : Rd) : Option Sta :=
  if (loopR trStp (min (rdNum (loopR flStp (min (rdNum r4).1.toNat 513) ([], (rdNum r4).2)).2).1.toNat 5) ([], (rdNum (loopR flStp (min (rdNum r4).1.toNat 513) ([], (rdNum r4).2)).2).2)).2.bad = true ∨
      (loopR trStp (min (rdNum (loopR flStp (min (rdNum r4).1.toNat 513) ([], (rdNum r4).2)).2).1.toNat 5) ([], (rdNum (loopR flStp (min (rdNum r4).1.toNat 513) ([], (rdNum r4).2)).2).2)).2.l ≠ [] ∨
      ((loopR flStp (min (rdNum r4).1.toNat 513) ([], (rdNum r4).2)).1.length : Int) ≠ (rdNum r4).1 ∨
      ((loopR trStp (min (rdNum (loopR flStp (min (rdNum r4).1.toNat 513) ([], (rdNum r4).2)).2).1.toNat 5) ([], (rdNum (loopR flStp (min (rdNum r4).1.toNat 513) ([], (rdNum r4).2)).2).2)).1.length : Int) ≠ (rdNum (loopR flStp (min (rdNum r4).1.toNat 513) ([], (rdNum r4).2)).2).1 ∨
      staR ⟨x, y, z, m, (loopR flStp (min (rdNum r4).1.toNat 513) ([], (rdNum r4).2)).1, (loopR trStp (min (rdNum (loopR flStp (min (rdNum r4).1.toNat 513) ([], (rdNum r4).2)).2).1.toNat 5) ([], (rdNum (loopR flStp (min (rdNum r4).1.toNat 513) ([], (rdNum r4).2)).2).2)).1⟩ = false then none
  else some ⟨x, y, z, m, (loopR flStp (min (rdNum r4).1.toNat 513) ([], (rdNum r4).2)).1, (loopR trStp (min (rdNum (loopR flStp (min (rdNum r4).1.toNat 513) ([], (rdNum r4).2)).2).1.toNat 5) ([], (rdNum (loopR flStp (min (rdNum r4).1.toNat 513) ([], (rdNum r4).2)).2).2)).1⟩
def refHead (x y z : Int) (r3 : Rd) : Option Sta :=
  if (markR r3.l).2.2 ≠ 0 ∨ r3.bad = true then none else refFrom x y z (markR r3.l).1 ⟨r3.l.drop (markR r3.l).2.1, false⟩
def refRd (l : List UInt8) : Option Sta :=
  if (openR l).2.2 ≠ 0 ∨ (openR l).1 ≠ 7 then none
  else refHead (rdNum ⟨(openR l).2.1, false⟩).1 (rdNum (rdNum ⟨(openR l).2.1, false⟩).2).1 (rdNum (rdNum (rdNum ⟨(openR l).2.1, false⟩).2).2).1 (rdNum (rdNum (rdNum ⟨(openR l).2.1, false⟩).2).2).2

theorem rdNum_bad {r : Rd} (h : r.bad = true) : (rdNum r).1 = 0 ∧ (rdNum r).2.bad = true := by
  unfold rdNum
  simp [h]
theorem rdInt_bad {r : Rd} (h : r.bad = true) : (rdInt r).2.bad = true := by unfold rdInt; simp [h]
theorem rdText_bad {r : Rd} (h : r.bad = true) : (rdText r).2.bad = true := by unfold rdText; simp [h]
theorem loop_bad {α : Type} {stp : α → Rd → α × Rd} {s : α × Rd} {k : Nat} (h : s.2.bad = true) : loopR stp k s = s := loopR_stay (k := 0) (m := k) h (Nat.zero_le _)
theorem loop_len {β : Type} {stp : List β → Rd → List β × Rd} (hs : ∀ L r, (stp L r).1.length = L.length + 1) {s : List β × Rd} {k : Nat} (h : (loopR stp k s).2.bad = false) : (loopR stp k s).1.length = s.1.length + k := by
  induction k with
  | zero => rfl
  | succ k ih =>
    have e : loopR stp (k + 1) s = if (loopR stp k s).2.bad = true then loopR stp k s else stp (loopR stp k s).1 (loopR stp k s).2 := rfl
    rw [e] at h ⊢
    split at h
    · rename_i hb
      rw [hb] at h
      cases h
    · rename_i hb
      rw [if_neg hb, hs, ih (by simpa using hb)]
      omega
theorem loop_len_le {β : Type} {stp : List β → Rd → List β × Rd} (hs : ∀ L r, (stp L r).1.length = L.length + 1) {s : List β × Rd} {k : Nat} : (loopR stp k s).1.length ≤ s.1.length + k := by
  induction k with
  | zero => exact Nat.le_refl _
  | succ k ih =>
    have e : loopR stp (k + 1) s = if (loopR stp k s).2.bad = true then loopR stp k s else stp (loopR stp k s).1 (loopR stp k s).2 := rfl
    rw [e]
    split
    · omega
    · rw [hs]; omega
theorem fl_len (L : List Fl) (r : Rd) : (flStp L r).1.length = L.length + 1 := by simp [flStp]
theorem tr_len (L : List Tr) (r : Rd) : (trStp L r).1.length = L.length + 1 := by simp [trStp]
theorem many_bad {α : Type} {stp : α → Rd → α × Rd} {most : Nat} {x : α} {r : Rd} (h : r.bad = true) : (manyR stp most (x, r)).2.bad = true := by
  have := rdNum_bad h
  have hb : ((x, (⟨(rdNum r).2.l, (rdNum r).2.bad || decide ((most : Int) < (rdNum r).1)⟩ : Rd)) : α × Rd).2.bad = true := by simp [this.2]
  have e : manyR stp most (x, r) = loopR stp (rdNum r).1.toNat (x, ⟨(rdNum r).2.l, (rdNum r).2.bad || decide ((most : Int) < (rdNum r).1)⟩) := rfl
  rw [e, loop_bad hb]
  exact hb
/-- Where all is bad nothing is told. -/
theorem staTail_bad {x y z : Int} {m : Mk} {r : Rd} (h : r.bad = true) : staOk (staTail x y z m r) = none := by
  have h2 : (manyR trStp 4 ([], (manyR flStp 512 ([], r)).2)).2.bad = true := many_bad (many_bad h)
  unfold staOk staTail
  simp only
  rw [if_pos (.inl h2)]
/-- Many things: as manifest reads them, as the document does. -/
theorem many_alike {β : Type} {stp : List β → Rd → List β × Rd} (hs : ∀ L r, (stp L r).1.length = L.length + 1) (most : Nat) (r : Rd) :
    (manyR stp most ([], r) = loopR stp (min (rdNum r).1.toNat (most + 1)) ([], (rdNum r).2) ∧ (rdNum r).1.toNat ≤ most) ∨
    ((manyR stp most ([], r)).2.bad = true ∧ (loopR stp (min (rdNum r).1.toNat (most + 1)) ([], (rdNum r).2)).2.bad = true) ∨
    ((manyR stp most ([], r)).2.bad = true ∧ (loopR stp (min (rdNum r).1.toNat (most + 1)) ([], (rdNum r).2)).1.length = most + 1) := by
  have hlo := (rdNum_lo r).1
  unfold manyR
  simp only
  by_cases h : (most : Int) < (rdNum r).1
  · have hd : decide ((most : Int) < (rdNum r).1) = true := by simpa using h
    rw [hd, Bool.or_true]
    have hb : (loopR stp (rdNum r).1.toNat ([], (⟨(rdNum r).2.l, true⟩ : Rd))).2.bad = true := by rw [loop_bad rfl]
    right
    have hm : min (rdNum r).1.toNat (most + 1) = most + 1 := by omega
    rw [hm]
    cases hl : (loopR stp (most + 1) ([], (rdNum r).2)).2.bad with
    | true => exact .inl ⟨hb, rfl⟩
    | false => exact .inr ⟨hb, by rw [loop_len hs hl]; simp⟩
  · have hd : decide ((most : Int) < (rdNum r).1) = false := by simpa using h
    rw [hd, Bool.or_false]
    have hm : min (rdNum r).1.toNat (most + 1) = (rdNum r).1.toNat := by omega
    rw [hm]
    exact .inl ⟨rfl, by omega⟩
theorem staR_few {s : Sta} (h : staR s = true) : s.fl.length ≤ 512 ∧ s.ti.length ≤ 4 := by
  simp only [staR, staB, Bool.and_eq_true, decide_eq_true_eq] at h
  exact ⟨h.1.1.1.2, h.1.1.2⟩
theorem manyT_bad {r : Rd} (h : r.bad = true) (n : Nat) : (loopR trStp (min (rdNum r).1.toNat n) ([], (rdNum r).2)).2.bad = true := by
  have h2 : (([], (rdNum r).2) : List Tr × Rd).2.bad = true := (rdNum_bad h).2
  rw [loop_bad h2]
  exact h2
theorem refFrom_alike (x y z : Int) (m : Mk) (r : Rd) : refFrom x y z m r = staOk (staTail x y z m r) := by
  have hF := many_alike fl_len 512 r
  have hlo := (rdNum_lo r).1
  unfold refFrom staOk staTail
  generalize hfl : loopR flStp (min (rdNum r).1.toNat 513) ([], (rdNum r).2) = F at *
  generalize manyR flStp 512 ([], r) = F' at *
  rcases hF with ⟨rfl, hn⟩ | ⟨hb, hb2⟩ | ⟨hb, hlen⟩
  · have hT := many_alike tr_len 4 F'.2
    have hlo2 := (rdNum_lo F'.2).1
    generalize hti : loopR trStp (min (rdNum F'.2).1.toNat 5) ([], (rdNum F'.2).2) = T at *
    generalize manyR trStp 4 ([], F'.2) = T' at *
    rcases hT with ⟨rfl, hn2⟩ | ⟨hb, hb2⟩ | ⟨hb, hlen⟩
    · cases hbad : T'.2.bad with
      | true => simp
      | false =>
        have hFb : F'.2.bad = false := by
          cases h : F'.2.bad with
          | false => rfl
          | true =>
            have := manyT_bad h 5
            rw [hti, hbad] at this
            cases this
        have e1 : (F'.1.length : Int) = (rdNum r).1 := by
          have := loop_len fl_len (s := ([], (rdNum r).2)) (k := min (rdNum r).1.toNat 513) (by rw [hfl]; exact hFb)
          rw [hfl] at this
          simp at this
          omega
        have e2 : (T'.1.length : Int) = (rdNum F'.2).1 := by
          have := loop_len tr_len (s := ([], (rdNum F'.2).2)) (k := min (rdNum F'.2).1.toNat 5) (by rw [hti]; exact hbad)
          rw [hti] at this
          simp at this
          omega
        simp [e1, e2]
    · rw [if_pos (.inl hb2), if_pos (.inl hb)]
    · rw [if_pos (c := _ ∨ _ ∨ _ ∨ _ ∨ _), if_pos (.inl hb)]
      refine .inr (.inr (.inr (.inr ?_)))
      cases h : staR ⟨x, y, z, m, F'.1, T.1⟩ with
      | false => rfl
      | true =>
        have := (staR_few h).2
        simp only at this
        omega
  · have h1 : (manyR trStp 4 ([], F'.2)).2.bad = true := many_bad hb
    rw [if_pos (.inl (manyT_bad hb2 5)), if_pos (.inl h1)]
  · have h1 : (manyR trStp 4 ([], F'.2)).2.bad = true := many_bad hb
    rw [if_pos (c := _ ∨ _ ∨ _ ∨ _ ∨ _), if_pos (.inl h1)]
    refine .inr (.inr (.inr (.inr ?_)))
    cases h : staR ⟨x, y, z, m, F.1, (loopR trStp (min (rdNum F.2).1.toNat 5) ([], (rdNum F.2).2)).1⟩ with
    | false => rfl
    | true =>
      have := (staR_few h).1
      simp only at this
      omega
/-- The document reads what manifest.Read reads. -/
theorem refRd_alike (l : List UInt8) : refRd l = staRd l := by
  unfold refRd staRd
  split
  · rfl
  · unfold refHead staFrom
    generalize (rdNum (rdNum (rdNum ⟨(openR l).2.1, false⟩).2).2).2 = r3
    split
    · rename_i h
      rw [staTail_bad]
      unfold rdMark
      simp only
      rcases h with h | h
      · simp [h]
      · simp [h]
    · rename_i h
      have h1 : (markR r3.l).2.2 = 0 := by
        by_cases h1 : (markR r3.l).2.2 = 0
        · exact h1
        · exact absurd (.inl h1) h
      have h2 : r3.bad = false := by
        cases h2 : r3.bad with
        | false => rfl
        | true => exact absurd (.inr h2) h
      rw [refFrom_alike]
      unfold rdMark
      simp only [h1, h2]
      rfl
end Go.Proofs.YtgdgjnecgelalaaGreatDoor
