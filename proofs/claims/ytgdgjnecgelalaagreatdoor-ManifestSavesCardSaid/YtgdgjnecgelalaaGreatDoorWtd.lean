/- Water marks: read (water's and the document's). -/
import Derived.Test.YtgdgjnecgelalaaGreatDoorBox
namespace Go.Proofs.YtgdgjnecgelalaaGreatDoor
open Go.RowKit Go.Sort Go.Lib

/-- A slice of bytes, whole. -/
structure SlB (w : World) (a : Option Addr) (n c : Nat) (l : List UInt8) : Prop where
  src : Src w 1 (.slice a n c) n (u8s l)
  le : n ≤ c
  few : n < 4611686018427387904
theorem SlB.len {w : World} {a : Option Addr} {n c : Nat} {l : List UInt8} (h : SlB w a n c l) : l.length = n := u8s_src_len h.src
theorem SlB.ext {w w' : World} {a : Option Addr} {n c : Nat} {l : List UInt8} (h : SlB w a n c l) (hx : Ext w w') : SlB w' a n c l := ⟨h.src.ext hx, h.le, h.few⟩
theorem SlB.cut {w : World} {a : Option Addr} {n c k : Nat} {l : List UInt8} (h : SlB w a n c l) (hk : k ≤ n) : SlB w (cutA a c k) (n - k) (c - k) (l.drop k) := by
  refine ⟨?_, by have := h.le; omega, by have := h.few; omega⟩
  have hl := u8s_src_len h.src
  have := src_cut (h := n) (l := k) (m := c) h.src hk (Nat.le_refl _) h.le (Nat.le_refl _)
  rw [show u8s (l.drop k) = ((u8s l).drop k).take (n - k) by simp only [u8s]; rw [← List.map_drop, List.take_of_length_le (by simp; omega)]]
  exact this
theorem Ext.keep {w w' : World} {b : Nat} {o : Obj} (hx : Ext w w') (h : w.heap[b]? = some o) : w'.heap[b]? = some o := (hx.block (block_lt h)).trans h
theorem Ext.stored {w w1 w2 : World} {b : Nat} (h : Ext w w1) (hc : Chg (· = b) w1 w2) (hb : w.heap.size ≤ b) : Ext w w2 := ((Chg.of_ext h).trans hc (fun _ _ e => e)).ext (fun i hi e => by omega)

def i64n (u : Nat) : Int := wrap64 (u : Int)
def Mk.zero : Mk := ⟨false, 0, 0⟩
/-- What a mark's bytes tell: the mark, how many bytes, the fault. -/
def markE (x : Int) : Mk × Nat × Int := (Mk.zero, 0, x)
def markIf (m : Mk) (k : Nat) : Mk × Nat × Int := if mkR m = true then (m, k, 0) else markE 11
def markD (l : List UInt8) (g : Int) (k : Nat) : Mk × Nat × Int :=
  if (varR (l.drop k)).2.2 ≠ 0 then markE (varR (l.drop k)).2.2 else markIf ⟨true, zag (varR (l.drop k)).1, g⟩ (k + (varR (l.drop k)).2.1)
def markC (l : List UInt8) (g : Int) (k : Nat) : Mk × Nat × Int :=
  if (varR (l.drop k)).2.2 ≠ 0 then markE (varR (l.drop k)).2.2
  else if (varR (l.drop k)).1 = 0 then markIf ⟨false, 0, g⟩ (k + (varR (l.drop k)).2.1)
  else if (varR (l.drop k)).1 = 1 then markD l g (k + (varR (l.drop k)).2.1)
  else markE 11
def markR (l : List UInt8) : Mk × Nat × Int := if (varR l).2.2 ≠ 0 then markE (varR l).2.2 else markC l (i64n (varR l).1) (varR l).2.1

def MarkTo (w : World) (r : Mk × Nat × Int) (e : Ending) (w' : World) : Prop := e = .returned (.tuple #[r.1.val, .int .i64 (r.2.1 : Int), .int .i64 r.2.2]) ∧ Ext w w'

theorem results_box_tmp2 {P : Program} {fn : Func} {p u v : Tmp} {ty t : TypeId} {b : Nat} {cells : Array Value} {fr : Nat × Nat} {d : TypeDesc} (h : fn.results = #[.cell p ty, .tmp u, .tmp v]) (tmps : Array Value) (w : World)
    (hp : tmps.getD p undef = .pointer (some ⟨b, 0, none⟩)) (hb : w.heap[b]? = some (.cells cells t fr)) (hu : P.underlying ty = some d) (hd : d.isRow = true) (hi : (P.info? ty).map (·.size) = some cells.size) :
    (results fn tmps).run P w = .ok (.tuple #[.agg cells, tmps.getD u undef, tmps.getD v undef]) w := by
  have := run_loadVar_mid (P := P) w b 0 ty cells.toList d (by simpa using World.rangeAt_of_block hb 0 cells.size) hu hd (by simpa using hi)
  have hp' : tmps[p]?.getD undef = .pointer (some ⟨b, 0, none⟩) := by simpa using hp
  simp only [results, h]
  simp [Sem.run_bind, hp', asAddr, Result.andThen, this]

theorem mark_info : (Tryz.prog.info? 36).map (·.size) = some 3 := by kernel_rfl

set_option maxHeartbeats 8000000 in
set_option maxRecDepth 100000 in
theorem waterRead_any (w : World) (a : Option Addr) (n c : Nat) (l : List UInt8) (hl : SlB w a n c l) (hg : HasET w) :
    Calls Tryz.prog 77 #[.slice a n c] w (MarkTo w (markR l)) := by
  have HL := Lib.hid hl
  have HG := Lib.hid hg
  have hlen := hl.len
  have hv := varR_bounds l
  obtain ⟨u, k, x, hV⟩ : ∃ u k x, varR l = (u, k, x) := ⟨_, _, _, rfl⟩
  have HR : Hid (markR l = if x ≠ 0 then markE x else markC l (i64n u) k) := Lib.hid (by unfold markR; rw [hV])
  have HV := Lib.hid hV
  rw [hV] at hv
  obtain ⟨hv1, hv2, hv3, -⟩ := hv
  simp only at hv1 hv2 hv3
  have hkn : k ≤ n := by omega
  have HLEN := Lib.hid hlen
  clear hV hg hl hlen hv2
  by_cases hx : x = 0
  · subst hx
    have HR1 : Hid (markR l = markC l (i64n u) k) := Lib.hid (by rw [HR.out, if_neg (by simp)])
    have HSL := Lib.hid (HL.out.cut hkn)
    have hs1 := run_slice_lo Tryz.underlying56 sz_u8 a n c k hkn
    have hv := varR_bounds (l.drop k)
    have HZ := Lib.hid (varR_zero (l := l.drop k))
    obtain ⟨f, j, y, hV⟩ : ∃ f j y, varR (l.drop k) = (f, j, y) := ⟨_, _, _, rfl⟩
    have HC : Hid (markC l (i64n u) k = if y ≠ 0 then markE y else if f = 0 then markIf ⟨false, 0, i64n u⟩ (k + j) else if f = 1 then markD l (i64n u) (k + j) else markE 11) := Lib.hid (by unfold markC; rw [hV])
    have HV2 := Lib.hid hV
    rw [hV] at hv HZ
    obtain ⟨hw1, hw2, hw3, -⟩ := hv
    simp only at hw1 hw2 hw3 HZ
    rw [List.length_drop, HLEN.out] at hw2
    have hjn : k + j ≤ n := by omega
    have HSL2 := Lib.hid (HL.out.cut hjn)
    have hs2 : ∀ W, (Instr.slice 56 (.slice a n c) (some (.int .i64 ((k : Int) + (j : Int)))) none none).run Tryz.prog W = .ok (.slice (cutA a c (k + j)) (n - (k + j)) (c - (k + j))) W := fun W => by
      have := run_slice_lo Tryz.underlying56 sz_u8 a n c (k + j) hjn W
      rw [Int.natCast_add] at this
      exact this
    have HI : Hid (wrap64 (u : Int) = i64n u) := Lib.hid rfl
    generalize i64n u = g at *
    have hgw := HI.out
    clear hV hw2 HR HI
    have hkj : (k : Int) + (j : Int) = ((k + j : Nat) : Int) := by omega
    have HKJ := Lib.hid hkj
    clear hkj
    generalize cutA a c k = a1 at *
    generalize n - k = n1 at *
    generalize c - k = c1 at *
    generalize cutA a c (k + j) = a2 at *
    generalize n - (k + j) = n2 at *
    generalize c - (k + j) = c2 at *
    by_cases hy : y = 0
    · subst hy
      clear HZ
      by_cases hf : f = 1
      · subst hf
        have HR2 : Hid (markR l = markD l g (k + j)) := Lib.hid (by rw [HR1.out, HC.out, if_neg (by simp), if_neg (by simp), if_pos rfl])
        clear HR1 HC
        have hv := varR_bounds (l.drop (k + j))
        obtain ⟨t, m, z, hV⟩ : ∃ t m z, varR (l.drop (k + j)) = (t, m, z) := ⟨_, _, _, rfl⟩
        have HC : Hid (markD l g (k + j) = if z ≠ 0 then markE z else markIf ⟨true, zag t, g⟩ (k + j + m)) := Lib.hid (by unfold markD; rw [hV])
        rw [hV] at hv
        obtain ⟨hw1, -, hw3, -⟩ := hv
        simp only at hw1 hw3
        have HV3 := Lib.hid hV
        clear hV
        have HSUM : Hid ((k : Int) + (j : Int) + (m : Int) = ((k + j + m : Nat) : Int)) := Lib.hid (by omega)
        by_cases hz : z = 0
        · as_aux_lemma =>
            subst hz
            have HR3 : Hid (markR l = markIf ⟨true, zag t, g⟩ (k + j + m)) := Lib.hid (by rw [HR2.out, HC.out, if_neg (by simp)])
            clear HR2 HC
            obtain ⟨zt, hzt⟩ : ∃ zt, zt = zag t := ⟨_, rfl⟩
            rw [← hzt] at HR3
            have HZT := Lib.hid hzt
            clear hzt
            (
                go_enter Tryz.func77, Tryz.ntmps77
                go_wp2_with fail
                refine (varRead_any _ a n c l (HL.out.src.ext ((Ext.refl w).alloc _)) HL.out.few (HG.out.ext ((Ext.refl w).alloc _))).mono ?_
                rw [HV.out]
                have HBX := Lib.hid (heap_alloc_new w (.cells #[.bool false, .int .i64 0, .int .i64 0] 36 (0, 0)))
                have HX := Lib.hid ((Ext.refl w).alloc (.cells #[.bool false, .int .i64 0, .int .i64 0] 36 (0, 0)))
                (rintro e' wn ⟨rfl, hx1⟩; replace HBX := Lib.hid (hx1.keep HBX.out); replace HX := Lib.hid (HX.out.trans hx1); (try clear f0 f1 f2); have f0 := cell_of_block HBX.out 0; have f1 := cell_of_block HBX.out 1; have f2 := cell_of_block HBX.out 2; clear hx1)
                go_wp2_with (first | (refine wpList_store_box rfl _ _ _ rfl _ _ _ _ rfl rfl HBX.out rfl mark_info (by simp [Value.oneCell']) ?_; rintro wx hbx hcx; replace HBX := Lib.hid hbx; replace HX := Lib.hid (HX.out.stored hcx (Nat.le_refl _)); (try clear f0 f1 f2); have f0 := cell_of_block hbx 0; have f1 := cell_of_block hbx 1; have f2 := cell_of_block hbx 2; clear hbx hcx))
                refine (varRead_any _ a1 n1 c1 (l.drop k) (HSL.out.src.ext HX.out) HSL.out.few (HG.out.ext HX.out)).mono ?_
                rw [HV2.out]
                (rintro e' wn ⟨rfl, hx1⟩; replace HBX := Lib.hid (hx1.keep HBX.out); replace HX := Lib.hid (HX.out.trans hx1); (try clear f0 f1 f2); have f0 := cell_of_block HBX.out 0; have f1 := cell_of_block HBX.out 1; have f2 := cell_of_block HBX.out 2; clear hx1)
                go_wp2_with (first | (refine wpList_store_box rfl _ _ _ rfl _ _ _ _ rfl rfl HBX.out rfl mark_info (by simp [Value.oneCell']) ?_; rintro wx hbx hcx; replace HBX := Lib.hid hbx; replace HX := Lib.hid (HX.out.stored hcx (Nat.le_refl _)); (try clear f0 f1 f2); have f0 := cell_of_block hbx 0; have f1 := cell_of_block hbx 1; have f2 := cell_of_block hbx 2; clear hbx hcx)))
            refine (varReadInt_any _ a2 n2 c2 (l.drop (k + j)) (HSL2.out.src.ext HX.out) HSL2.out.few (HG.out.ext HX.out)).mono ?_
            rw [HV3.out]
            simp only
            rw [← HZT.out]
            (rintro e' wn ⟨rfl, hx1⟩; replace HBX := Lib.hid (hx1.keep HBX.out); replace HX := Lib.hid (HX.out.trans hx1); (try clear f0 f1 f2); have f0 := cell_of_block HBX.out 0; have f1 := cell_of_block HBX.out 1; have f2 := cell_of_block HBX.out 2; clear hx1)
            have z1 := free_of_block HBX.out 1
            go_wp2_with (first | (refine wpList_store_box rfl _ _ _ rfl _ _ _ _ rfl rfl HBX.out rfl mark_info (by simp [Value.oneCell']) ?_; rintro wx hbx hcx; replace HBX := Lib.hid hbx; replace HX := Lib.hid (HX.out.stored hcx (Nat.le_refl _)); (try clear f0 f1 f2); have f0 := cell_of_block hbx 0; have f1 := cell_of_block hbx 1; have f2 := cell_of_block hbx 2; clear hbx hcx))
            have HBX2 := Lib.hid (setCell_block HBX.out (i := 1) (.int .i64 zt))
            have HX2 := Lib.hid (HX.out.setCell (p := ⟨w.heap.size, 1, none⟩) (Nat.le_refl _) (.int .i64 zt))
            clear z1 f0 f1 f2
            generalize World.setCell _ _ _ = w5 at *
            clear HBX HX
            have HBX : Hid (w5.heap[w.heap.size]? = some (.cells #[.bool true, .int .i64 zt, .int .i64 g] 36 (0, 0))) := Lib.hid (by have := HBX2.out; simpa using this)
            have HX := HX2
            clear HX2 HBX2
            have HRI := Lib.hid (markRight_any ⟨true, zt, g⟩ w5)
            obtain ⟨R, hR⟩ : ∃ R, mkR ⟨true, zt, g⟩ = R := ⟨_, rfl⟩
            rw [hR] at HRI
            have HF : Hid (markR l = if R = true then (⟨true, zt, g⟩, k + j + m, 0) else markE 11) := Lib.hid (by rw [HR3.out]; unfold markIf; rw [hR])
            clear hR
            refine HRI.out.mono ?_
            cases R
            · (rintro e' wn ⟨rfl, hx1⟩; replace HBX := Lib.hid (hx1.keep HBX.out); replace HX := Lib.hid (HX.out.trans hx1); (try clear f0 f1 f2); have f0 := cell_of_block HBX.out 0; have f1 := cell_of_block HBX.out 1; have f2 := cell_of_block HBX.out 2; clear hx1)
              go_wp2_with (first | (refine wpList_store_box rfl _ _ _ rfl _ _ _ _ rfl rfl HBX.out rfl mark_info (by simp [Value.oneCell']) ?_; rintro wx hbx hcx; replace HBX := Lib.hid hbx; replace HX := Lib.hid (HX.out.stored hcx (Nat.le_refl _)); (try clear f0 f1 f2); have f0 := cell_of_block hbx 0; have f1 := cell_of_block hbx 1; have f2 := cell_of_block hbx 2; clear hbx hcx))
              refine bodyPost_ret (results_box_tmp2 Tryz.results77 _ _ rfl HBX.out Tryz.underlying36 rfl mark_info) rfl ⟨?_, HX.out⟩
              rw [HF.out]
              rfl
            · (rintro e' wn ⟨rfl, hx1⟩; replace HBX := Lib.hid (hx1.keep HBX.out); replace HX := Lib.hid (HX.out.trans hx1); (try clear f0 f1 f2); have f0 := cell_of_block HBX.out 0; have f1 := cell_of_block HBX.out 1; have f2 := cell_of_block HBX.out 2; clear hx1)
              go_wp2_with (first | (refine wpList_store_box rfl _ _ _ rfl _ _ _ _ rfl rfl HBX.out rfl mark_info (by simp [Value.oneCell']) ?_; rintro wx hbx hcx; replace HBX := Lib.hid hbx; replace HX := Lib.hid (HX.out.stored hcx (Nat.le_refl _)); (try clear f0 f1 f2); have f0 := cell_of_block hbx 0; have f1 := cell_of_block hbx 1; have f2 := cell_of_block hbx 2; clear hbx hcx))
              refine bodyPost_ret (results_box_tmp2 Tryz.results77 _ _ rfl HBX.out Tryz.underlying36 rfl mark_info) rfl ⟨?_, HX.out⟩
              rw [HF.out]
              show Ending.returned (.tuple #[_, .int .i64 ((k : Int) + (j : Int) + (m : Int)), _]) = _
              rw [HSUM.out]
              rfl
        · as_aux_lemma =>
            have HR3 : Hid (markR l = markE z) := Lib.hid (by rw [HR2.out, HC.out, if_pos hz])
            have hze : (z == 0) = false := by simp [hz]
            have hzn : (z != 0) = true := by simp [hz]
            clear HR2 HC hz
            obtain ⟨zt, hzt⟩ : ∃ zt, zt = zag t := ⟨_, rfl⟩
            have HZT := Lib.hid hzt
            clear hzt
            (
                go_enter Tryz.func77, Tryz.ntmps77
                go_wp2_with fail
                refine (varRead_any _ a n c l (HL.out.src.ext ((Ext.refl w).alloc _)) HL.out.few (HG.out.ext ((Ext.refl w).alloc _))).mono ?_
                rw [HV.out]
                have HBX := Lib.hid (heap_alloc_new w (.cells #[.bool false, .int .i64 0, .int .i64 0] 36 (0, 0)))
                have HX := Lib.hid ((Ext.refl w).alloc (.cells #[.bool false, .int .i64 0, .int .i64 0] 36 (0, 0)))
                (rintro e' wn ⟨rfl, hx1⟩; replace HBX := Lib.hid (hx1.keep HBX.out); replace HX := Lib.hid (HX.out.trans hx1); (try clear f0 f1 f2); have f0 := cell_of_block HBX.out 0; have f1 := cell_of_block HBX.out 1; have f2 := cell_of_block HBX.out 2; clear hx1)
                go_wp2_with (first | (refine wpList_store_box rfl _ _ _ rfl _ _ _ _ rfl rfl HBX.out rfl mark_info (by simp [Value.oneCell']) ?_; rintro wx hbx hcx; replace HBX := Lib.hid hbx; replace HX := Lib.hid (HX.out.stored hcx (Nat.le_refl _)); (try clear f0 f1 f2); have f0 := cell_of_block hbx 0; have f1 := cell_of_block hbx 1; have f2 := cell_of_block hbx 2; clear hbx hcx))
                refine (varRead_any _ a1 n1 c1 (l.drop k) (HSL.out.src.ext HX.out) HSL.out.few (HG.out.ext HX.out)).mono ?_
                rw [HV2.out]
                (rintro e' wn ⟨rfl, hx1⟩; replace HBX := Lib.hid (hx1.keep HBX.out); replace HX := Lib.hid (HX.out.trans hx1); (try clear f0 f1 f2); have f0 := cell_of_block HBX.out 0; have f1 := cell_of_block HBX.out 1; have f2 := cell_of_block HBX.out 2; clear hx1)
                go_wp2_with (first | (refine wpList_store_box rfl _ _ _ rfl _ _ _ _ rfl rfl HBX.out rfl mark_info (by simp [Value.oneCell']) ?_; rintro wx hbx hcx; replace HBX := Lib.hid hbx; replace HX := Lib.hid (HX.out.stored hcx (Nat.le_refl _)); (try clear f0 f1 f2); have f0 := cell_of_block hbx 0; have f1 := cell_of_block hbx 1; have f2 := cell_of_block hbx 2; clear hbx hcx)))
            refine (varReadInt_any _ a2 n2 c2 (l.drop (k + j)) (HSL2.out.src.ext HX.out) HSL2.out.few (HG.out.ext HX.out)).mono ?_
            rw [HV3.out]
            simp only
            rw [← HZT.out]
            (rintro e' wn ⟨rfl, hx1⟩; replace HBX := Lib.hid (hx1.keep HBX.out); replace HX := Lib.hid (HX.out.trans hx1); (try clear f0 f1 f2); have f0 := cell_of_block HBX.out 0; have f1 := cell_of_block HBX.out 1; have f2 := cell_of_block HBX.out 2; clear hx1)
            have z1 := free_of_block HBX.out 1
            go_upto_region 10 with fail
            have HBX2 := Lib.hid (setCell_block HBX.out (i := 1) (.int .i64 zt))
            have HX2 := Lib.hid (HX.out.setCell (p := ⟨w.heap.size, 1, none⟩) (Nat.le_refl _) (.int .i64 zt))
            clear z1 f0 f1 f2
            generalize World.setCell _ _ _ = w5 at *
            clear HBX HX
            have HBX : Hid (w5.heap[w.heap.size]? = some (.cells #[.bool true, .int .i64 zt, .int .i64 g] 36 (0, 0))) := Lib.hid (by have := HBX2.out; simpa using this)
            have HX := HX2
            clear HX2 HBX2
            go_wp2_with (first | (refine wpList_store_box rfl _ _ _ rfl _ _ _ _ rfl rfl HBX.out rfl mark_info (by simp [Value.oneCell']) ?_; rintro wx hbx hcx; replace HBX := Lib.hid hbx; replace HX := Lib.hid (HX.out.stored hcx (Nat.le_refl _)); (try clear f0 f1 f2); have f0 := cell_of_block hbx 0; have f1 := cell_of_block hbx 1; have f2 := cell_of_block hbx 2; clear hbx hcx))
            refine bodyPost_ret (results_box_tmp2 Tryz.results77 _ _ rfl HBX.out Tryz.underlying36 rfl mark_info) rfl ⟨?_, HX.out⟩
            rw [HR3.out]
            rfl
      · by_cases hf0 : f = 0
        · as_aux_lemma =>
            subst hf0
            have HR2 : Hid (markR l = markIf ⟨false, 0, g⟩ (k + j)) := Lib.hid (by rw [HR1.out, HC.out, if_neg (by simp), if_pos rfl])
            clear HR1 HC hf
            (
                go_enter Tryz.func77, Tryz.ntmps77
                go_wp2_with fail
                refine (varRead_any _ a n c l (HL.out.src.ext ((Ext.refl w).alloc _)) HL.out.few (HG.out.ext ((Ext.refl w).alloc _))).mono ?_
                rw [HV.out]
                have HBX := Lib.hid (heap_alloc_new w (.cells #[.bool false, .int .i64 0, .int .i64 0] 36 (0, 0)))
                have HX := Lib.hid ((Ext.refl w).alloc (.cells #[.bool false, .int .i64 0, .int .i64 0] 36 (0, 0)))
                (rintro e' wn ⟨rfl, hx1⟩; replace HBX := Lib.hid (hx1.keep HBX.out); replace HX := Lib.hid (HX.out.trans hx1); (try clear f0 f1 f2); have f0 := cell_of_block HBX.out 0; have f1 := cell_of_block HBX.out 1; have f2 := cell_of_block HBX.out 2; clear hx1)
                go_wp2_with (first | (refine wpList_store_box rfl _ _ _ rfl _ _ _ _ rfl rfl HBX.out rfl mark_info (by simp [Value.oneCell']) ?_; rintro wx hbx hcx; replace HBX := Lib.hid hbx; replace HX := Lib.hid (HX.out.stored hcx (Nat.le_refl _)); (try clear f0 f1 f2); have f0 := cell_of_block hbx 0; have f1 := cell_of_block hbx 1; have f2 := cell_of_block hbx 2; clear hbx hcx))
                refine (varRead_any _ a1 n1 c1 (l.drop k) (HSL.out.src.ext HX.out) HSL.out.few (HG.out.ext HX.out)).mono ?_
                rw [HV2.out]
                (rintro e' wn ⟨rfl, hx1⟩; replace HBX := Lib.hid (hx1.keep HBX.out); replace HX := Lib.hid (HX.out.trans hx1); (try clear f0 f1 f2); have f0 := cell_of_block HBX.out 0; have f1 := cell_of_block HBX.out 1; have f2 := cell_of_block HBX.out 2; clear hx1)
                go_wp2_with (first | (refine wpList_store_box rfl _ _ _ rfl _ _ _ _ rfl rfl HBX.out rfl mark_info (by simp [Value.oneCell']) ?_; rintro wx hbx hcx; replace HBX := Lib.hid hbx; replace HX := Lib.hid (HX.out.stored hcx (Nat.le_refl _)); (try clear f0 f1 f2); have f0 := cell_of_block hbx 0; have f1 := cell_of_block hbx 1; have f2 := cell_of_block hbx 2; clear hbx hcx)))
            have HRI := Lib.hid (fun w5 => markRight_any ⟨false, 0, g⟩ w5)
            obtain ⟨R, hR⟩ : ∃ R, mkR ⟨false, 0, g⟩ = R := ⟨_, rfl⟩
            rw [hR] at HRI
            have HF : Hid (markR l = if R = true then (⟨false, 0, g⟩, k + j, 0) else markE 11) := Lib.hid (by rw [HR2.out]; unfold markIf; rw [hR])
            clear hR
            refine (HRI.out _).mono ?_
            cases R
            · (rintro e' wn ⟨rfl, hx1⟩; replace HBX := Lib.hid (hx1.keep HBX.out); replace HX := Lib.hid (HX.out.trans hx1); (try clear f0 f1 f2); have f0 := cell_of_block HBX.out 0; have f1 := cell_of_block HBX.out 1; have f2 := cell_of_block HBX.out 2; clear hx1)
              go_wp2_with (first | (refine wpList_store_box rfl _ _ _ rfl _ _ _ _ rfl rfl HBX.out rfl mark_info (by simp [Value.oneCell']) ?_; rintro wx hbx hcx; replace HBX := Lib.hid hbx; replace HX := Lib.hid (HX.out.stored hcx (Nat.le_refl _)); (try clear f0 f1 f2); have f0 := cell_of_block hbx 0; have f1 := cell_of_block hbx 1; have f2 := cell_of_block hbx 2; clear hbx hcx))
              refine bodyPost_ret (results_box_tmp2 Tryz.results77 _ _ rfl HBX.out Tryz.underlying36 rfl mark_info) rfl ⟨?_, HX.out⟩
              rw [HF.out]
              rfl
            · (rintro e' wn ⟨rfl, hx1⟩; replace HBX := Lib.hid (hx1.keep HBX.out); replace HX := Lib.hid (HX.out.trans hx1); (try clear f0 f1 f2); have f0 := cell_of_block HBX.out 0; have f1 := cell_of_block HBX.out 1; have f2 := cell_of_block HBX.out 2; clear hx1)
              go_wp2_with (first | (refine wpList_store_box rfl _ _ _ rfl _ _ _ _ rfl rfl HBX.out rfl mark_info (by simp [Value.oneCell']) ?_; rintro wx hbx hcx; replace HBX := Lib.hid hbx; replace HX := Lib.hid (HX.out.stored hcx (Nat.le_refl _)); (try clear f0 f1 f2); have f0 := cell_of_block hbx 0; have f1 := cell_of_block hbx 1; have f2 := cell_of_block hbx 2; clear hbx hcx))
              refine bodyPost_ret (results_box_tmp2 Tryz.results77 _ _ rfl HBX.out Tryz.underlying36 rfl mark_info) rfl ⟨?_, HX.out⟩
              rw [HF.out]
              show Ending.returned (.tuple #[_, .int .i64 ((k : Int) + (j : Int)), _]) = _
              rw [HKJ.out]
              rfl
        · as_aux_lemma =>
            have HR2 : Hid (markR l = markE 11) := Lib.hid (by rw [HR1.out, HC.out, if_neg (by simp), if_neg hf0, if_neg hf])
            have hfe : ((f : Int) == 1) = false := by simp; omega
            have hfg : (1 : Int) < (f : Int) := by omega
            clear HR1 HC hf hf0
            (
                go_enter Tryz.func77, Tryz.ntmps77
                go_wp2_with fail
                refine (varRead_any _ a n c l (HL.out.src.ext ((Ext.refl w).alloc _)) HL.out.few (HG.out.ext ((Ext.refl w).alloc _))).mono ?_
                rw [HV.out]
                have HBX := Lib.hid (heap_alloc_new w (.cells #[.bool false, .int .i64 0, .int .i64 0] 36 (0, 0)))
                have HX := Lib.hid ((Ext.refl w).alloc (.cells #[.bool false, .int .i64 0, .int .i64 0] 36 (0, 0)))
                (rintro e' wn ⟨rfl, hx1⟩; replace HBX := Lib.hid (hx1.keep HBX.out); replace HX := Lib.hid (HX.out.trans hx1); (try clear f0 f1 f2); have f0 := cell_of_block HBX.out 0; have f1 := cell_of_block HBX.out 1; have f2 := cell_of_block HBX.out 2; clear hx1)
                go_wp2_with (first | (refine wpList_store_box rfl _ _ _ rfl _ _ _ _ rfl rfl HBX.out rfl mark_info (by simp [Value.oneCell']) ?_; rintro wx hbx hcx; replace HBX := Lib.hid hbx; replace HX := Lib.hid (HX.out.stored hcx (Nat.le_refl _)); (try clear f0 f1 f2); have f0 := cell_of_block hbx 0; have f1 := cell_of_block hbx 1; have f2 := cell_of_block hbx 2; clear hbx hcx))
                refine (varRead_any _ a1 n1 c1 (l.drop k) (HSL.out.src.ext HX.out) HSL.out.few (HG.out.ext HX.out)).mono ?_
                rw [HV2.out]
                (rintro e' wn ⟨rfl, hx1⟩; replace HBX := Lib.hid (hx1.keep HBX.out); replace HX := Lib.hid (HX.out.trans hx1); (try clear f0 f1 f2); have f0 := cell_of_block HBX.out 0; have f1 := cell_of_block HBX.out 1; have f2 := cell_of_block HBX.out 2; clear hx1)
                go_wp2_with (first | (refine wpList_store_box rfl _ _ _ rfl _ _ _ _ rfl rfl HBX.out rfl mark_info (by simp [Value.oneCell']) ?_; rintro wx hbx hcx; replace HBX := Lib.hid hbx; replace HX := Lib.hid (HX.out.stored hcx (Nat.le_refl _)); (try clear f0 f1 f2); have f0 := cell_of_block hbx 0; have f1 := cell_of_block hbx 1; have f2 := cell_of_block hbx 2; clear hbx hcx)))
            refine bodyPost_ret (results_box_tmp2 Tryz.results77 _ _ rfl HBX.out Tryz.underlying36 rfl mark_info) rfl ⟨?_, HX.out⟩
            rw [HR2.out]
            rfl
    · as_aux_lemma =>
        obtain ⟨rfl, rfl⟩ := HZ.out hy
        have HR2 : Hid (markR l = markE y) := Lib.hid (by rw [HR1.out, HC.out, if_pos hy])
        have hye : (y == 0) = false := by simp [hy]
        have hyn : (y != 0) = true := by simp [hy]
        clear HR1 HC HZ hy
        (
            go_enter Tryz.func77, Tryz.ntmps77
            go_wp2_with fail
            refine (varRead_any _ a n c l (HL.out.src.ext ((Ext.refl w).alloc _)) HL.out.few (HG.out.ext ((Ext.refl w).alloc _))).mono ?_
            rw [HV.out]
            have HBX := Lib.hid (heap_alloc_new w (.cells #[.bool false, .int .i64 0, .int .i64 0] 36 (0, 0)))
            have HX := Lib.hid ((Ext.refl w).alloc (.cells #[.bool false, .int .i64 0, .int .i64 0] 36 (0, 0)))
            (rintro e' wn ⟨rfl, hx1⟩; replace HBX := Lib.hid (hx1.keep HBX.out); replace HX := Lib.hid (HX.out.trans hx1); (try clear f0 f1 f2); have f0 := cell_of_block HBX.out 0; have f1 := cell_of_block HBX.out 1; have f2 := cell_of_block HBX.out 2; clear hx1)
            go_wp2_with (first | (refine wpList_store_box rfl _ _ _ rfl _ _ _ _ rfl rfl HBX.out rfl mark_info (by simp [Value.oneCell']) ?_; rintro wx hbx hcx; replace HBX := Lib.hid hbx; replace HX := Lib.hid (HX.out.stored hcx (Nat.le_refl _)); (try clear f0 f1 f2); have f0 := cell_of_block hbx 0; have f1 := cell_of_block hbx 1; have f2 := cell_of_block hbx 2; clear hbx hcx))
            refine (varRead_any _ a1 n1 c1 (l.drop k) (HSL.out.src.ext HX.out) HSL.out.few (HG.out.ext HX.out)).mono ?_
            rw [HV2.out]
            (rintro e' wn ⟨rfl, hx1⟩; replace HBX := Lib.hid (hx1.keep HBX.out); replace HX := Lib.hid (HX.out.trans hx1); (try clear f0 f1 f2); have f0 := cell_of_block HBX.out 0; have f1 := cell_of_block HBX.out 1; have f2 := cell_of_block HBX.out 2; clear hx1)
            go_wp2_with (first | (refine wpList_store_box rfl _ _ _ rfl _ _ _ _ rfl rfl HBX.out rfl mark_info (by simp [Value.oneCell']) ?_; rintro wx hbx hcx; replace HBX := Lib.hid hbx; replace HX := Lib.hid (HX.out.stored hcx (Nat.le_refl _)); (try clear f0 f1 f2); have f0 := cell_of_block hbx 0; have f1 := cell_of_block hbx 1; have f2 := cell_of_block hbx 2; clear hbx hcx)))
        refine bodyPost_ret (results_box_tmp2 Tryz.results77 _ _ rfl HBX.out Tryz.underlying36 rfl mark_info) rfl ⟨?_, HX.out⟩
        rw [HR2.out]
        rfl
  · as_aux_lemma =>
      have HR2 : Hid (markR l = markE x) := Lib.hid (by rw [HR.out, if_pos hx])
      have hne : (x != 0) = true := by simp [hx]
      clear HR hx
      go_enter Tryz.func77, Tryz.ntmps77
      go_wp2_with fail
      refine (varRead_any _ a n c l (HL.out.src.ext ((Ext.refl w).alloc _)) HL.out.few (HG.out.ext ((Ext.refl w).alloc _))).mono ?_
      rw [HV.out]
      rintro e' w1 ⟨rfl, hx1⟩
      have HBX := Lib.hid hx1.newBlock
      have HX := Lib.hid (((Ext.refl w).alloc _).trans hx1)
      clear hx1
      go_wp2_with (first | (refine wpList_store_box rfl _ _ _ rfl _ _ _ _ rfl rfl HBX.out rfl mark_info (by simp [Value.oneCell']) ?_; rintro wx hbx hcx; replace HBX := Lib.hid hbx; replace HX := Lib.hid (HX.out.stored hcx (Nat.le_refl _)); (try clear f0 f1 f2); have f0 := cell_of_block hbx 0; have f1 := cell_of_block hbx 1; have f2 := cell_of_block hbx 2; clear hbx hcx))
      rw [HR2.out]
      exact bodyPost_ret (results_box_tmp2 Tryz.results77 _ _ rfl HBX.out Tryz.underlying36 rfl mark_info) rfl ⟨rfl, HX.out⟩
end Go.Proofs.YtgdgjnecgelalaaGreatDoor
