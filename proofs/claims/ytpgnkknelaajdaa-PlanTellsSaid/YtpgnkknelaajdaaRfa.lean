/- tidemillref26.All. -/
import Derived.Test.YtpgnkknelaajdaaBsa
import Derived.Test.YtpgnkknelaajdaaRfc
namespace Go.Proofs.Ytpgnkknelaajdaa
open Go.RowKit Go.Sort Go.Lib

theorem elem_rch : ElemOk Try.prog 30 36 3 24 :=
  ⟨Try.underlying30, by
    obtain ⟨i0, hi, hz0, hz1, hz2⟩ := info_parts (show (Try.prog.info? 36).map (fun i => (i.zero, i.size, i.bytes)) = some (some (.agg #[.int .i64 0, .int .i64 0, .int .i64 0]), 3, 24) from by kernel_rfl)
    exact ⟨i0, _, hi, hz0, hz1, hz2, rfl⟩, by decide⟩

structure RChTo (w : World) (m : Nat) (out : List Pt) (v : Value) (w' : World) : Prop where
  row : Row w' 36 3 v m (pts out)
  own : ∀ g, v.ownBlock = some g → w.heap.size ≤ g
  ext : Ext w w'
theorem RChTo.snoc {w W w3 : World} {m : Nat} {out : List Pt} {v v' : Value} {p : Pt} (h : RChTo w m out v W) {W' : World} (hx : Ext W W') (ha : Appended W' 36 3 v (m + 1) (pts out ++ pts [p]) v' w3) : RChTo w (m + 1) (out ++ [p]) v' w3 := by
  have hs := h.ext.size
  have hs2 := hx.size
  refine ⟨by rw [pts_append]; exact ha.row, fun g hg => ?_, Chg.ext ((Chg.of_ext (h.ext.trans hx)).trans ha.chg (fun _ _ h => h)) (fun i hi e => ?_)⟩
  · rcases ha.loc with e | e
    · exact h.own g (e ▸ hg)
    · rw [e] at hg; cases hg; omega
  · have := h.own i e; omega
theorem RChTo.next {w W W' : World} {m : Nat} {out : List Pt} {v : Value} (h : RChTo w m out v W) (hx : Ext W W') : RChTo w m out v W' := ⟨h.row.ext hx, h.own, h.ext.trans hx⟩

set_option maxHeartbeats 2000000 in
set_option maxRecDepth 100000 in
theorem refAll_bad (op fn : Int) (ser oth : ByteArray) (fr to wd st off gap tol fill : Int) (hse : ser.size ≤ maxLen) (hot : oth.size ≤ maxLen) (low : Int) (w : World) (a : Option Addr) (n c : Nat) (he : allErr op fn ser oth fr to wd st off gap tol fill low ≠ 0) :
    Calls Try.prog 7 #[qV op fn ser oth fr to wd st off gap tol fill, .slice a n c, .int .i64 low] w fun e w' => e = .returned (.tuple #[.slice none 0 0, .int .i64 (allErr op fn ser oth fr to wd st off gap tol fill low)]) ∧ Ext w w' := by
  have HCK := Lib.hid (fun W => refCheck_any op fn ser oth fr to wd st off gap tol fill hse hot W)
  have HE : Hid (allErr op fn ser oth fr to wd st off gap tol fill low = if planCheckB op fn ser oth fr to wd st off gap tol fill = false then 23 else if low < -1152921504606846976 ∨ 1152921504606846976 < low then 2 else 0) := rfl
  have HP : Hid (planCheckB op fn ser oth fr to wd st off gap tol fill = (checkB op fn ser oth fr to wd st off gap tol fill && decide (op = 1))) := rfl
  clear hse hot
  unfold qV at *
  generalize checkB op fn ser oth fr to wd st off gap tol fill = cb at *
  generalize planCheckB op fn ser oth fr to wd st off gap tol fill = pb at *
  generalize allErr op fn ser oth fr to wd st off gap tol fill low = er at *
  have enter : True := trivial
  cases cb
  case false =>
    obtain rfl : pb = false := by rw [HP.out]; rfl
    obtain rfl : er = 23 := by rw [HE.out]; rfl
    simp only [Bool.false_eq_true, if_false] at HCK
    clear HE HP he enter
    go_enter Try.func7, Try.ntmps7
    go_wp2_with (go_at_call 17; refine (HCK.out _).mono ?_; rintro e w1 ⟨rfl, hx1⟩; have HX := Lib.hid (((Ext.refl w).alloc _).trans hx1); clear hx1)
    go_ret2
    exact ⟨rfl, HX.out⟩
  simp only [if_true] at HCK
  by_cases hop : op = 1
  case neg =>
    obtain rfl : pb = false := by rw [HP.out]; simp [hop]
    obtain rfl : er = 23 := by rw [HE.out]; rfl
    clear HE HP he enter
    go_enter Try.func7, Try.ntmps7
    go_wp2_with fail
    generalize hW : World.alloc _ _ = W
    have HX : Hid (Ext w W) := Lib.hid (by subst hW; exact (Ext.refl w).alloc _)
    have e0 : W.cell? ⟨w.heap.size, 0, none⟩ = some (.int .i64 op) := by subst hW; simp [go_sem]
    have hlt := World.block_lt_of_cell? W _ e0
    clear hW
    refine (HCK.out W).mono ?_
    rintro e w1 ⟨rfl, hx1⟩
    have e1 : w1.cell? ⟨w.heap.size, 0, none⟩ = some (.int .i64 op) := (hx1.cell (p := ⟨w.heap.size, 0, none⟩) hlt).trans e0
    have HX1 := Lib.hid (HX.out.trans hx1)
    clear HCK e0 hlt hx1
    go_wp2_with fail
    go_ret2
    exact ⟨rfl, HX1.out⟩
  subst hop
  obtain rfl : pb = true := by rw [HP.out]; rfl
  have hl : low < -1152921504606846976 ∨ 1152921504606846976 < low := by
    by_cases h : low < -1152921504606846976 ∨ 1152921504606846976 < low
    · exact h
    · exact absurd (by rw [HE.out]; simp [h]) he
  obtain rfl : er = 2 := by rw [HE.out]; simp [hl]
  clear HE HP he enter
  have hl2 : decide (low < -1152921504606846976) = true ∨ (decide (low < -1152921504606846976) = false ∧ decide (1152921504606846976 < low) = true) := by
    simp only [decide_eq_true_eq, decide_eq_false_iff_not]; omega
  clear hl
  go_enter Try.func7, Try.ntmps7
  go_wp2_with fail
  generalize hW : World.alloc _ _ = W
  have HX : Hid (Ext w W) := Lib.hid (by subst hW; exact (Ext.refl w).alloc _)
  have e0 : W.cell? ⟨w.heap.size, 0, none⟩ = some (.int .i64 1) := by subst hW; simp [go_sem]
  have hlt := World.block_lt_of_cell? W _ e0
  clear hW
  refine (HCK.out W).mono ?_
  rintro e w1 ⟨rfl, hx1⟩
  have e1 : w1.cell? ⟨w.heap.size, 0, none⟩ = some (.int .i64 1) := (hx1.cell (p := ⟨w.heap.size, 0, none⟩) hlt).trans e0
  have HX1 := Lib.hid (HX.out.trans hx1)
  clear HCK e0 hlt hx1
  rcases hl2 with hl2 | ⟨hl2, hl3⟩
  all_goals
    go_wp2_with fail
    go_ret2
    exact ⟨rfl, HX1.out⟩

set_option maxHeartbeats 8000000 in
set_option maxRecDepth 100000 in
theorem refAll_ok (op fn : Int) (ser oth : ByteArray) (fr to wd st off gap tol fill : Int) (hse : ser.size ≤ maxLen) (hot : oth.size ≤ maxLen) (low : Int) (w : World) (a : Option Addr) (n c : Nat) (l : List Ti) (hs : Src w 5 (.slice a n c) n (tis l)) (hn : n ≤ 4) (hfine : ∀ t ∈ l, TiFine t)
    (hck : planCheckB op fn ser oth fr to wd st off gap tol fill = true) (f1 : -1152921504606846976 ≤ fr) (f2 : fr ≤ 1152921504606846976) (g1 : -1152921504606846976 ≤ to) (g2 : to ≤ 1152921504606846976) (l1 : -1152921504606846976 ≤ low) (l2 : low ≤ 1152921504606846976) :
    Calls Try.prog 7 #[qV op fn ser oth fr to wd st off gap tol fill, .slice a n c, .int .i64 low] w fun e w' => ∃ oa m oc, e = .returned (.tuple #[.slice oa m oc, .int .i64 0]) ∧ Src w' 3 (.slice oa m oc) m (pts (choices fr to wd st off low l)) ∧ m ≤ 5 ∧ m ≤ oc ∧ Ext w w' := by
  have HS := Lib.hid hs
  have Ln := Lib.hid (tis_src_len hs)
  have HFI := Lib.hid hfine
  have hck2 : checkB op fn ser oth fr to wd st off gap tol fill = true ∧ op = 1 := by unfold planCheckB at hck; simpa using hck
  obtain ⟨hcb, rfl⟩ := hck2
  have HCK := Lib.hid (fun W => refCheck_any 1 fn ser oth fr to wd st off gap tol fill hse hot W)
  rw [hcb] at HCK
  simp only [if_true] at HCK
  clear hs hfine hck hse hot hcb
  have hnl1 : ¬ low < -1152921504606846976 := by omega
  have hnl2 : ¬ 1152921504606846976 < low := by omega
  unfold qV at *
  go_enter Try.func7, Try.ntmps7
  go_wp2_with fail
  generalize hW : World.alloc _ _ = W
  have HX : Hid (Ext w W) := Lib.hid (by subst hW; exact (Ext.refl w).alloc _)
  have BQ : Hid (qBlk W w.heap.size 1 fn ser oth fr to wd st off gap tol fill) := Lib.hid (by subst hW; exact heap_alloc_new w _)
  clear hW
  refine (HCK.out W).mono ?_
  rintro e w1 ⟨rfl, hx1⟩
  have HX1 := Lib.hid (HX.out.trans hx1)
  have BQ1 : Hid (qBlk w1 w.heap.size 1 fn ser oth fr to wd st off gap tol fill) := Lib.hid ((hx1.block (block_lt BQ.out)).trans BQ.out)
  clear hx1 HX BQ HCK
  have c0 : w1.cell? ⟨w.heap.size, 0, none⟩ = some (.int .i64 1) := by have := cell_of_block BQ1.out 0; simpa using this
  have c1 : w1.cell? ⟨w.heap.size, 1, none⟩ = some (.int .i64 fn) := by have := cell_of_block BQ1.out 1; simpa using this
  have c2 : w1.cell? ⟨w.heap.size, 2, none⟩ = some (.string ser) := by have := cell_of_block BQ1.out 2; simpa using this
  have c3 : w1.cell? ⟨w.heap.size, 3, none⟩ = some (.string oth) := by have := cell_of_block BQ1.out 3; simpa using this
  have c4 : w1.cell? ⟨w.heap.size, 4, none⟩ = some (.int .i64 fr) := by have := cell_of_block BQ1.out 4; simpa using this
  have c5 : w1.cell? ⟨w.heap.size, 5, none⟩ = some (.int .i64 to) := by have := cell_of_block BQ1.out 5; simpa using this
  have c6 : w1.cell? ⟨w.heap.size, 6, none⟩ = some (.int .i64 wd) := by have := cell_of_block BQ1.out 6; simpa using this
  have c7 : w1.cell? ⟨w.heap.size, 7, none⟩ = some (.int .i64 st) := by have := cell_of_block BQ1.out 7; simpa using this
  have c8 : w1.cell? ⟨w.heap.size, 8, none⟩ = some (.int .i64 off) := by have := cell_of_block BQ1.out 8; simpa using this
  have c9 : w1.cell? ⟨w.heap.size, 9, none⟩ = some (.int .i64 gap) := by have := cell_of_block BQ1.out 9; simpa using this
  have c10 : w1.cell? ⟨w.heap.size, 10, none⟩ = some (.int .i64 tol) := by have := cell_of_block BQ1.out 10; simpa using this
  have c11 : w1.cell? ⟨w.heap.size, 11, none⟩ = some (.int .i64 fill) := by have := cell_of_block BQ1.out 11; simpa using this
  go_wp2_with fail
  generalize hW2 : World.alloc _ _ = W2
  have HC0 : Hid (RChTo w1 1 (choices fr to wd st off low (l.take 0)) (.slice (some ⟨w1.heap.size, 0, none⟩) 1 1) W2) := Lib.hid (by
    subst hW2
    exact ⟨⟨rfl, .inr ⟨_, 1, _, rfl, Nat.zero_le _, heap_alloc_new _ _, Nat.le_refl _, by unfold maxLen; omega, rfl, rfl⟩⟩, fun g hg => by cases hg; exact Nat.le_refl _, (Ext.refl w1).alloc _⟩)
  clear hW2
  clear c0 c1 c2 c3 c4 c5 c6 c7 c8 c9 c10 c11
  go_loopw [9, 8] (fun i s wr => ∃ (j m : Nat) (oa : Option Addr) (oc : Nat), j ≤ n ∧ m ≤ j + 1 ∧ i = .int .i64 j ∧ s = .slice oa m oc ∧ Hid (RChTo w1 m (choices fr to wd st off low (l.take j)) (.slice oa m oc) wr)) (fun i _ _ => n - (RowKit.intOf i).toNat)
  case atStart => exact ⟨0, 1, _, _, by omega, by omega, rfl, rfl, HC0⟩
  case round =>
    clear HC0
    obtain ⟨j, m, oa, oc, hj, hm, rfl, rfl, I⟩ := hrel
    by_cases hlt : j < n
    · obtain ⟨tb, tof, ⟨tw, tO, tu, tm, tf⟩, rfl, ht, t0, t1, t2, t3, t4⟩ := tis_src (HS.out.ext (HX1.out.trans I.out.ext)) hlt
      simp only at t0 t1 t2 t3 t4
      have HTK := Lib.hid (take_snoc5 ht)
      have HTL : Hid ((l.take j).length = j) := Lib.hid (by rw [List.length_take, Nat.min_eq_left (by rw [Ln.out]; exact hj)])
      obtain ⟨y1, y2, y3, y4, y5, y6⟩ := HFI.out _ (List.mem_of_getElem? ht)
      simp only at y1 y2 y3 y4 y5 y6
      clear ht
      have BQ3 : Hid (qBlk wr w.heap.size 1 fn ser oth fr to wd st off gap tol fill) := Lib.hid ((I.out.ext.block (block_lt BQ1.out)).trans BQ1.out)
      have c4 : wr.cell? ⟨w.heap.size, 4, none⟩ = some (.int .i64 fr) := by have := cell_of_block BQ3.out 4; simpa using this
      have c5 : wr.cell? ⟨w.heap.size, 5, none⟩ = some (.int .i64 to) := by have := cell_of_block BQ3.out 5; simpa using this
      have c6 : wr.cell? ⟨w.heap.size, 6, none⟩ = some (.int .i64 wd) := by have := cell_of_block BQ3.out 6; simpa using this
      have c7 : wr.cell? ⟨w.heap.size, 7, none⟩ = some (.int .i64 st) := by have := cell_of_block BQ3.out 7; simpa using this
      have c8 : wr.cell? ⟨w.heap.size, 8, none⟩ = some (.int .i64 off) := by have := cell_of_block BQ3.out 8; simpa using this
      have hlq := World.block_lt_of_cell? wr _ c4
      cases htm : tm
      case false =>
        subst htm
        have HONE : Hid (oneCh fr to wd st off low ⟨tw, tO, tu, false, tf⟩ (l.take j).length = []) := Lib.hid (by simp [oneCh, tierIn])
        go_wp2_with fail
        go_roundw
        case rel => exact ⟨j + 1, m, oa, oc, by omega, by omega, by go_num, rfl, Lib.hid (by rw [HTK.out, choices_snoc, HONE.out, List.append_nil]; exact I.out.next ((Ext.refl _).alloc _))⟩
        case measure => simp [RowKit.intOf]; omega
      subst htm
      go_wp2_with fail
      generalize hW : World.alloc _ _ = W3
      have HX3 : Hid (Ext wr W3) := Lib.hid (by subst hW; exact (Ext.refl wr).alloc _)
      have d0 : W3.cell? ⟨wr.heap.size, 0, none⟩ = some (.int .i64 tw) := by subst hW; simp [go_sem]
      have d1 : W3.cell? ⟨wr.heap.size, 1, none⟩ = some (.int .i64 tO) := by subst hW; simp [go_sem]
      have d2 : W3.cell? ⟨wr.heap.size, 2, none⟩ = some (.int .i64 tu) := by subst hW; simp [go_sem]
      clear hW t0 t1 t2 t3 t4
      have k4 : W3.cell? ⟨w.heap.size, 4, none⟩ = some (.int .i64 fr) := (HX3.out.cell (p := ⟨w.heap.size, 4, none⟩) hlq).trans c4
      have k5 : W3.cell? ⟨w.heap.size, 5, none⟩ = some (.int .i64 to) := (HX3.out.cell (p := ⟨w.heap.size, 5, none⟩) hlq).trans c5
      have k6 : W3.cell? ⟨w.heap.size, 6, none⟩ = some (.int .i64 wd) := (HX3.out.cell (p := ⟨w.heap.size, 6, none⟩) hlq).trans c6
      have k7 : W3.cell? ⟨w.heap.size, 7, none⟩ = some (.int .i64 st) := (HX3.out.cell (p := ⟨w.heap.size, 7, none⟩) hlq).trans c7
      have k8 : W3.cell? ⟨w.heap.size, 8, none⟩ = some (.int .i64 off) := (HX3.out.cell (p := ⟨w.heap.size, 8, none⟩) hlq).trans c8
      clear c4 c5 c6 c7 c8 hlq
      refine (refFits_any wd st off tw tO W3).mono ?_
      rintro e w' ⟨rfl, rfl⟩
      cases hfv : fitsW wd st off tw tO
      case false =>
        have HONE : Hid (oneCh fr to wd st off low ⟨tw, tO, tu, true, tf⟩ (l.take j).length = []) := Lib.hid (by simp [oneCh, tierIn, hfv])
        clear hfv
        go_wp2_with fail
        go_roundw
        case rel => exact ⟨j + 1, m, oa, oc, by omega, by omega, by go_num, rfl, Lib.hid (by rw [HTK.out, choices_snoc, HONE.out, List.append_nil]; exact I.out.next HX3.out)⟩
        case measure => simp [RowKit.intOf]; omega
      have HFV := Lib.hid hfv
      clear hfv
      have HR : Hid (Row W3 36 3 (.slice oa m oc) m (pts (choices fr to wd st off low (l.take j)))) := Lib.hid (I.out.row.ext HX3.out)
      by_cases hlf : fr < low <;> by_cases hut : tu < to
      · have HSA : Hid (spanA fr low ⟨tw, tO, tu, true, tf⟩ = low + (tO - low) % tw) := Lib.hid (by simp only [spanA]; rw [show max fr low = low by omega])
        have HSB : Hid (spanB to ⟨tw, tO, tu, true, tf⟩ = tu - (tu - tO) % tw) := Lib.hid (by simp only [spanB]; rw [show min to tu = tu by omega])
        have r1 := Int.emod_nonneg (tO - low) (show tw ≠ 0 by omega)
        have r2 := Int.emod_lt_of_pos (tO - low) (show 0 < tw by omega)
        have s1 := Int.emod_nonneg (tu - tO) (show tw ≠ 0 by omega)
        have s2 := Int.emod_lt_of_pos (tu - tO) (show 0 < tw by omega)
        have HM1 := Lib.hid (fun W => refMod_any (tO - low) tw W y1 y2 (by omega) (by omega))
        have HM2 := Lib.hid (fun W => refMod_any (tu - tO) tw W y1 y2 (by omega) (by omega))
        obtain ⟨r, hr⟩ : ∃ r, (tO - low) % tw = r := ⟨_, rfl⟩
        obtain ⟨s, hs⟩ : ∃ s, (tu - tO) % tw = s := ⟨_, rfl⟩
        rw [hr] at HSA r1 r2 HM1
        rw [hs] at HSB s1 s2 HM2
        clear hr hs
        have z1 : IntKind.i64.wrap (tO - low) = tO - low := by rw [IntKind.wrap_i64]; omega
        have z2 : IntKind.i64.wrap (tu - tO) = tu - tO := by rw [IntKind.wrap_i64]; omega
        have z3 : IntKind.i64.wrap (low + r) = low + r := by rw [IntKind.wrap_i64]; omega
        have z4 : IntKind.i64.wrap (tu - s) = tu - s := by rw [IntKind.wrap_i64]; omega
        go_wp2_with fail
        refine (HM1.out W3).mono ?_
        rintro e w' ⟨rfl, rfl⟩
        go_wp2_with fail
        refine (HM2.out W3).mono ?_
        rintro e w' ⟨rfl, rfl⟩
        by_cases hab : low + r < tu - s
        · have HONE : Hid (oneCh fr to wd st off low ⟨tw, tO, tu, true, tf⟩ (l.take j).length = [⟨j, low + r, tu - s⟩]) := Lib.hid (by simp [oneCh, tierIn, HFV.out, HSA.out, HSB.out, hab, HTL.out])
          go_wp2_with (at_builtin; go_must (refine wpList_append_to (m := 1) elem_rch rfl _ _ rfl (v := .slice _ _ _) rfl rfl (HR.out.alloc _) (src_pt' (p := ⟨j, low + r, tu - s⟩) (heap_alloc_new _ _)) (by unfold maxLen; omega) (by omega) ?_; intro v' w6 happ); have K := Lib.hid (I.out.snoc (HX3.out.alloc _) (p := ⟨j, low + r, tu - s⟩) happ); obtain ⟨oa', oc', rfl⟩ := happ.row.shape; clear happ)
          go_roundw
          case rel => exact ⟨j + 1, m + 1, oa', oc', by omega, by omega, by go_num, rfl, Lib.hid (by rw [HTK.out, choices_snoc, HONE.out]; exact K.out)⟩
          case measure => simp [RowKit.intOf]; omega
        · have HONE : Hid (oneCh fr to wd st off low ⟨tw, tO, tu, true, tf⟩ (l.take j).length = []) := Lib.hid (by simp [oneCh, HSA.out, HSB.out, hab])
          go_wp2_with fail
          go_roundw
          case rel => exact ⟨j + 1, m, oa, oc, by omega, by omega, by go_num, rfl, Lib.hid (by rw [HTK.out, choices_snoc, HONE.out, List.append_nil]; exact I.out.next HX3.out)⟩
          case measure => simp [RowKit.intOf]; omega
      · have HSA : Hid (spanA fr low ⟨tw, tO, tu, true, tf⟩ = low + (tO - low) % tw) := Lib.hid (by simp only [spanA]; rw [show max fr low = low by omega])
        have HSB : Hid (spanB to ⟨tw, tO, tu, true, tf⟩ = to - (to - tO) % tw) := Lib.hid (by simp only [spanB]; rw [show min to tu = to by omega])
        have r1 := Int.emod_nonneg (tO - low) (show tw ≠ 0 by omega)
        have r2 := Int.emod_lt_of_pos (tO - low) (show 0 < tw by omega)
        have s1 := Int.emod_nonneg (to - tO) (show tw ≠ 0 by omega)
        have s2 := Int.emod_lt_of_pos (to - tO) (show 0 < tw by omega)
        have HM1 := Lib.hid (fun W => refMod_any (tO - low) tw W y1 y2 (by omega) (by omega))
        have HM2 := Lib.hid (fun W => refMod_any (to - tO) tw W y1 y2 (by omega) (by omega))
        obtain ⟨r, hr⟩ : ∃ r, (tO - low) % tw = r := ⟨_, rfl⟩
        obtain ⟨s, hs⟩ : ∃ s, (to - tO) % tw = s := ⟨_, rfl⟩
        rw [hr] at HSA r1 r2 HM1
        rw [hs] at HSB s1 s2 HM2
        clear hr hs
        have z1 : IntKind.i64.wrap (tO - low) = tO - low := by rw [IntKind.wrap_i64]; omega
        have z2 : IntKind.i64.wrap (to - tO) = to - tO := by rw [IntKind.wrap_i64]; omega
        have z3 : IntKind.i64.wrap (low + r) = low + r := by rw [IntKind.wrap_i64]; omega
        have z4 : IntKind.i64.wrap (to - s) = to - s := by rw [IntKind.wrap_i64]; omega
        go_wp2_with fail
        refine (HM1.out W3).mono ?_
        rintro e w' ⟨rfl, rfl⟩
        go_wp2_with fail
        refine (HM2.out W3).mono ?_
        rintro e w' ⟨rfl, rfl⟩
        by_cases hab : low + r < to - s
        · have HONE : Hid (oneCh fr to wd st off low ⟨tw, tO, tu, true, tf⟩ (l.take j).length = [⟨j, low + r, to - s⟩]) := Lib.hid (by simp [oneCh, tierIn, HFV.out, HSA.out, HSB.out, hab, HTL.out])
          go_wp2_with (at_builtin; go_must (refine wpList_append_to (m := 1) elem_rch rfl _ _ rfl (v := .slice _ _ _) rfl rfl (HR.out.alloc _) (src_pt' (p := ⟨j, low + r, to - s⟩) (heap_alloc_new _ _)) (by unfold maxLen; omega) (by omega) ?_; intro v' w6 happ); have K := Lib.hid (I.out.snoc (HX3.out.alloc _) (p := ⟨j, low + r, to - s⟩) happ); obtain ⟨oa', oc', rfl⟩ := happ.row.shape; clear happ)
          go_roundw
          case rel => exact ⟨j + 1, m + 1, oa', oc', by omega, by omega, by go_num, rfl, Lib.hid (by rw [HTK.out, choices_snoc, HONE.out]; exact K.out)⟩
          case measure => simp [RowKit.intOf]; omega
        · have HONE : Hid (oneCh fr to wd st off low ⟨tw, tO, tu, true, tf⟩ (l.take j).length = []) := Lib.hid (by simp [oneCh, HSA.out, HSB.out, hab])
          go_wp2_with fail
          go_roundw
          case rel => exact ⟨j + 1, m, oa, oc, by omega, by omega, by go_num, rfl, Lib.hid (by rw [HTK.out, choices_snoc, HONE.out, List.append_nil]; exact I.out.next HX3.out)⟩
          case measure => simp [RowKit.intOf]; omega
      · have HSA : Hid (spanA fr low ⟨tw, tO, tu, true, tf⟩ = fr + (tO - fr) % tw) := Lib.hid (by simp only [spanA]; rw [show max fr low = fr by omega])
        have HSB : Hid (spanB to ⟨tw, tO, tu, true, tf⟩ = tu - (tu - tO) % tw) := Lib.hid (by simp only [spanB]; rw [show min to tu = tu by omega])
        have r1 := Int.emod_nonneg (tO - fr) (show tw ≠ 0 by omega)
        have r2 := Int.emod_lt_of_pos (tO - fr) (show 0 < tw by omega)
        have s1 := Int.emod_nonneg (tu - tO) (show tw ≠ 0 by omega)
        have s2 := Int.emod_lt_of_pos (tu - tO) (show 0 < tw by omega)
        have HM1 := Lib.hid (fun W => refMod_any (tO - fr) tw W y1 y2 (by omega) (by omega))
        have HM2 := Lib.hid (fun W => refMod_any (tu - tO) tw W y1 y2 (by omega) (by omega))
        obtain ⟨r, hr⟩ : ∃ r, (tO - fr) % tw = r := ⟨_, rfl⟩
        obtain ⟨s, hs⟩ : ∃ s, (tu - tO) % tw = s := ⟨_, rfl⟩
        rw [hr] at HSA r1 r2 HM1
        rw [hs] at HSB s1 s2 HM2
        clear hr hs
        have z1 : IntKind.i64.wrap (tO - fr) = tO - fr := by rw [IntKind.wrap_i64]; omega
        have z2 : IntKind.i64.wrap (tu - tO) = tu - tO := by rw [IntKind.wrap_i64]; omega
        have z3 : IntKind.i64.wrap (fr + r) = fr + r := by rw [IntKind.wrap_i64]; omega
        have z4 : IntKind.i64.wrap (tu - s) = tu - s := by rw [IntKind.wrap_i64]; omega
        go_wp2_with fail
        refine (HM1.out W3).mono ?_
        rintro e w' ⟨rfl, rfl⟩
        go_wp2_with fail
        refine (HM2.out W3).mono ?_
        rintro e w' ⟨rfl, rfl⟩
        by_cases hab : fr + r < tu - s
        · have HONE : Hid (oneCh fr to wd st off low ⟨tw, tO, tu, true, tf⟩ (l.take j).length = [⟨j, fr + r, tu - s⟩]) := Lib.hid (by simp [oneCh, tierIn, HFV.out, HSA.out, HSB.out, hab, HTL.out])
          go_wp2_with (at_builtin; go_must (refine wpList_append_to (m := 1) elem_rch rfl _ _ rfl (v := .slice _ _ _) rfl rfl (HR.out.alloc _) (src_pt' (p := ⟨j, fr + r, tu - s⟩) (heap_alloc_new _ _)) (by unfold maxLen; omega) (by omega) ?_; intro v' w6 happ); have K := Lib.hid (I.out.snoc (HX3.out.alloc _) (p := ⟨j, fr + r, tu - s⟩) happ); obtain ⟨oa', oc', rfl⟩ := happ.row.shape; clear happ)
          go_roundw
          case rel => exact ⟨j + 1, m + 1, oa', oc', by omega, by omega, by go_num, rfl, Lib.hid (by rw [HTK.out, choices_snoc, HONE.out]; exact K.out)⟩
          case measure => simp [RowKit.intOf]; omega
        · have HONE : Hid (oneCh fr to wd st off low ⟨tw, tO, tu, true, tf⟩ (l.take j).length = []) := Lib.hid (by simp [oneCh, HSA.out, HSB.out, hab])
          go_wp2_with fail
          go_roundw
          case rel => exact ⟨j + 1, m, oa, oc, by omega, by omega, by go_num, rfl, Lib.hid (by rw [HTK.out, choices_snoc, HONE.out, List.append_nil]; exact I.out.next HX3.out)⟩
          case measure => simp [RowKit.intOf]; omega
      · have HSA : Hid (spanA fr low ⟨tw, tO, tu, true, tf⟩ = fr + (tO - fr) % tw) := Lib.hid (by simp only [spanA]; rw [show max fr low = fr by omega])
        have HSB : Hid (spanB to ⟨tw, tO, tu, true, tf⟩ = to - (to - tO) % tw) := Lib.hid (by simp only [spanB]; rw [show min to tu = to by omega])
        have r1 := Int.emod_nonneg (tO - fr) (show tw ≠ 0 by omega)
        have r2 := Int.emod_lt_of_pos (tO - fr) (show 0 < tw by omega)
        have s1 := Int.emod_nonneg (to - tO) (show tw ≠ 0 by omega)
        have s2 := Int.emod_lt_of_pos (to - tO) (show 0 < tw by omega)
        have HM1 := Lib.hid (fun W => refMod_any (tO - fr) tw W y1 y2 (by omega) (by omega))
        have HM2 := Lib.hid (fun W => refMod_any (to - tO) tw W y1 y2 (by omega) (by omega))
        obtain ⟨r, hr⟩ : ∃ r, (tO - fr) % tw = r := ⟨_, rfl⟩
        obtain ⟨s, hs⟩ : ∃ s, (to - tO) % tw = s := ⟨_, rfl⟩
        rw [hr] at HSA r1 r2 HM1
        rw [hs] at HSB s1 s2 HM2
        clear hr hs
        have z1 : IntKind.i64.wrap (tO - fr) = tO - fr := by rw [IntKind.wrap_i64]; omega
        have z2 : IntKind.i64.wrap (to - tO) = to - tO := by rw [IntKind.wrap_i64]; omega
        have z3 : IntKind.i64.wrap (fr + r) = fr + r := by rw [IntKind.wrap_i64]; omega
        have z4 : IntKind.i64.wrap (to - s) = to - s := by rw [IntKind.wrap_i64]; omega
        go_wp2_with fail
        refine (HM1.out W3).mono ?_
        rintro e w' ⟨rfl, rfl⟩
        go_wp2_with fail
        refine (HM2.out W3).mono ?_
        rintro e w' ⟨rfl, rfl⟩
        by_cases hab : fr + r < to - s
        · have HONE : Hid (oneCh fr to wd st off low ⟨tw, tO, tu, true, tf⟩ (l.take j).length = [⟨j, fr + r, to - s⟩]) := Lib.hid (by simp [oneCh, tierIn, HFV.out, HSA.out, HSB.out, hab, HTL.out])
          go_wp2_with (at_builtin; go_must (refine wpList_append_to (m := 1) elem_rch rfl _ _ rfl (v := .slice _ _ _) rfl rfl (HR.out.alloc _) (src_pt' (p := ⟨j, fr + r, to - s⟩) (heap_alloc_new _ _)) (by unfold maxLen; omega) (by omega) ?_; intro v' w6 happ); have K := Lib.hid (I.out.snoc (HX3.out.alloc _) (p := ⟨j, fr + r, to - s⟩) happ); obtain ⟨oa', oc', rfl⟩ := happ.row.shape; clear happ)
          go_roundw
          case rel => exact ⟨j + 1, m + 1, oa', oc', by omega, by omega, by go_num, rfl, Lib.hid (by rw [HTK.out, choices_snoc, HONE.out]; exact K.out)⟩
          case measure => simp [RowKit.intOf]; omega
        · have HONE : Hid (oneCh fr to wd st off low ⟨tw, tO, tu, true, tf⟩ (l.take j).length = []) := Lib.hid (by simp [oneCh, HSA.out, HSB.out, hab])
          go_wp2_with fail
          go_roundw
          case rel => exact ⟨j + 1, m, oa, oc, by omega, by omega, by go_num, rfl, Lib.hid (by rw [HTK.out, choices_snoc, HONE.out, List.append_nil]; exact I.out.next HX3.out)⟩
          case measure => simp [RowKit.intOf]; omega
    · have HTO : Hid (l.take j = l) := Lib.hid (List.take_of_length_le (by have := Ln.out; omega))
      have HRS : Hid (Src wr 3 (.slice oa m oc) m (pts (choices fr to wd st off low l))) := Lib.hid (by have h1 := I.out.row; rw [HTO.out] at h1; exact h1.src (pts_one _))
      have HE := Lib.hid (HX1.out.trans I.out.ext)
      have HCP := Lib.hid (row_cap I.out.row)
      clear I
      go_wp2_with fail
      go_ret2
      exact ⟨oa, m, oc, rfl, HRS.out, by omega, HCP.out, HE.out⟩

end Go.Proofs.Ytpgnkknelaajdaa
