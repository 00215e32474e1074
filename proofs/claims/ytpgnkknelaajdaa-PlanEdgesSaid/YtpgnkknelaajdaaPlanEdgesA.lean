/- PlanEdges: the walk, where there are choices. -/
import Derived.Test.YtpgnkknelaajdaaPlanEdges
namespace Go.Proofs.Ytpgnkknelaajdaa
open Go.RowKit Go.Sort Go.Lib

theorem in_next (bp x : Pt) (cs : List Pt) (j : Nat) (h : cs[j]? = some x) (hn : decide (bp ∈ cs.take j) = false) : (x.t == bp.t && (x.v == bp.v && x.s == bp.s)) = decide (bp ∈ cs.take (j + 1)) := by
  rw [take_snoc5 h]
  simp only [decide_eq_false_iff_not] at hn
  obtain ⟨xt, xv, xs⟩ := x
  obtain ⟨bt, bv, bs⟩ := bp
  simp [hn, Pt.mk.injEq]
  rw [Bool.eq_iff_iff]
  simp
  constructor
  · rintro ⟨rfl, rfl, rfl⟩; exact ⟨rfl, rfl, rfl⟩
  · rintro ⟨rfl, rfl, rfl⟩; exact ⟨rfl, rfl, rfl⟩
theorem in_stays (bp x : Pt) (cs : List Pt) (j : Nat) (h : cs[j]? = some x) (hn : decide (bp ∈ cs.take j) = true) : decide (bp ∈ cs.take (j + 1)) = true := by
  rw [take_snoc5 h]
  simp only [decide_eq_true_eq] at hn ⊢
  exact List.mem_append_left _ hn

set_option maxHeartbeats 8000000 in
set_option maxRecDepth 100000 in
theorem planEdges_ok (op fn : Int) (ser oth : ByteArray) (fr to wd st off gap tol fill : Int) (hse : ser.size ≤ maxLen) (hot : oth.size ≤ maxLen) (low : Int) (w : World) (a : Option Addr) (n c : Nat) (l : List Ti) (hs : Src w 5 (.slice a n c) n (tis l)) (hn : n ≤ 4398046511104)
    (hfi : fineB n l = true) (l1 : -1152921504606846976 ≤ low) (l2 : low ≤ 1152921504606846976) (hck : planCheckB op fn ser oth fr to wd st off gap tol fill = true) :
    Calls Try.prog 4 #[qV op fn ser oth fr to wd st off gap tol fill, .slice a n c, .int .i64 low] w fun e w' => e = .returned (.bool true) ∧ Ext w w' := by
  have HFI := Lib.hid (fun W (hx : Ext w W) => fine_any W a n c l (hs.ext hx) hn)
  rw [hfi] at HFI
  obtain ⟨hn4, hfin⟩ := fineB_le hfi
  obtain ⟨⟨f1, f2⟩, g1, g2⟩ := planCheck_bounds hck
  have HA := Lib.hid (fun W (hx : Ext w W) => all_ok op fn ser oth fr to wd st off gap tol fill hse hot low W a n c l (hs.ext hx) hn4 hfin hck f1 f2 g1 g2 l1 l2)
  have HB := Lib.hid (fun W (hx : Ext w W) => best_ok op fn ser oth fr to wd st off gap tol fill hse hot low W a n c l (hs.ext hx) hn4 hfin hck f1 f2 g1 g2 l1 l2)
  have HS := Lib.hid hs
  have HED := Lib.hid (edge_ok fr to wd st off low l hfin)
  have HME := Lib.hid (best_mem fr to wd st off low l)
  have HFN := Lib.hid hfin
  clear hs hck hse hot hfi hn hfin
  obtain ⟨bp, hbp⟩ : ∃ bp, bestOf fr l (chFrom fr to wd st off low l 0) = bp := ⟨_, rfl⟩
  obtain ⟨cl, hcl⟩ : ∃ cl, chFrom fr to wd st off low l 0 = cl := ⟨_, rfl⟩
  simp only [choices, hbp] at HA HB HED HME
  simp only [hcl] at HA HED HME
  clear hbp hcl
  unfold qV Pt.val at *
  have n1 : ¬ low < -1152921504606846976 := by omega
  have n2 : ¬ 1152921504606846976 < low := by omega
  have heq := eq_ch
  have hg : Try.prog.eqGuardType Try.prog.depth 37 = false := by kernel_rfl
  go_enter Try.func4, Try.ntmps4
  go_wp2_with fail
  generalize hW : World.alloc _ _ = W
  have HX : Hid (Ext w W) := Lib.hid (by subst hW; exact (Ext.refl w).alloc _)
  have BQ : Hid (qBlk W w.heap.size op fn ser oth fr to wd st off gap tol fill) := Lib.hid (by subst hW; exact heap_alloc_new w _)
  clear hW
  refine (HFI.out W HX.out).mono ?_
  rintro e w1 ⟨rfl, hx1⟩
  have BQ1 : Hid (qBlk w1 w.heap.size op fn ser oth fr to wd st off gap tol fill) := Lib.hid ((hx1.block (block_lt BQ.out)).trans BQ.out)
  have HX1 := Lib.hid (HX.out.trans hx1)
  clear hx1 HX BQ HFI
  have c0 : w1.cell? ⟨w.heap.size, 0, none⟩ = some (.int .i64 op) := by have := cell_of_block BQ1.out 0; simpa using this
  have c1 : w1.cell? ⟨w.heap.size, 1, none⟩ = some (.int .i64 fn) := by have := cell_of_block BQ1.out 1; simpa using this
  have c2 : w1.cell? ⟨w.heap.size, 2, none⟩ = some (.string ser) := by have := cell_of_block BQ1.out 2; simpa using this
  have c3 : w1.cell? ⟨w.heap.size, 3, none⟩ = some (.string oth) := by have := cell_of_block BQ1.out 3; simpa using this
  have c4 : w1.cell? ⟨w.heap.size, 4, none⟩ = some (.int .i64 fr) := by have := cell_of_block BQ1.out 4; simpa using this
  have c5 : w1.cell? ⟨w.heap.size, 5, none⟩ = some (.int .i64 to) := by have := cell_of_block BQ1.out 5; simpa using this
  have c6 : w1.cell? ⟨w.heap.size, 6, none⟩ = some (.int .i64 wd) := by have := cell_of_block BQ1.out 6; simpa using this
  have c7 : w1.cell? ⟨w.heap.size, 7, none⟩ = some (.int .i64 st) := by have := cell_of_block BQ1.out 7; simpa using this
  have c8 : w1.cell? ⟨w.heap.size, 8, none⟩ = some (.int .i64 off) := by have := cell_of_block BQ1.out 8; simpa using this
  have c9 : w1.cell? ⟨w.heap.size, 9, none⟩ = some (.int .i64 gap) := by have := cell_of_block BQ1.out 9; simpa using this
  have c10 : w1.cell? ⟨w.heap.size, 10, none⟩ = some (.int .i64 tol) := by have := cell_of_block BQ1.out 10; simpa using this
  have c11 : w1.cell? ⟨w.heap.size, 11, none⟩ = some (.int .i64 fill) := by have := cell_of_block BQ1.out 11; simpa using this
  go_wp2_with fail
  refine (HA.out w1 HX1.out).mono ?_
  rintro e w2 ⟨oa, m, oc, rfl, hs2, hm5, hmc, hx2⟩
  clear c0 c1 c2 c3 c4 c5 c6 c7 c8 c9 c10 c11
  have BQ2 : Hid (qBlk w2 w.heap.size op fn ser oth fr to wd st off gap tol fill) := Lib.hid ((hx2.block (block_lt BQ1.out)).trans BQ1.out)
  have HX2 := Lib.hid (HX1.out.trans hx2)
  have HS2 := Lib.hid hs2
  clear hx2 HX1 BQ1 HA hs2
  have c0 : w2.cell? ⟨w.heap.size, 0, none⟩ = some (.int .i64 op) := by have := cell_of_block BQ2.out 0; simpa using this
  have c1 : w2.cell? ⟨w.heap.size, 1, none⟩ = some (.int .i64 fn) := by have := cell_of_block BQ2.out 1; simpa using this
  have c2 : w2.cell? ⟨w.heap.size, 2, none⟩ = some (.string ser) := by have := cell_of_block BQ2.out 2; simpa using this
  have c3 : w2.cell? ⟨w.heap.size, 3, none⟩ = some (.string oth) := by have := cell_of_block BQ2.out 3; simpa using this
  have c4 : w2.cell? ⟨w.heap.size, 4, none⟩ = some (.int .i64 fr) := by have := cell_of_block BQ2.out 4; simpa using this
  have c5 : w2.cell? ⟨w.heap.size, 5, none⟩ = some (.int .i64 to) := by have := cell_of_block BQ2.out 5; simpa using this
  have c6 : w2.cell? ⟨w.heap.size, 6, none⟩ = some (.int .i64 wd) := by have := cell_of_block BQ2.out 6; simpa using this
  have c7 : w2.cell? ⟨w.heap.size, 7, none⟩ = some (.int .i64 st) := by have := cell_of_block BQ2.out 7; simpa using this
  have c8 : w2.cell? ⟨w.heap.size, 8, none⟩ = some (.int .i64 off) := by have := cell_of_block BQ2.out 8; simpa using this
  have c9 : w2.cell? ⟨w.heap.size, 9, none⟩ = some (.int .i64 gap) := by have := cell_of_block BQ2.out 9; simpa using this
  have c10 : w2.cell? ⟨w.heap.size, 10, none⟩ = some (.int .i64 tol) := by have := cell_of_block BQ2.out 10; simpa using this
  have c11 : w2.cell? ⟨w.heap.size, 11, none⟩ = some (.int .i64 fill) := by have := cell_of_block BQ2.out 11; simpa using this
  go_wp2_with fail
  refine (HB.out w2 HX2.out).mono ?_
  rintro e w3 ⟨rfl, hx3⟩
  clear c0 c1 c2 c3 c4 c5 c6 c7 c8 c9 c10 c11
  have BQ3 : Hid (qBlk w3 w.heap.size op fn ser oth fr to wd st off gap tol fill) := Lib.hid ((hx3.block (block_lt BQ2.out)).trans BQ2.out)
  have HX3 := Lib.hid (HX2.out.trans hx3)
  have HS3 := Lib.hid (HS2.out.ext hx3)
  clear hx3 HX2 BQ2 HB HS2
  go_wp2_with fail
  have HXA := Lib.hid ((Ext.refl w3).alloc (.cells #[.int .i64 bp.t, .int .i64 bp.v, .int .i64 bp.s] 37 (0, 0)))
  have BXA : Hid (chBlk (w3.alloc (.cells #[.int .i64 bp.t, .int .i64 bp.v, .int .i64 bp.s] 37 (0, 0))) w3.heap.size bp) := Lib.hid (heap_alloc_new w3 _)
  generalize hwa : w3.alloc (.cells #[.int .i64 bp.t, .int .i64 bp.v, .int .i64 bp.s] 37 (0, 0)) = w4 at *
  clear hwa
  have BQ4 : Hid (qBlk w4 w.heap.size op fn ser oth fr to wd st off gap tol fill) := Lib.hid ((HXA.out.block (block_lt BQ3.out)).trans BQ3.out)
  have HX4 := Lib.hid (HX3.out.trans HXA.out)
  have HS4 := Lib.hid (HS3.out.ext HXA.out)
  clear HX3 HXA HS3 BQ3
  go_loopw [14, 13] (fun i b wr => ∃ j : Nat, j ≤ m ∧ i = .int .i64 j ∧ b = .bool (decide (bp ∈ ((⟨-1, fr, fr⟩ : Pt) :: cl).take j)) ∧ Hid (Ext w4 wr)) (fun i _ _ => m - (RowKit.intOf i).toNat)
  case atStart => exact ⟨0, by omega, rfl, by simp, Lib.hid (Ext.refl _)⟩
  case round =>
    obtain ⟨j, hj, rfl, rfl, I⟩ := hrel
    by_cases hlt : j < m
    · obtain ⟨cb, co, x, rfl, hx, x0, x1, x2⟩ := pts_src (HS4.out.ext I.out) hlt
      obtain ⟨b0, b1, b2⟩ := ch_cells (ch_ext BXA.out I.out)
      have BQN : Hid (qBlk wr w.heap.size op fn ser oth fr to wd st off gap tol fill) := Lib.hid ((I.out.block (block_lt BQ4.out)).trans BQ4.out)
      have c4 : wr.cell? ⟨w.heap.size, 4, none⟩ = some (.int .i64 fr) := by have := cell_of_block BQN.out 4; simpa using this
      have c5 : wr.cell? ⟨w.heap.size, 5, none⟩ = some (.int .i64 to) := by have := cell_of_block BQN.out 5; simpa using this
      have hlq := World.block_lt_of_cell? wr _ c4
      have hlb := World.block_lt_of_cell? wr _ b0
      by_cases hj0 : j = 0
      · subst hj0
        simp at hx
        subst hx
        simp only [Nat.zero_mul, Nat.add_zero] at x0 x1 x2
        rw [show decide (bp ∈ ((⟨-1, fr, fr⟩ : Pt) :: cl).take 0) = false by simp]
        have HN := Lib.hid (in_next bp ⟨-1, fr, fr⟩ (⟨-1, fr, fr⟩ :: cl) 0 rfl (by simp))
        go_wp2_with fail
        go_roundw
        case rel => exact ⟨1, by omega, rfl, by rw [← HN.out], Lib.hid (I.out.alloc _)⟩
        case measure => simp [RowKit.intOf]; omega
      · obtain ⟨i', rfl⟩ : ∃ i', j = i' + 1 := ⟨j - 1, by omega⟩
        have hxc : cl[i']? = some x := by simpa using hx
        obtain ⟨k, bi, ⟨tw, tO, tu, tm, tf⟩, ⟨btw, btO, btu, btm, btf⟩, ED⟩ := HED.out x (List.mem_of_getElem? hxc)
        obtain ⟨ext, eat, em, ea1, ea2, eb1, eb2, eab, ema, emb, ena, enb, ebp, ebat, ebw⟩ := ED
        simp only at em ea1 ea2 eb1 eb2 eab ema emb ena enb ebw
        obtain ⟨y1, y2, y3, y4, y5, y6⟩ := HFN.out _ (List.mem_of_getElem? eat)
        simp only at y1 y2 y3 y4 y5 y6
        subst em
        have hkn : k < n := by have h1 := tis_src_len HS.out; have h2 := (List.getElem?_eq_some_iff.1 eat).1; omega
        have hbn : bi < n := by have h1 := tis_src_len HS.out; have h2 := (List.getElem?_eq_some_iff.1 ebat).1; omega
        obtain ⟨sb, so, t', rfl, ht', t0, t1, t2, t3, t4⟩ := tis_src (HS.out.ext (HX4.out.trans I.out)) hkn
        rw [eat] at ht'
        simp at ht'
        subst ht'
        obtain ⟨sb', so', bt', e', hb', bt0, _, _, _, _⟩ := tis_src (HS.out.ext (HX4.out.trans I.out)) hbn
        rw [ebat] at hb'
        simp at hb' e'
        subst hb'
        obtain ⟨rfl, rfl⟩ := e'
        simp only at t0 t1 t2 t3 t4 bt0
        obtain ⟨xt, A, B⟩ := x
        obtain ⟨bpt, bpv, bps⟩ := bp
        simp only [Pt.mk.injEq, and_true] at ext ebp
        subst ext ebp
        simp only at x0 x1 x2 b0 b1 b2 ea1 ea2 eb1 eb2 eab ema emb ena enb
        clear hxc eat ebat
        have HX := Lib.hid hx
        have hlt1 := World.block_lt_of_cell? wr _ bt0
        clear hx hj0
        have z1 : tw ≠ 0 := by omega
        have z2 : IntKind.i64.wrap (A - tO) = A - tO := by rw [IntKind.wrap_i64]; omega
        have z3 : IntKind.i64.wrap (B - tO) = B - tO := by rw [IntKind.wrap_i64]; omega
        generalize hin : decide ((⟨bi, bpv, bps⟩ : Pt) ∈ List.take (i' + 1) (⟨-1, fr, fr⟩ :: cl)) = bin
        cases bin
        case' false =>
          have HIN := Lib.hid (in_next _ _ _ _ HX.out hin)
          clear hin
          go_wp2_with fail
        case' true =>
          have HIN := Lib.hid (in_stays _ _ _ _ HX.out hin)
          clear hin
          go_wp2_with fail
        all_goals
          generalize hW : World.alloc _ _ = W5
          have HX5 : Hid (Ext wr W5) := Lib.hid (by subst hW; exact ((Ext.refl wr).alloc _).alloc _)
          have kc0 := cell_regrown (show W5.cell? ⟨wr.heap.size, 0, none⟩ = some (.int .i64 k) by subst hW; simp [go_sem])
          have kc1 := cell_regrown (show W5.cell? ⟨wr.heap.size, 1, none⟩ = some (.int .i64 A) by subst hW; simp [go_sem])
          have kc2 := cell_regrown (show W5.cell? ⟨wr.heap.size, 2, none⟩ = some (.int .i64 B) by subst hW; simp [go_sem])
          have kt0 := cell_regrown (show W5.cell? ⟨wr.heap.size + 1, 0, none⟩ = some (.int .i64 tw) by subst hW; simp [go_sem])
          have kt2 := cell_regrown (show W5.cell? ⟨wr.heap.size + 1, 2, none⟩ = some (.int .i64 tu) by subst hW; simp [go_sem])
          clear hW
          have kq4 := cell_regrown ((HX5.out.cell (p := ⟨w.heap.size, 4, none⟩) hlq).trans c4)
          have kq5 := cell_regrown ((HX5.out.cell (p := ⟨w.heap.size, 5, none⟩) hlq).trans c5)
          have kb0 := cell_regrown ((HX5.out.cell (p := ⟨w3.heap.size, 0, none⟩) hlb).trans b0)
          have kbt := cell_regrown ((HX5.out.cell (p := ⟨sb, so + bi * 5, none⟩) hlt1).trans bt0)
          clear t0 t1 t2 t3 t4 bt0 x0 x1 x2 b0 b1 b2 c4 c5 z1 z2 z3 ema emb
          obtain ⟨mx, hmx⟩ : ∃ mx, max fr low = mx := ⟨_, rfl⟩
          obtain ⟨mn, hmn⟩ : ∃ mn, min to tu = mn := ⟨_, rfl⟩
          rw [hmx] at ena
          rw [hmn] at enb
          have z4 : IntKind.i64.wrap (A - tw) = A - tw := by rw [IntKind.wrap_i64]; omega
          have z5 : IntKind.i64.wrap (B + tw) = B + tw := by rw [IntKind.wrap_i64]; omega
          have hd1 : decide (mx ≤ A - tw) = false := by simp; omega
          have hd2 : decide (B + tw ≤ mn) = false := by simp; omega
          have hd3 : decide ((bi : Int) < 0) = false := by simp
          have hd4 : decide (btw < tw) = false := by simp; omega
          refine wp_region_quiet_below (by kernel_rfl) (by kernel_rfl) ?_
          repeat (go_big_quiet_step (fail))
          refine wpQuiet_nil ?_
          intro _ hw'
          obtain ⟨pr, rfl⟩ := hw'
          generalize hW6 : grow _ _ = W6
          have HX6 : Hid (Ext W5 W6) := Lib.hid (by subst hW6; exact Ext.regrown _ _ _)
          clear hW6
          clear kc0 kc1 kc2 kt0 kt2 kq4 kq5 kb0 kbt
          go_wp2_with fail
          go_roundw
          case rel => exact ⟨i' + 1 + 1, by omega, by go_num, by first | rw [← HIN.out] | rw [HIN.out], Lib.hid ((I.out.trans HX5.out).trans HX6.out)⟩
          case measure => simp [RowKit.intOf]; omega
    · have HTO : Hid (decide (bp ∈ ((⟨-1, fr, fr⟩ : Pt) :: cl).take j) = true) := Lib.hid (by rw [List.take_of_length_le (by have := src_len HS4.out; omega)]; simpa using HME.out)
      rw [HTO.out]
      have HE := Lib.hid (HX4.out.trans I.out)
      go_wp2_with fail
      go_ret
      exact ⟨rfl, HE.out⟩

end Go.Proofs.Ytpgnkknelaajdaa
