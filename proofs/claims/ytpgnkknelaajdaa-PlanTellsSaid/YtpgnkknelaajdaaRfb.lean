/- tidemillref26.Best. -/
import Derived.Test.YtpgnkknelaajdaaRfa
namespace Go.Proofs.Ytpgnkknelaajdaa
open Go.RowKit Go.Sort Go.Lib

def rcBlk (w : World) (b : Nat) (p : Pt) : Prop := w.heap[b]? = some (.cells #[.int .i64 p.t, .int .i64 p.v, .int .i64 p.s] 36 (0, 0))
theorem rset3 {w : World} {b : Nat} {p : Pt} (h : rcBlk w b p) (x y z : Int) : rcBlk (((w.setCell ⟨b, 0, none⟩ (.int .i64 x)).setCell ⟨b, 1, none⟩ (.int .i64 y)).setCell ⟨b, 2, none⟩ (.int .i64 z)) b ⟨x, y, z⟩ := by
  unfold rcBlk at *
  rw [setCell_block (setCell_block (setCell_block h _) _)]
  simp
theorem rc_cells {w : World} {b : Nat} {p : Pt} (h : rcBlk w b p) : w.cell? ⟨b, 0, none⟩ = some (.int .i64 p.t) ∧ w.cell? ⟨b, 1, none⟩ = some (.int .i64 p.v) ∧ w.cell? ⟨b, 2, none⟩ = some (.int .i64 p.s) :=
  ⟨by have := cell_of_block h 0; simpa using this, by have := cell_of_block h 1; simpa using this, by have := cell_of_block h 2; simpa using this⟩
theorem rc_free {w : World} {b : Nat} {p : Pt} (h : rcBlk w b p) : w.frozen? ⟨b, 0, none⟩ = false ∧ w.frozen? ⟨b, 1, none⟩ = false ∧ w.frozen? ⟨b, 2, none⟩ = false :=
  ⟨free_of_block h 0, free_of_block h 1, free_of_block h 2⟩
theorem rc_ext {w w' : World} {b : Nat} {p : Pt} (h : rcBlk w b p) (hx : Ext w w') : rcBlk w' b p := (hx.block (block_lt h)).trans h

set_option maxHeartbeats 2000000 in
set_option maxRecDepth 100000 in
theorem refBest_bad (op fn : Int) (ser oth : ByteArray) (fr to wd st off gap tol fill : Int) (hse : ser.size ≤ maxLen) (hot : oth.size ≤ maxLen) (low : Int) (w : World) (a : Option Addr) (n c : Nat) (he : allErr op fn ser oth fr to wd st off gap tol fill low ≠ 0) :
    Calls Try.prog 10 #[qV op fn ser oth fr to wd st off gap tol fill, .slice a n c, .int .i64 low] w fun e w' => e = .returned (.tuple #[.agg #[.int .i64 0, .int .i64 0, .int .i64 0], .int .i64 (allErr op fn ser oth fr to wd st off gap tol fill low)]) ∧ Ext w w' := by
  have HA := Lib.hid (fun W => refAll_bad op fn ser oth fr to wd st off gap tol fill hse hot low W a n c he)
  generalize allErr op fn ser oth fr to wd st off gap tol fill low = er at *
  clear hse hot
  unfold qV at *
  go_enter Try.func10, Try.ntmps10
  go_wp2_with fail
  generalize hW : World.alloc _ _ = W
  have HX : Hid (Ext w W) := Lib.hid (by subst hW; exact ((Ext.refl w).alloc _).alloc _)
  have BR : Hid (rcBlk W (w.heap.size + 1) ⟨0, 0, 0⟩) := Lib.hid (by subst hW; have := heap_alloc_new (w.alloc (.cells #[.int .i64 op, .int .i64 fn, .string ser, .string oth, .int .i64 fr, .int .i64 to, .int .i64 wd, .int .i64 st, .int .i64 off, .int .i64 gap, .int .i64 tol, .int .i64 fill] 23 (0, 0))) (.cells #[.int .i64 0, .int .i64 0, .int .i64 0] 36 (0, 0)); simpa [rcBlk, go_sem] using this)
  clear hW
  refine (HA.out W).mono ?_
  rintro e w1 ⟨rfl, hx1⟩
  have HX1 := Lib.hid (HX.out.trans hx1)
  have BR1 : Hid (rcBlk w1 (w.heap.size + 1) ⟨0, 0, 0⟩) := Lib.hid ((hx1.block (block_lt BR.out)).trans BR.out)
  clear hx1 HA BR HX
  obtain ⟨r0, r1, r2⟩ := rc_cells BR1.out
  obtain ⟨z0, z1, z2⟩ := rc_free BR1.out
  simp only at r0 r1 r2
  go_wp2_with fail
  have B2 := rc_cells (rset3 BR1.out 0 0 0)
  have HX2 := Lib.hid (set3_ext HX1.out (b := w.heap.size + 1) (by omega) 0 0 0)
  generalize World.setCell _ _ _ = W2 at *
  obtain ⟨y0, y1, y2⟩ := B2
  simp only at y0 y1 y2
  exact bodyPost_ret (v := .tuple #[.agg #[.int .i64 0, .int .i64 0, .int .i64 0], .int .i64 er]) (by simp [results, Try.results10, go_sem, y0, y1, y2]) rfl ⟨rfl, HX2.out⟩

set_option maxHeartbeats 8000000 in
set_option maxRecDepth 100000 in
theorem refBest_ok (op fn : Int) (ser oth : ByteArray) (fr to wd st off gap tol fill : Int) (hse : ser.size ≤ maxLen) (hot : oth.size ≤ maxLen) (low : Int) (w : World) (a : Option Addr) (n c : Nat) (l : List Ti) (hs : Src w 5 (.slice a n c) n (tis l)) (hn : n ≤ 4) (hfine : ∀ t ∈ l, TiFine t)
    (hck : planCheckB op fn ser oth fr to wd st off gap tol fill = true) (f1 : -1152921504606846976 ≤ fr) (f2 : fr ≤ 1152921504606846976) (g1 : -1152921504606846976 ≤ to) (g2 : to ≤ 1152921504606846976) (l1 : -1152921504606846976 ≤ low) (l2 : low ≤ 1152921504606846976) :
    Calls Try.prog 10 #[qV op fn ser oth fr to wd st off gap tol fill, .slice a n c, .int .i64 low] w fun e w' => e = .returned (.tuple #[(bestOf fr l (chFrom fr to wd st off low l 0)).val, .int .i64 0]) ∧ Ext w w' := by
  have HA := Lib.hid (fun W (hx : Ext w W) => refAll_ok op fn ser oth fr to wd st off gap tol fill hse hot low W a n c l (hs.ext hx) hn hfine hck f1 f2 g1 g2 l1 l2)
  have HS := Lib.hid hs
  have Ln := Lib.hid (tis_src_len hs)
  clear hse hot hfine hck f1 f2 g1 g2 l1 l2 hs
  obtain ⟨cl, hcl⟩ : ∃ cl, chFrom fr to wd st off low l 0 = cl := ⟨_, rfl⟩
  have HKI : Hid (∀ x ∈ cl, ∃ k : Nat, x.t = k ∧ k < n) := Lib.hid (fun x hx => by
    rw [← hcl] at hx
    obtain ⟨k, t, rfl, _, h, _⟩ := chFrom_mem _ _ _ _ _ _ _ _ _ hx
    exact ⟨k, rfl, by have := Ln.out; omega⟩)
  simp only [choices, hcl] at HA
  rw [hcl]
  clear hcl
  unfold qV at *
  go_enter Try.func10, Try.ntmps10
  go_wp2_with fail
  generalize hW : World.alloc _ _ = W
  have HX : Hid (Ext w W) := Lib.hid (by subst hW; exact ((Ext.refl w).alloc _).alloc _)
  have BR : Hid (rcBlk W (w.heap.size + 1) ⟨0, 0, 0⟩) := Lib.hid (by subst hW; have := heap_alloc_new (w.alloc (.cells #[.int .i64 op, .int .i64 fn, .string ser, .string oth, .int .i64 fr, .int .i64 to, .int .i64 wd, .int .i64 st, .int .i64 off, .int .i64 gap, .int .i64 tol, .int .i64 fill] 23 (0, 0))) (.cells #[.int .i64 0, .int .i64 0, .int .i64 0] 36 (0, 0)); simpa [rcBlk, go_sem] using this)
  clear hW
  refine (HA.out W HX.out).mono ?_
  rintro e w1 ⟨oa, m, oc, rfl, hs1, hm5, hmc, hx1⟩
  have HX1 := Lib.hid (HX.out.trans hx1)
  have BR1 := Lib.hid (rc_ext BR.out hx1)
  have HM : Hid (m = cl.length + 1) := Lib.hid (by have := src_len hs1; simp at this; omega)
  have h1m : 0 < m := by have := HM.out; omega
  obtain ⟨cb, co, p0, rfl, hp0, q0, q1, q2⟩ := pts_src hs1 h1m
  simp at hp0
  subst hp0
  simp only [Nat.zero_mul, Nat.add_zero] at q0 q1 q2
  have HS1 := Lib.hid hs1
  clear hx1 HA BR HX hs1
  go_wp2_with fail
  have B2 : Hid (rcBlk (w1.alloc (.cells #[.int .i64 (-1), .int .i64 fr, .int .i64 fr] 36 (0, 0))) w1.heap.size ⟨-1, fr, fr⟩) := Lib.hid (heap_alloc_new w1 _)
  have HX2 := Lib.hid ((Ext.refl w1).alloc (.cells #[.int .i64 (-1), .int .i64 fr, .int .i64 fr] 36 (0, 0)))
  generalize hw2 : w1.alloc (.cells #[.int .i64 (-1), .int .i64 fr, .int .i64 fr] 36 (0, 0)) = w2 at *
  clear hw2 q0 q1 q2
  go_loopw [11] (fun i wr => ∃ j : Nat, 1 ≤ j ∧ j ≤ m ∧ i = .int .i64 j ∧ Hid (Ext w1 wr ∧ rcBlk wr w1.heap.size (bestOf fr l (cl.take (j - 1))))) (fun i _ => m - (RowKit.intOf i).toNat)
  case atStart => exact ⟨1, by omega, by omega, rfl, Lib.hid ⟨HX2.out, B2.out⟩⟩
  case round =>
    clear B2 HX2
    obtain ⟨j, hj1, hj, rfl, I⟩ := hrel
    by_cases hlt : j < m
    · obtain ⟨cb', co', x, e, hx, x0, x1, x2⟩ := pts_src (HS1.out.ext I.out.1) hlt
      simp at e
      obtain ⟨rfl, rfl⟩ := e
      have hxc : cl[j - 1]? = some x := by rw [show j = (j - 1) + 1 by omega] at hx; simpa using hx
      have HXK := Lib.hid (HKI.out x (List.mem_of_getElem? hxc))
      have HPK := Lib.hid (best_kind fr l n (cl.take (j - 1)) (fun c hc => HKI.out c (List.mem_of_mem_take hc)))
      have HST : Hid (bestOf fr l (cl.take (j + 1 - 1)) = bestStep fr l (bestOf fr l (cl.take (j - 1))) x) := Lib.hid (by rw [show j + 1 - 1 = (j - 1) + 1 by omega, take_snoc5 hxc]; simp [bestOf])
      clear hx hxc
      obtain ⟨p, hp⟩ : ∃ p, bestOf fr l (cl.take (j - 1)) = p := ⟨_, rfl⟩
      rw [hp] at HPK HST I
      clear hp
      have HSN := Lib.hid (HS.out.ext (HX1.out.trans I.out.1))
      have BB := Lib.hid I.out.2
      obtain ⟨b0, b1, b2⟩ := rc_cells BB.out
      obtain ⟨k, hk, hkn⟩ := HXK.out
      obtain ⟨xt, xv, xs⟩ := x
      simp only at hk x0 x1 x2
      subst hk
      have hl0 := World.block_lt_of_cell? wr _ x0
      rcases HPK.out with rfl | ⟨bi, hbi, hbn⟩
      · have HST' : Hid (bestOf fr l (cl.take (j + 1 - 1)) = ⟨k, xv, xs⟩) := Lib.hid (by rw [HST.out]; simp [bestStep, takes])
        simp only at b0 b1 b2
        go_wp2_with fail
        have kb0 := cell_regrown b0
        refine wp_region_quiet_below (by kernel_rfl) (by kernel_rfl) ?_
        repeat (go_big_quiet_step (fail))
        refine wpQuiet_nil ?_
        intro _ hw'
        obtain ⟨pr, rfl⟩ := hw'
        generalize hW4 : grow _ _ = W4
        have HX4 : Hid (Ext wr W4) := Lib.hid (by subst hW4; exact Ext.regrown _ _ _)
        clear hW4 kb0
        have BB4 := Lib.hid (rc_ext BB.out HX4.out)
        have x0' := (HX4.out.cell (p := ⟨cb, co + j * 3, none⟩) hl0).trans x0
        have x1' := (HX4.out.cell (p := ⟨cb, co + j * 3 + 1, none⟩) hl0).trans x1
        have x2' := (HX4.out.cell (p := ⟨cb, co + j * 3 + 2, none⟩) hl0).trans x2
        clear x0 x1 x2 b0 b1 b2
        obtain ⟨b0, b1, b2⟩ := rc_cells BB4.out
        obtain ⟨z0, z1, z2⟩ := rc_free BB4.out
        simp only at b0 b1 b2
        go_wp2_with fail
        go_roundw
        case rel => exact ⟨j + 1, by omega, by omega, by go_num, Lib.hid ⟨set3_ext (I.out.1.trans HX4.out) (Nat.le_refl _) _ _ _, by rw [HST'.out]; exact rset3 BB4.out _ _ _⟩⟩
        case measure => simp [RowKit.intOf]; omega
      · obtain ⟨pt, pv, ps⟩ := p
        simp only at hbi b0 b1 b2
        subst hbi
        obtain ⟨sb, so, t', rfl, ht', t0, _, _, _, _⟩ := tis_src HSN.out hkn
        obtain ⟨sb', so', u', e', hu', u0, _, _, _, _⟩ := tis_src HSN.out hbn
        simp at e'
        obtain ⟨rfl, rfl⟩ := e'
        have HTE : Hid (takes fr l ⟨bi, pv, ps⟩ ⟨k, xv, xs⟩ = decide (u'.w < t'.w)) := Lib.hid (by
          have : ((bi : Int) == -1) = false := by simp
          simp [takes, this, ht', hu'])
        clear ht' hu'
        obtain ⟨tw, htw⟩ : ∃ z, t'.w = z := ⟨_, rfl⟩
        obtain ⟨uw, huw⟩ : ∃ z, u'.w = z := ⟨_, rfl⟩
        rw [htw] at t0 HTE
        rw [huw] at u0 HTE
        clear htw huw
        have hl1 := World.block_lt_of_cell? wr _ t0
        have kb0 := cell_regrown b0
        have kx0 := cell_regrown x0
        have kt0 := cell_regrown t0
        have ku0 := cell_regrown u0
        have hd3 : decide ((bi : Int) < 0) = false := by simp
        by_cases htk : uw < tw
        · have HST' : Hid (bestOf fr l (cl.take (j + 1 - 1)) = ⟨k, xv, xs⟩) := Lib.hid (by rw [HST.out]; simp [bestStep, HTE.out, htk])
          have hd4 : decide (uw < tw) = true := by simp [htk]
          go_wp2_with fail
          refine wp_region_quiet_below (by kernel_rfl) (by kernel_rfl) ?_
          repeat (go_big_quiet_step (fail))
          refine wpQuiet_nil ?_
          intro _ hw'
          obtain ⟨pr, rfl⟩ := hw'
          generalize hW4 : grow _ _ = W4
          have HX4 : Hid (Ext wr W4) := Lib.hid (by subst hW4; exact Ext.regrown _ _ _)
          clear hW4 kb0 kx0 kt0 ku0
          have BB4 := Lib.hid (rc_ext BB.out HX4.out)
          have x0' := (HX4.out.cell (p := ⟨cb, co + j * 3, none⟩) hl0).trans x0
          have x1' := (HX4.out.cell (p := ⟨cb, co + j * 3 + 1, none⟩) hl0).trans x1
          have x2' := (HX4.out.cell (p := ⟨cb, co + j * 3 + 2, none⟩) hl0).trans x2
          clear x0 x1 x2 b0 b1 b2 t0 u0
          obtain ⟨b0, b1, b2⟩ := rc_cells BB4.out
          obtain ⟨z0, z1, z2⟩ := rc_free BB4.out
          simp only at b0 b1 b2
          go_wp2_with fail
          go_roundw
          case rel => exact ⟨j + 1, by omega, by omega, by go_num, Lib.hid ⟨set3_ext (I.out.1.trans HX4.out) (Nat.le_refl _) _ _ _, by rw [HST'.out]; exact rset3 BB4.out _ _ _⟩⟩
          case measure => simp [RowKit.intOf]; omega
        · have HST' : Hid (bestOf fr l (cl.take (j + 1 - 1)) = ⟨bi, pv, ps⟩) := Lib.hid (by rw [HST.out]; simp [bestStep, HTE.out, htk])
          have hd4 : decide (uw < tw) = false := by simp; omega
          go_wp2_with fail
          refine wp_region_quiet_below (by kernel_rfl) (by kernel_rfl) ?_
          repeat (go_big_quiet_step (fail))
          refine wpQuiet_nil ?_
          intro _ hw'
          obtain ⟨pr, rfl⟩ := hw'
          generalize hW4 : grow _ _ = W4
          have HX4 : Hid (Ext wr W4) := Lib.hid (by subst hW4; exact Ext.regrown _ _ _)
          clear hW4 kb0 kx0 kt0 ku0
          go_wp2_with fail
          go_roundw
          case rel => exact ⟨j + 1, by omega, by omega, by go_num, Lib.hid ⟨I.out.1.trans HX4.out, by rw [HST'.out]; exact rc_ext BB.out HX4.out⟩⟩
          case measure => simp [RowKit.intOf]; omega
    · have HTO : Hid (cl.take (j - 1) = cl) := Lib.hid (List.take_of_length_le (by have := HM.out; omega))
      have BB2 : Hid (rcBlk wr w1.heap.size (bestOf fr l cl)) := Lib.hid (by have := I.out.2; rw [HTO.out] at this; exact this)
      have HX2 := Lib.hid I.out.1
      clear I
      obtain ⟨p, hp⟩ : ∃ p, bestOf fr l cl = p := ⟨_, rfl⟩
      rw [hp] at BB2
      have HP := Lib.hid hp
      clear hp
      have BR2 := Lib.hid (rc_ext BR1.out HX2.out)
      obtain ⟨r0, r1, r2⟩ := rc_cells BR2.out
      obtain ⟨z0, z1, z2⟩ := rc_free BR2.out
      obtain ⟨b0, b1, b2⟩ := rc_cells BB2.out
      simp only at r0 r1 r2
      go_wp2_with fail
      have B3 := rc_cells (rset3 BR2.out p.t p.v p.s)
      have HX3 := Lib.hid (set3_ext (HX1.out.trans HX2.out) (b := w.heap.size + 1) (by omega) p.t p.v p.s)
      generalize World.setCell _ _ _ = W3 at *
      obtain ⟨y0, y1, y2⟩ := B3
      simp only at y0 y1 y2
      exact bodyPost_ret (v := .tuple #[.agg #[.int .i64 p.t, .int .i64 p.v, .int .i64 p.s], .int .i64 0]) (by simp [results, Try.results10, go_sem, y0, y1, y2]) rfl ⟨by rw [HP.out]; rfl, HX3.out⟩

end Go.Proofs.Ytpgnkknelaajdaa
