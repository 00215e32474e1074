/- PlanTells: the walk. -/
import Derived.Test.YtpgnkknelaajdaaPlanEdges
import Derived.Test.YtpgnkknelaajdaaRfb
import Derived.Test.YtpgnkknelaajdaaPlan
namespace Go.Proofs.Ytpgnkknelaajdaa
open Go.RowKit Go.Sort Go.Lib

theorem eq_rch (a b c x y z : Int) (W : World) : (binOp .eql 36 (.agg #[.int .i64 a, .int .i64 b, .int .i64 c]) (.agg #[.int .i64 x, .int .i64 y, .int .i64 z])).run Try.prog W = .ok (.bool (a == x && (b == y && c == z))) W := by
  have hp : Try.prog.stoodInHeld 36 = false := by kernel_rfl
  have hu := Try.underlying36
  simp [go_sem, hp, hu]
  repeat' split
  all_goals simp_all
theorem eq_rch' (a b c : Int) (W : World) : (binOp .eql 36 (.agg #[.int .i64 a, .int .i64 b, .int .i64 c]) (.agg #[.int .i64 a, .int .i64 b, .int .i64 c])).run Try.prog W = .ok (.bool true) W := by
  rw [eq_rch]; simp
theorem neq_rch' (a b c : Int) (W : World) : (binOp .neq 36 (.agg #[.int .i64 a, .int .i64 b, .int .i64 c]) (.agg #[.int .i64 a, .int .i64 b, .int .i64 c])).run Try.prog W = .ok (.bool false) W := by
  have hp : Try.prog.stoodInHeld 36 = false := by kernel_rfl
  have hu := Try.underlying36
  simp [go_sem, hp, hu]

/-- What both answers are. -/
structure Both (op fn : Int) (ser oth : ByteArray) (fr to wd st off gap tol fill low : Int) (n : Nat) (l : List Ti) (cs : List Pt) (bp : Pt) (er : Int) : Prop where
  all : ∀ (W : World) (a : Option Addr) (c : Nat), Src W 5 (.slice a n c) n (tis l) → Calls Try.prog 6 #[qV op fn ser oth fr to wd st off gap tol fill, .slice a n c, .int .i64 low] W fun e w' => ∃ oa m oc, e = .returned (.tuple #[.slice oa m oc, .int .i64 er]) ∧ Src w' 3 (.slice oa m oc) m (pts cs) ∧ m ≤ 5 ∧ Ext W w'
  best : ∀ (W : World) (a : Option Addr) (c : Nat), Src W 5 (.slice a n c) n (tis l) → Calls Try.prog 9 #[qV op fn ser oth fr to wd st off gap tol fill, .slice a n c, .int .i64 low] W fun e w' => e = .returned (.tuple #[.agg #[.int .i64 bp.t, .int .i64 bp.v, .int .i64 bp.s], .int .i64 er]) ∧ Ext W w'
  rall : ∀ (W : World) (a : Option Addr) (c : Nat), Src W 5 (.slice a n c) n (tis l) → Calls Try.prog 7 #[qV op fn ser oth fr to wd st off gap tol fill, .slice a n c, .int .i64 low] W fun e w' => ∃ oa m oc, e = .returned (.tuple #[.slice oa m oc, .int .i64 er]) ∧ Src w' 3 (.slice oa m oc) m (pts cs) ∧ m ≤ 5 ∧ Ext W w'
  rbest : ∀ (W : World) (a : Option Addr) (c : Nat), Src W 5 (.slice a n c) n (tis l) → Calls Try.prog 10 #[qV op fn ser oth fr to wd st off gap tol fill, .slice a n c, .int .i64 low] W fun e w' => e = .returned (.tuple #[.agg #[.int .i64 bp.t, .int .i64 bp.v, .int .i64 bp.s], .int .i64 er]) ∧ Ext W w'

theorem both (op fn : Int) (ser oth : ByteArray) (fr to wd st off gap tol fill : Int) (hse : ser.size ≤ maxLen) (hot : oth.size ≤ maxLen) (low : Int) (n : Nat) (l : List Ti) (hfi : fineB n l = true) :
    ∃ cs bp er, Both op fn ser oth fr to wd st off gap tol fill low n l cs bp er := by
  obtain ⟨hn4, hfin⟩ := fineB_le hfi
  by_cases he : allErr op fn ser oth fr to wd st off gap tol fill low = 0
  · have hck : planCheckB op fn ser oth fr to wd st off gap tol fill = true := by
      cases h : planCheckB op fn ser oth fr to wd st off gap tol fill with
      | true => rfl
      | false => simp [allErr, h] at he
    have hl : ¬ (low < -1152921504606846976 ∨ 1152921504606846976 < low) := by
      intro h; simp [allErr, hck, h] at he
    obtain ⟨⟨f1, f2⟩, g1, g2⟩ := planCheck_bounds hck
    refine ⟨choices fr to wd st off low l, bestOf fr l (chFrom fr to wd st off low l 0), 0, ?_, ?_, ?_, ?_⟩
    · exact fun W a c hs => (all_ok op fn ser oth fr to wd st off gap tol fill hse hot low W a n c l hs hn4 hfin hck f1 f2 g1 g2 (by omega) (by omega)).mono fun e w' ⟨oa, m, oc, h1, h2, h3, _, h5⟩ => ⟨oa, m, oc, h1, h2, h3, h5⟩
    · exact fun W a c hs => best_ok op fn ser oth fr to wd st off gap tol fill hse hot low W a n c l hs hn4 hfin hck f1 f2 g1 g2 (by omega) (by omega)
    · exact fun W a c hs => (refAll_ok op fn ser oth fr to wd st off gap tol fill hse hot low W a n c l hs hn4 hfin hck f1 f2 g1 g2 (by omega) (by omega)).mono fun e w' ⟨oa, m, oc, h1, h2, h3, _, h5⟩ => ⟨oa, m, oc, h1, h2, h3, h5⟩
    · exact fun W a c hs => refBest_ok op fn ser oth fr to wd st off gap tol fill hse hot low W a n c l hs hn4 hfin hck f1 f2 g1 g2 (by omega) (by omega)
  · refine ⟨[], ⟨0, 0, 0⟩, allErr op fn ser oth fr to wd st off gap tol fill low, ?_, ?_, ?_, ?_⟩
    · exact fun W a c hs => (all_bad op fn ser oth fr to wd st off gap tol fill hse hot low W (.slice a n c) he).mono fun e w' ⟨h1, h2⟩ => ⟨none, 0, 0, h1, .inl ⟨rfl, rfl, rfl⟩, by omega, h2⟩
    · exact fun W a c hs => best_bad op fn ser oth fr to wd st off gap tol fill hse hot low W a n c he
    · exact fun W a c hs => (refAll_bad op fn ser oth fr to wd st off gap tol fill hse hot low W a n c he).mono fun e w' ⟨h1, h2⟩ => ⟨none, 0, 0, h1, .inl ⟨rfl, rfl, rfl⟩, by omega, h2⟩
    · exact fun W a c hs => refBest_bad op fn ser oth fr to wd st off gap tol fill hse hot low W a n c he

theorem one_all (w : World) : Calls Try.prog 6 #[qV 1 0 ⟨#[97]⟩ ⟨#[]⟩ 0 9 3 3 0 0 0 0, .slice none 0 0, .int .i64 0] w fun e w' => ∃ b off oc, e = .returned (.tuple #[.slice (some ⟨b, off, none⟩) 1 oc, .int .i64 0]) ∧ w'.cell? ⟨b, off, none⟩ = some (.int .i64 (-1)) ∧ Ext w w' :=
  (all_ok 1 0 ⟨#[97]⟩ ⟨#[]⟩ 0 9 3 3 0 0 0 0 (by decide +kernel) (by decide +kernel) 0 w none 0 0 [] (.inl ⟨rfl, rfl, rfl⟩) (by omega) (by simp) (by decide +kernel) (by omega) (by omega) (by omega) (by omega) (by omega) (by omega)).mono (by
    rintro e w' ⟨oa, m, oc, rfl, hs, _, _, hx⟩
    have hm := src_len hs
    simp [choices, chFrom] at hm
    subst hm
    obtain ⟨b, off, p, rfl, hp, h0, _, _⟩ := pts_src hs (show 0 < 1 by omega)
    simp [choices, chFrom] at hp
    subst hp
    exact ⟨b, off, oc, rfl, by simpa using h0, hx⟩)

set_option maxHeartbeats 2000000 in
set_option maxRecDepth 100000 in
theorem planTells_not (op fn : Int) (ser oth : ByteArray) (fr to wd st off gap tol fill : Int) (low : Int) (w : World) (a : Option Addr) (n c : Nat) (l : List Ti) (hs : Src w 5 (.slice a n c) n (tis l)) (hn : n ≤ 4398046511104) (h : fineB n l = false) :
    Calls Try.prog 3 #[qV op fn ser oth fr to wd st off gap tol fill, .slice a n c, .int .i64 low] w fun e w' => e = .returned (.bool true) ∧ Ext w w' := by
  have HFI := Lib.hid (fun W (hx : Ext w W) => fine_any W a n c l (hs.ext hx) hn)
  rw [h] at HFI
  clear hs h
  unfold qV
  go_enter Try.func3, Try.ntmps3
  go_wp2_with (first
    | (go_at_call 5; refine (HFI.out _ ((Ext.refl _).alloc _)).mono ?_; rintro e w1 ⟨rfl, hx1⟩; have HX := Lib.hid (((Ext.refl w).alloc _).trans hx1); clear hx1))
  go_ret
  exact ⟨rfl, HX.out⟩

set_option maxHeartbeats 8000000 in
set_option maxRecDepth 100000 in
theorem planTells_ok (op fn : Int) (ser oth : ByteArray) (fr to wd st off gap tol fill : Int) (low : Int) (w : World) (a : Option Addr) (n c : Nat) (l : List Ti) (hs : Src w 5 (.slice a n c) n (tis l)) (hn : n ≤ 4398046511104) (hfi : fineB n l = true) (cs : List Pt) (bp : Pt) (er : Int) (hB : Both op fn ser oth fr to wd st off gap tol fill low n l cs bp er) :
    Calls Try.prog 3 #[qV op fn ser oth fr to wd st off gap tol fill, .slice a n c, .int .i64 low] w fun e w' => e = .returned (.bool true) ∧ Ext w w' := by
  have HFI := Lib.hid (fun W (hx : Ext w W) => fine_any W a n c l (hs.ext hx) hn)
  rw [hfi] at HFI
  have hn4 := (fineB_le hfi).1
  have HB := Lib.hid hB
  have HS := Lib.hid hs
  have HO := Lib.hid one_all
  clear hs hB hfi hn
  unfold qV at *
  have heq := eq_rch'
  have hne := neq_rch'
  have hg : Try.prog.eqGuardType Try.prog.depth 36 = false := by kernel_rfl
  go_enter Try.func3, Try.ntmps3
  go_wp2_with fail
  generalize hW : World.alloc _ _ = W
  have HX : Hid (Ext w W) := Lib.hid (by subst hW; exact (Ext.refl w).alloc _)
  have BQ : Hid (qBlk W w.heap.size op fn ser oth fr to wd st off gap tol fill) := Lib.hid (by subst hW; exact heap_alloc_new w _)
  clear hW
  refine (HFI.out W HX.out).mono ?_
  rintro e w1 ⟨rfl, hx1⟩
  have BQ1 : Hid (qBlk w1 w.heap.size op fn ser oth fr to wd st off gap tol fill) := Lib.hid ((hx1.block (block_lt BQ.out)).trans BQ.out)
  have HX1 := Lib.hid (HX.out.trans hx1)
  clear hx1 HX BQ HFI
  have c0 : w1.cell? ⟨w.heap.size, 0, none⟩ = some (.int .i64 op) := by have := cell_of_block BQ1.out 0; simpa using this
  have c1 : w1.cell? ⟨w.heap.size, 1, none⟩ = some (.int .i64 fn) := by have := cell_of_block BQ1.out 1; simpa using this
  have c2 : w1.cell? ⟨w.heap.size, 2, none⟩ = some (.string ser) := by have := cell_of_block BQ1.out 2; simpa using this
  have c3 : w1.cell? ⟨w.heap.size, 3, none⟩ = some (.string oth) := by have := cell_of_block BQ1.out 3; simpa using this
  have c4 : w1.cell? ⟨w.heap.size, 4, none⟩ = some (.int .i64 fr) := by have := cell_of_block BQ1.out 4; simpa using this
  have c5 : w1.cell? ⟨w.heap.size, 5, none⟩ = some (.int .i64 to) := by have := cell_of_block BQ1.out 5; simpa using this
  have c6 : w1.cell? ⟨w.heap.size, 6, none⟩ = some (.int .i64 wd) := by have := cell_of_block BQ1.out 6; simpa using this
  have c7 : w1.cell? ⟨w.heap.size, 7, none⟩ = some (.int .i64 st) := by have := cell_of_block BQ1.out 7; simpa using this
  have c8 : w1.cell? ⟨w.heap.size, 8, none⟩ = some (.int .i64 off) := by have := cell_of_block BQ1.out 8; simpa using this
  have c9 : w1.cell? ⟨w.heap.size, 9, none⟩ = some (.int .i64 gap) := by have := cell_of_block BQ1.out 9; simpa using this
  have c10 : w1.cell? ⟨w.heap.size, 10, none⟩ = some (.int .i64 tol) := by have := cell_of_block BQ1.out 10; simpa using this
  have c11 : w1.cell? ⟨w.heap.size, 11, none⟩ = some (.int .i64 fill) := by have := cell_of_block BQ1.out 11; simpa using this
  go_wp2_with fail
  refine (HB.out.all w1 a c (HS.out.ext HX1.out)).mono ?_
  rintro e w2 ⟨xa, m, xc, rfl, hs2, hm5, hx2⟩
  clear c0 c1 c2 c3 c4 c5 c6 c7 c8 c9 c10 c11
  have BQ2 : Hid (qBlk w2 w.heap.size op fn ser oth fr to wd st off gap tol fill) := Lib.hid ((hx2.block (block_lt BQ1.out)).trans BQ1.out)
  have HX2 := Lib.hid (HX1.out.trans hx2)
  have HS2 := Lib.hid hs2
  have Lm := Lib.hid (src_len hs2)
  clear hx2 HX1 BQ1 hs2
  have c0 := cell_turned (T := fun _ => false) (show w2.cell? ⟨w.heap.size, 0, none⟩ = some (.int .i64 op) by have := cell_of_block BQ2.out 0; simpa using this) rfl
  have c1 := cell_turned (T := fun _ => false) (show w2.cell? ⟨w.heap.size, 1, none⟩ = some (.int .i64 fn) by have := cell_of_block BQ2.out 1; simpa using this) rfl
  have c2 := cell_turned (T := fun _ => false) (show w2.cell? ⟨w.heap.size, 2, none⟩ = some (.string ser) by have := cell_of_block BQ2.out 2; simpa using this) rfl
  have c3 := cell_turned (T := fun _ => false) (show w2.cell? ⟨w.heap.size, 3, none⟩ = some (.string oth) by have := cell_of_block BQ2.out 3; simpa using this) rfl
  have c4 := cell_turned (T := fun _ => false) (show w2.cell? ⟨w.heap.size, 4, none⟩ = some (.int .i64 fr) by have := cell_of_block BQ2.out 4; simpa using this) rfl
  have c5 := cell_turned (T := fun _ => false) (show w2.cell? ⟨w.heap.size, 5, none⟩ = some (.int .i64 to) by have := cell_of_block BQ2.out 5; simpa using this) rfl
  have c6 := cell_turned (T := fun _ => false) (show w2.cell? ⟨w.heap.size, 6, none⟩ = some (.int .i64 wd) by have := cell_of_block BQ2.out 6; simpa using this) rfl
  have c7 := cell_turned (T := fun _ => false) (show w2.cell? ⟨w.heap.size, 7, none⟩ = some (.int .i64 st) by have := cell_of_block BQ2.out 7; simpa using this) rfl
  have c8 := cell_turned (T := fun _ => false) (show w2.cell? ⟨w.heap.size, 8, none⟩ = some (.int .i64 off) by have := cell_of_block BQ2.out 8; simpa using this) rfl
  have c9 := cell_turned (T := fun _ => false) (show w2.cell? ⟨w.heap.size, 9, none⟩ = some (.int .i64 gap) by have := cell_of_block BQ2.out 9; simpa using this) rfl
  have c10 := cell_turned (T := fun _ => false) (show w2.cell? ⟨w.heap.size, 10, none⟩ = some (.int .i64 tol) by have := cell_of_block BQ2.out 10; simpa using this) rfl
  have c11 := cell_turned (T := fun _ => false) (show w2.cell? ⟨w.heap.size, 11, none⟩ = some (.int .i64 fill) by have := cell_of_block BQ2.out 11; simpa using this) rfl
  go_wp2_with fail
  refine wp_region_plan 9 (fun w' => ∃ p : Turned, w' = turned w2 (fun _ => false) p.d p.f p.os) (.reads [0, 1, 3] (.one 2 (.one 4 (.reads [5, 6, 7] (.one 8 (.one 9 .done)))))) (by kernel_rfl) (by kernel_rfl) (fun _ _ dd _ _ hh => by cases dd <;> exact hh) ?_ ?_
  · exact turned_of_ext (Ext.drewN w2 1)
  refine wpPlan_reads ?_
  simp only [pickOps, List.getElem?_cons_succ, List.getElem?_cons_zero]
  repeat (go_big_quiet_step (fail))
  refine wpQuiet_nil ?_
  clear c0 c1 c2 c3 c4 c5 c6 c7 c8 c9 c10 c11
  refine wpPlan_one ?_
  simp only [pickOps, List.getElem?_cons_succ, List.getElem?_cons_zero]
  go_wp2_with fail
  refine (own_any w2.drew a n c l (HS.out.ext (HX2.out.trans (Ext.refl w2).drew)) (by omega)).mono ?_
  rintro e w3 ⟨oa, oc, rfl, hs3, hx3⟩
  have HX3 : Hid (Ext w2 w3) := Lib.hid ((Ext.refl w2).drew.trans hx3)
  have HS3 := Lib.hid hs3
  clear hs3 hx3
  go_wp2_with fail
  refine thenX_mk (turned_of_ext HX3.out) (wpPlan_one ?_)
  simp only [pickOps, List.getElem?_cons_succ, List.getElem?_cons_zero]
  go_wp2_with fail
  refine (HB.out.rall w3 oa oc HS3.out).mono ?_
  rintro e w4 ⟨ya, m', yc, rfl, hs4, hm', hx4⟩
  obtain rfl : m' = m := by have h1 := src_len hs4; have h2 := Lm.out; omega
  have HX4 := Lib.hid (HX3.out.trans hx4)
  have HS4 := Lib.hid hs4
  clear hs4 hx4 hm' HS3 HX3
  go_wp2_with fail
  refine thenX_mk (turned_of_ext HX4.out) (wpPlan_reads ?_)
  simp only [pickOps, List.getElem?_cons_succ, List.getElem?_cons_zero]
  repeat (go_big_quiet_step (fail))
  refine wpQuiet_nil ?_
  refine wpPlan_one ?_
  simp only [pickOps, List.getElem?_cons_succ, List.getElem?_cons_zero]
  go_wp2_with fail
  refine thenX_mk (turned_of_ext HX4.out) (wpPlan_one ?_)
  simp only [pickOps, List.getElem?_cons_succ, List.getElem?_cons_zero]
  go_wp2_with fail
  refine thenX_last (wpPlan_done ?_)
  have HXS := Lib.hid (HS2.out.ext HX4.out)
  have BQ4 : Hid (qBlk w4 w.heap.size op fn ser oth fr to wd st off gap tol fill) := Lib.hid ((HX4.out.block (block_lt BQ2.out)).trans BQ2.out)
  have HXW := Lib.hid (HX2.out.trans HX4.out)
  clear HX4 HX2 HS2 BQ2
  go_wp2_with fail
  go_loopw [11] (fun i wr => ∃ j : Nat, j ≤ m' ∧ i = .int .i64 j ∧ Hid (Ext w4 wr)) (fun i _ => m' - (RowKit.intOf i).toNat)
  case atStart => exact ⟨0, by omega, rfl, Lib.hid (Ext.refl _)⟩
  case round =>
    obtain ⟨j, hj, rfl, I⟩ := hrel
    by_cases hlt : j < m'
    · obtain ⟨xb, xo, p, rfl, hp, x0, x1, x2⟩ := pts_src (HXS.out.ext I.out) hlt
      obtain ⟨yb, yo, p', rfl, hp', y0, y1, y2⟩ := pts_src (HS4.out.ext I.out) hlt
      rw [hp] at hp'
      simp at hp'
      subst hp'
      clear hp
      have kx0 := cell_regrown x0
      have kx1 := cell_regrown x1
      have kx2 := cell_regrown x2
      have ky0 := cell_regrown y0
      have ky1 := cell_regrown y1
      have ky2 := cell_regrown y2
      clear x0 x1 x2 y0 y1 y2
      go_wp2_with fail
      refine wp_region_quiet_below (by kernel_rfl) (by kernel_rfl) ?_
      repeat (go_big_quiet_step (fail))
      refine wpQuiet_nil ?_
      intro _ hw'
      obtain ⟨pr, rfl⟩ := hw'
      generalize hW5 : grow _ _ = W5
      have HX5 : Hid (Ext wr W5) := Lib.hid (by subst hW5; exact Ext.regrown _ _ _)
      clear hW5 kx0 kx1 kx2 ky0 ky1 ky2
      go_wp2_with fail
      go_roundw
      case rel => exact ⟨j + 1, by omega, by go_num, Lib.hid (I.out.trans HX5.out)⟩
      case measure => simp [RowKit.intOf]; omega
    · have BQ5 : Hid (qBlk wr w.heap.size op fn ser oth fr to wd st off gap tol fill) := Lib.hid ((I.out.block (block_lt BQ4.out)).trans BQ4.out)
      have HX5 := Lib.hid (HXW.out.trans I.out)
      clear HXW I BQ4 HXS HS4
      have c0 : wr.cell? ⟨w.heap.size, 0, none⟩ = some (.int .i64 op) := by have := cell_of_block BQ5.out 0; simpa using this
      have c1 : wr.cell? ⟨w.heap.size, 1, none⟩ = some (.int .i64 fn) := by have := cell_of_block BQ5.out 1; simpa using this
      have c2 : wr.cell? ⟨w.heap.size, 2, none⟩ = some (.string ser) := by have := cell_of_block BQ5.out 2; simpa using this
      have c3 : wr.cell? ⟨w.heap.size, 3, none⟩ = some (.string oth) := by have := cell_of_block BQ5.out 3; simpa using this
      have c4 : wr.cell? ⟨w.heap.size, 4, none⟩ = some (.int .i64 fr) := by have := cell_of_block BQ5.out 4; simpa using this
      have c5 : wr.cell? ⟨w.heap.size, 5, none⟩ = some (.int .i64 to) := by have := cell_of_block BQ5.out 5; simpa using this
      have c6 : wr.cell? ⟨w.heap.size, 6, none⟩ = some (.int .i64 wd) := by have := cell_of_block BQ5.out 6; simpa using this
      have c7 : wr.cell? ⟨w.heap.size, 7, none⟩ = some (.int .i64 st) := by have := cell_of_block BQ5.out 7; simpa using this
      have c8 : wr.cell? ⟨w.heap.size, 8, none⟩ = some (.int .i64 off) := by have := cell_of_block BQ5.out 8; simpa using this
      have c9 : wr.cell? ⟨w.heap.size, 9, none⟩ = some (.int .i64 gap) := by have := cell_of_block BQ5.out 9; simpa using this
      have c10 : wr.cell? ⟨w.heap.size, 10, none⟩ = some (.int .i64 tol) := by have := cell_of_block BQ5.out 10; simpa using this
      have c11 : wr.cell? ⟨w.heap.size, 11, none⟩ = some (.int .i64 fill) := by have := cell_of_block BQ5.out 11; simpa using this
      go_wp2_with fail
      refine (HB.out.best wr a c (HS.out.ext HX5.out)).mono ?_
      rintro e w6 ⟨rfl, hx6⟩
      clear c0 c1 c2 c3 c4 c5 c6 c7 c8 c9 c10 c11
      have BQ6 : Hid (qBlk w6 w.heap.size op fn ser oth fr to wd st off gap tol fill) := Lib.hid ((hx6.block (block_lt BQ5.out)).trans BQ5.out)
      have HX6 := Lib.hid (HX5.out.trans hx6)
      clear hx6 HX5 BQ5
      go_wp2_with fail
      have HXA := Lib.hid ((Ext.refl w6).alloc (.cells #[.int .i64 bp.t, .int .i64 bp.v, .int .i64 bp.s] 37 (0, 0)))
      have B7 : Hid (chBlk (w6.alloc (.cells #[.int .i64 bp.t, .int .i64 bp.v, .int .i64 bp.s] 37 (0, 0))) w6.heap.size bp) := Lib.hid (heap_alloc_new w6 _)
      generalize hwa : w6.alloc (.cells #[.int .i64 bp.t, .int .i64 bp.v, .int .i64 bp.s] 37 (0, 0)) = w7 at *
      clear hwa
      have BQ7 : Hid (qBlk w7 w.heap.size op fn ser oth fr to wd st off gap tol fill) := Lib.hid ((HXA.out.block (block_lt BQ6.out)).trans BQ6.out)
      have HX7 := Lib.hid (HX6.out.trans HXA.out)
      clear HX6 HXA BQ6
      have c0 := cell_turned (T := fun _ => false) (show w7.cell? ⟨w.heap.size, 0, none⟩ = some (.int .i64 op) by have := cell_of_block BQ7.out 0; simpa using this) rfl
      have c1 := cell_turned (T := fun _ => false) (show w7.cell? ⟨w.heap.size, 1, none⟩ = some (.int .i64 fn) by have := cell_of_block BQ7.out 1; simpa using this) rfl
      have c2 := cell_turned (T := fun _ => false) (show w7.cell? ⟨w.heap.size, 2, none⟩ = some (.string ser) by have := cell_of_block BQ7.out 2; simpa using this) rfl
      have c3 := cell_turned (T := fun _ => false) (show w7.cell? ⟨w.heap.size, 3, none⟩ = some (.string oth) by have := cell_of_block BQ7.out 3; simpa using this) rfl
      have c4 := cell_turned (T := fun _ => false) (show w7.cell? ⟨w.heap.size, 4, none⟩ = some (.int .i64 fr) by have := cell_of_block BQ7.out 4; simpa using this) rfl
      have c5 := cell_turned (T := fun _ => false) (show w7.cell? ⟨w.heap.size, 5, none⟩ = some (.int .i64 to) by have := cell_of_block BQ7.out 5; simpa using this) rfl
      have c6 := cell_turned (T := fun _ => false) (show w7.cell? ⟨w.heap.size, 6, none⟩ = some (.int .i64 wd) by have := cell_of_block BQ7.out 6; simpa using this) rfl
      have c7 := cell_turned (T := fun _ => false) (show w7.cell? ⟨w.heap.size, 7, none⟩ = some (.int .i64 st) by have := cell_of_block BQ7.out 7; simpa using this) rfl
      have c8 := cell_turned (T := fun _ => false) (show w7.cell? ⟨w.heap.size, 8, none⟩ = some (.int .i64 off) by have := cell_of_block BQ7.out 8; simpa using this) rfl
      have c9 := cell_turned (T := fun _ => false) (show w7.cell? ⟨w.heap.size, 9, none⟩ = some (.int .i64 gap) by have := cell_of_block BQ7.out 9; simpa using this) rfl
      have c10 := cell_turned (T := fun _ => false) (show w7.cell? ⟨w.heap.size, 10, none⟩ = some (.int .i64 tol) by have := cell_of_block BQ7.out 10; simpa using this) rfl
      have c11 := cell_turned (T := fun _ => false) (show w7.cell? ⟨w.heap.size, 11, none⟩ = some (.int .i64 fill) by have := cell_of_block BQ7.out 11; simpa using this) rfl
      refine wp_region_plan 10 (fun w' => ∃ p : Turned, w' = turned w7 (fun _ => false) p.d p.f p.os) (.reads [0, 1, 3] (.two 2 (.two 4 (.reads [5, 6, 7] (.one 8 (.one 9 (.one 10 .done)))) 8 (.one 4 (.reads [5, 6, 7] (.one 9 (.one 10 .done))))) 8 (.one 2 (.one 4 (.reads [5, 6, 7] (.one 9 (.one 10 .done))))))) (by kernel_rfl) (by kernel_rfl) (fun _ _ dd _ _ hh => by cases dd <;> exact hh) ?_ ?_
      · exact turned_of_ext (Ext.drewN w7 1)
      refine wpPlan_reads ?_
      simp only [pickOps, List.getElem?_cons_succ, List.getElem?_cons_zero]
      repeat (go_big_quiet_step (fail))
      refine wpQuiet_nil ?_
      clear c0 c1 c2 c3 c4 c5 c6 c7 c8 c9 c10 c11
      refine wpPlan_two ?_ ?_
      · simp only [pickOps, List.getElem?_cons_succ, List.getElem?_cons_zero]
        go_wp2_with fail
        refine (own_any w7.drew a n c l (HS.out.ext (HX7.out.trans (Ext.refl w7).drew)) (by omega)).mono ?_
        rintro e w8 ⟨oa', oc', rfl, hs8, hx8⟩
        have HXO : Hid (Ext w7 w8) := Lib.hid (((Ext.refl w7).drew).trans hx8)
        have HS8 := Lib.hid hs8
        have HO8 := Lib.hid hx8
        clear hs8 hx8
        go_wp2_with fail
        refine thenX_mk (turned_of_ext HXO.out) (wpPlan_two ?_ ?_)
        · simp only [pickOps, List.getElem?_cons_succ, List.getElem?_cons_zero]
          go_wp2_with fail
          refine (HB.out.rbest w8 oa' oc' HS8.out).mono ?_
          rintro e w9 ⟨rfl, hx9⟩
          have HXB : Hid (Ext w7 w9) := Lib.hid ((HXO.out).trans hx9)
          have HB9 := Lib.hid hx9
          clear hx9
          go_wp2_with fail
          refine thenX_mk (turned_of_ext HXB.out) (wpPlan_reads ?_)
          simp only [pickOps, List.getElem?_cons_succ, List.getElem?_cons_zero]
          repeat (go_big_quiet_step (fail))
          refine wpQuiet_nil ?_
          refine wpPlan_one ?_
          simp only [pickOps, List.getElem?_cons_succ, List.getElem?_cons_zero]
          go_wp2_with fail
          have BZ0 : Hid (rcBlk (w9.alloc (.cells #[.int .i64 0, .int .i64 0, .int .i64 0] 36 (0, 0))) w9.heap.size ⟨0, 0, 0⟩) := Lib.hid (heap_alloc_new _ _)
          have HXZ0 : Hid (Ext w9 (w9.alloc (.cells #[.int .i64 0, .int .i64 0, .int .i64 0] 36 (0, 0)))) := Lib.hid ((Ext.refl w9).alloc _)
          generalize hwz : w9.alloc (.cells #[.int .i64 0, .int .i64 0, .int .i64 0] 36 (0, 0)) = wA at *
          clear hwz
          have HXZ : Hid (Ext w7 wA) := Lib.hid ((HXB.out).trans HXZ0.out)
          refine thenX_mk (turned_of_ext HXZ.out) ?_
          have BZ1 := Lib.hid (BZ0.out)
          obtain ⟨r0, r1, r2⟩ := rc_cells BZ1.out
          obtain ⟨z0, z1, z2⟩ := rc_free BZ1.out
          simp only at r0 r1 r2
          refine wpPlan_one ?_
          simp only [pickOps, List.getElem?_cons_succ, List.getElem?_cons_zero]
          go_wp2_with fail
          have BZ2 := Lib.hid (rset3 BZ1.out bp.t bp.v bp.s)
          have HX9 := Lib.hid (set3_ext (HXZ.out) (b := w9.heap.size) (HXB.out.size) bp.t bp.v bp.s)
          generalize World.setCell _ _ _ = wz at *
          clear r0 r1 r2 z0 z1 z2
          refine thenX_mk (turned_of_ext HX9.out) (wpPlan_one ?_)
          simp only [pickOps, List.getElem?_cons_succ, List.getElem?_cons_zero]
          go_wp2_with fail
          refine thenX_last (wpPlan_done ?_)
          go_wp2_with fail
          have BB := Lib.hid (ch_ext B7.out HX9.out)
          refine (HO.out wz).mono ?_
          rintro e wo ⟨ob, oo, oc2, rfl, ho, hxo⟩
          obtain ⟨b0, b1, b2⟩ := ch_cells (ch_ext BB.out hxo)
          obtain ⟨z0, z1, z2⟩ := rc_cells (rc_ext BZ2.out hxo)
          simp only at z0 z1 z2
          have HXO2 := Lib.hid ((HX7.out.trans HX9.out).trans hxo)
          clear hxo
          go_wp2_with fail
          go_ret
          exact ⟨rfl, HXO2.out⟩
        · simp only [pickOps, List.getElem?_cons_succ, List.getElem?_cons_zero]
          go_wp2_with fail
          have BZ0 : Hid (rcBlk (w8.alloc (.cells #[.int .i64 0, .int .i64 0, .int .i64 0] 36 (0, 0))) w8.heap.size ⟨0, 0, 0⟩) := Lib.hid (heap_alloc_new _ _)
          have HXZ0 : Hid (Ext w8 (w8.alloc (.cells #[.int .i64 0, .int .i64 0, .int .i64 0] 36 (0, 0)))) := Lib.hid ((Ext.refl w8).alloc _)
          generalize hwz : w8.alloc (.cells #[.int .i64 0, .int .i64 0, .int .i64 0] 36 (0, 0)) = wA at *
          clear hwz
          have HXZ : Hid (Ext w7 wA) := Lib.hid ((HXO.out).trans HXZ0.out)
          refine thenX_mk (turned_of_ext HXZ.out) (wpPlan_one ?_)
          simp only [pickOps, List.getElem?_cons_succ, List.getElem?_cons_zero]
          go_wp2_with fail
          refine (HB.out.rbest wA oa' oc' (HS8.out.ext HXZ0.out)).mono ?_
          rintro e w9 ⟨rfl, hx9⟩
          have HXB : Hid (Ext w7 w9) := Lib.hid ((HXZ.out).trans hx9)
          have HB9 := Lib.hid hx9
          clear hx9
          go_wp2_with fail
          refine thenX_mk (turned_of_ext HXB.out) (wpPlan_reads ?_)
          simp only [pickOps, List.getElem?_cons_succ, List.getElem?_cons_zero]
          repeat (go_big_quiet_step (fail))
          refine wpQuiet_nil ?_
          have BZ1 := Lib.hid (rc_ext BZ0.out HB9.out)
          obtain ⟨r0, r1, r2⟩ := rc_cells BZ1.out
          obtain ⟨z0, z1, z2⟩ := rc_free BZ1.out
          simp only at r0 r1 r2
          refine wpPlan_one ?_
          simp only [pickOps, List.getElem?_cons_succ, List.getElem?_cons_zero]
          go_wp2_with fail
          have BZ2 := Lib.hid (rset3 BZ1.out bp.t bp.v bp.s)
          have HX9 := Lib.hid (set3_ext (HXB.out) (b := w8.heap.size) (HXO.out.size) bp.t bp.v bp.s)
          generalize World.setCell _ _ _ = wz at *
          clear r0 r1 r2 z0 z1 z2
          refine thenX_mk (turned_of_ext HX9.out) (wpPlan_one ?_)
          simp only [pickOps, List.getElem?_cons_succ, List.getElem?_cons_zero]
          go_wp2_with fail
          refine thenX_last (wpPlan_done ?_)
          go_wp2_with fail
          have BB := Lib.hid (ch_ext B7.out HX9.out)
          refine (HO.out wz).mono ?_
          rintro e wo ⟨ob, oo, oc2, rfl, ho, hxo⟩
          obtain ⟨b0, b1, b2⟩ := ch_cells (ch_ext BB.out hxo)
          obtain ⟨z0, z1, z2⟩ := rc_cells (rc_ext BZ2.out hxo)
          simp only at z0 z1 z2
          have HXO2 := Lib.hid ((HX7.out.trans HX9.out).trans hxo)
          clear hxo
          go_wp2_with fail
          go_ret
          exact ⟨rfl, HXO2.out⟩
      · simp only [pickOps, List.getElem?_cons_succ, List.getElem?_cons_zero]
        go_wp2_with fail
        have BZ0 : Hid (rcBlk (w7.alloc (.cells #[.int .i64 0, .int .i64 0, .int .i64 0] 36 (0, 0))).drew w7.heap.size ⟨0, 0, 0⟩) := Lib.hid (heap_alloc_new w7 _)
        have HXZ0 : Hid (Ext w7 (w7.alloc (.cells #[.int .i64 0, .int .i64 0, .int .i64 0] 36 (0, 0))).drew) := Lib.hid ((Ext.refl w7).alloc _).drew
        generalize hwz : (w7.alloc (.cells #[.int .i64 0, .int .i64 0, .int .i64 0] 36 (0, 0))).drew = wA at *
        clear hwz
        have HXZ : Hid (Ext w7 wA) := HXZ0
        refine thenX_mk (turned_of_ext HXZ.out) (wpPlan_one ?_)
        simp only [pickOps, List.getElem?_cons_succ, List.getElem?_cons_zero]
        go_wp2_with fail
        refine (own_any wA a n c l (HS.out.ext (HX7.out.trans HXZ.out)) (by omega)).mono ?_
        rintro e w8 ⟨oa', oc', rfl, hs8, hx8⟩
        have HXO : Hid (Ext w7 w8) := Lib.hid ((HXZ.out).trans hx8)
        have HS8 := Lib.hid hs8
        have HO8 := Lib.hid hx8
        clear hs8 hx8
        go_wp2_with fail
        refine thenX_mk (turned_of_ext HXO.out) (wpPlan_one ?_)
        simp only [pickOps, List.getElem?_cons_succ, List.getElem?_cons_zero]
        go_wp2_with fail
        refine (HB.out.rbest w8 oa' oc' HS8.out).mono ?_
        rintro e w9 ⟨rfl, hx9⟩
        have HXB : Hid (Ext w7 w9) := Lib.hid ((HXO.out).trans hx9)
        have HB9 := Lib.hid hx9
        clear hx9
        go_wp2_with fail
        refine thenX_mk (turned_of_ext HXB.out) (wpPlan_reads ?_)
        simp only [pickOps, List.getElem?_cons_succ, List.getElem?_cons_zero]
        repeat (go_big_quiet_step (fail))
        refine wpQuiet_nil ?_
        have BZ1 := Lib.hid (rc_ext (rc_ext BZ0.out HO8.out) HB9.out)
        obtain ⟨r0, r1, r2⟩ := rc_cells BZ1.out
        obtain ⟨z0, z1, z2⟩ := rc_free BZ1.out
        simp only at r0 r1 r2
        refine wpPlan_one ?_
        simp only [pickOps, List.getElem?_cons_succ, List.getElem?_cons_zero]
        go_wp2_with fail
        have BZ2 := Lib.hid (rset3 BZ1.out bp.t bp.v bp.s)
        have HX9 := Lib.hid (set3_ext (HXB.out) (b := w7.heap.size) (Nat.le_refl _) bp.t bp.v bp.s)
        generalize World.setCell _ _ _ = wz at *
        clear r0 r1 r2 z0 z1 z2
        refine thenX_mk (turned_of_ext HX9.out) (wpPlan_one ?_)
        simp only [pickOps, List.getElem?_cons_succ, List.getElem?_cons_zero]
        go_wp2_with fail
        refine thenX_last (wpPlan_done ?_)
        go_wp2_with fail
        have BB := Lib.hid (ch_ext B7.out HX9.out)
        refine (HO.out wz).mono ?_
        rintro e wo ⟨ob, oo, oc2, rfl, ho, hxo⟩
        obtain ⟨b0, b1, b2⟩ := ch_cells (ch_ext BB.out hxo)
        obtain ⟨z0, z1, z2⟩ := rc_cells (rc_ext BZ2.out hxo)
        simp only at z0 z1 z2
        have HXO2 := Lib.hid ((HX7.out.trans HX9.out).trans hxo)
        clear hxo
        go_wp2_with fail
        go_ret
        exact ⟨rfl, HXO2.out⟩

end Go.Proofs.Ytpgnkknelaajdaa
