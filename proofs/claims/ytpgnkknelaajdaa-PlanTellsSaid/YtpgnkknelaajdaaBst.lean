/- tidemilllaw26.fine; plan.All where it refuses; plan.Best. -/
import Derived.Test.YtpgnkknelaajdaaRgt
namespace Go.Proofs.Ytpgnkknelaajdaa
open Go.RowKit Go.Sort Go.Lib

def fineB (n : Nat) (l : List Ti) : Bool := decide (n ≤ 4) && l.all tierOk

set_option maxHeartbeats 2000000 in
set_option maxRecDepth 100000 in
theorem fine_any (w : World) (a : Option Addr) (n c : Nat) (l : List Ti) (hs : Src w 5 (.slice a n c) n (tis l)) (hn : n ≤ 4398046511104) :
    Calls Try.prog 5 #[.slice a n c] w fun e w' => e = .returned (.bool (fineB n l)) ∧ Ext w w' := by
  have HFB : Hid (fineB n l = (decide (n ≤ 4) && l.all tierOk)) := rfl
  have HS := Lib.hid hs
  clear hs
  by_cases h4 : n ≤ 4
  · have h4' : (n : Int) ≤ 4 := by omega
    go_enter Try.func5, Try.ntmps5
    go_wp2_with (first
      | (go_at_call 8; refine (own_any w a n c l HS.out (by omega)).mono ?_; rintro e w1 ⟨oa, oc, rfl, hs1, hx1⟩; have HS1 := Lib.hid hs1; have HX1 := Lib.hid hx1; clear hs1 hx1)
      | (go_at_call 11; refine (right_any _ _ _ _ _ HS1.out h4).mono ?_; rintro e w2 ⟨rfl, hx2⟩; have HX2 := Lib.hid hx2; clear hx2))
    go_ret
    exact ⟨by rw [HFB.out]; simp [h4], HX1.out.trans HX2.out⟩
  · have h4' : ¬ (n : Int) ≤ 4 := by omega
    go_enter Try.func5, Try.ntmps5
    go_wp2_with fail
    go_ret
    exact ⟨by rw [HFB.out]; simp [h4], Ext.refl _⟩

theorem tierOk_fine {t : Ti} (h : tierOk t = true) : TiFine t := by
  unfold tierOk withinB at h
  simp only [Bool.and_eq_true, decide_eq_true_eq] at h
  obtain ⟨⟨⟨h1, h2⟩, h3, h4⟩, h5⟩ := h
  refine ⟨h1, h2, h3, by omega, ?_⟩
  split at h5
  · simp at h5; omega
  · simp at h5; omega

def allErr (op fn : Int) (ser oth : ByteArray) (fr to wd st off gap tol fill low : Int) : Int :=
  if planCheckB op fn ser oth fr to wd st off gap tol fill = false then 23 else if low < -1152921504606846976 ∨ 1152921504606846976 < low then 2 else 0

set_option maxHeartbeats 2000000 in
set_option maxRecDepth 100000 in
theorem all_bad (op fn : Int) (ser oth : ByteArray) (fr to wd st off gap tol fill : Int) (hse : ser.size ≤ maxLen) (hot : oth.size ≤ maxLen) (low : Int) (w : World) (v : Value) (he : allErr op fn ser oth fr to wd st off gap tol fill low ≠ 0) :
    Calls Try.prog 6 #[qV op fn ser oth fr to wd st off gap tol fill, v, .int .i64 low] w fun e w' => e = .returned (.tuple #[.slice none 0 0, .int .i64 (allErr op fn ser oth fr to wd st off gap tol fill low)]) ∧ Ext w w' := by
  have HCK := Lib.hid (fun W => planCheck_any op fn ser oth fr to wd st off gap tol fill hse hot W)
  have HE : Hid (allErr op fn ser oth fr to wd st off gap tol fill low = if planCheckB op fn ser oth fr to wd st off gap tol fill = false then 23 else if low < -1152921504606846976 ∨ 1152921504606846976 < low then 2 else 0) := rfl
  clear hse hot
  unfold qV at *
  generalize planCheckB op fn ser oth fr to wd st off gap tol fill = pb at *
  cases pb
  · simp only [Bool.false_eq_true, if_false] at HCK
    rw [show allErr op fn ser oth fr to wd st off gap tol fill low = 23 by rw [HE.out]; rfl]
    clear HE he
    go_enter Try.func6, Try.ntmps6
    go_wp2_with (first
      | (go_at_call 12; refine (HCK.out _).mono ?_; rintro e w1 ⟨rfl, hx1⟩; have HX := Lib.hid (((Ext.refl w).alloc _).trans hx1); clear hx1))
    go_ret2
    exact ⟨rfl, HX.out⟩
  · simp only [if_true] at HCK
    have hl : low < -1152921504606846976 ∨ 1152921504606846976 < low := by
      by_cases h : low < -1152921504606846976 ∨ 1152921504606846976 < low
      · exact h
      · exact absurd (by rw [HE.out]; simp [h]) he
    rw [show allErr op fn ser oth fr to wd st off gap tol fill low = 2 by rw [HE.out]; simp [hl]]
    clear HE he
    rcases hl with hl | hl
    · go_enter Try.func6, Try.ntmps6
      go_wp2_with (first
        | (go_at_call 12; refine (HCK.out _).mono ?_; rintro e w1 ⟨rfl, hx1⟩; have HX := Lib.hid (((Ext.refl w).alloc _).trans hx1); clear hx1))
      go_ret2
      exact ⟨rfl, HX.out⟩
    · have hl2 : ¬ low < -1152921504606846976 := by omega
      go_enter Try.func6, Try.ntmps6
      go_wp2_with (first
        | (go_at_call 12; refine (HCK.out _).mono ?_; rintro e w1 ⟨rfl, hx1⟩; have HX := Lib.hid (((Ext.refl w).alloc _).trans hx1); clear hx1))
      go_ret2
      exact ⟨rfl, HX.out⟩

def chBlk (w : World) (b : Nat) (p : Pt) : Prop := w.heap[b]? = some (.cells #[.int .i64 p.t, .int .i64 p.v, .int .i64 p.s] 37 (0, 0))

theorem eq_ch (a b c x y z : Int) (W : World) : (binOp .eql 37 (.agg #[.int .i64 a, .int .i64 b, .int .i64 c]) (.agg #[.int .i64 x, .int .i64 y, .int .i64 z])).run Try.prog W = .ok (.bool (a == x && (b == y && c == z))) W := by
  have hp : Try.prog.stoodInHeld 37 = false := by kernel_rfl
  have hu := Try.underlying37
  simp [go_sem, hp, hu]
  repeat' split
  all_goals simp_all

def takes (fr : Int) (l : List Ti) (p c : Pt) : Bool := (p.t == -1 && (p.v == fr && p.s == fr)) || decide ((l[p.t.toNat]?.map Ti.w).getD 0 < (l[c.t.toNat]?.map Ti.w).getD 0)

set_option maxHeartbeats 4000000 in
set_option maxRecDepth 100000 in
theorem take_raw (op fn : Int) (ser oth : ByteArray) (fr to wd st off gap tol fill : Int) (c : Pt) (w : World) (bb qb tb : Nat) (hb : chBlk w bb ⟨-1, fr, fr⟩) (hq : qBlk w qb op fn ser oth fr to wd st off gap tol fill) :
    Calls Try.prog 20 #[.agg #[.int .i64 c.t, .int .i64 c.v, .int .i64 c.s], .pointer (some ⟨bb, 0, none⟩), .pointer (some ⟨qb, 0, none⟩), .pointer (some ⟨tb, 0, none⟩)] w fun e w' => e = .returned (.bool true) ∧ Ext w w' := by
  have HB := Lib.hid hb
  have HQ := Lib.hid hq
  clear hb hq
  have heq := eq_ch
  have hg : Try.prog.eqGuardType Try.prog.depth 37 = false := by kernel_rfl
  go_enter Try.func20, Try.ntmps20
  go_wp2_with fail
  generalize hW : World.alloc _ _ = W
  have HX : Hid (Ext w W) := Lib.hid (by subst hW; exact (Ext.refl w).alloc _)
  clear hW
  have HB1 := Lib.hid ((HX.out.block (block_lt HB.out)).trans HB.out)
  have HQ1 : Hid (qBlk W qb op fn ser oth fr to wd st off gap tol fill) := Lib.hid ((HX.out.block (block_lt HQ.out)).trans HQ.out)
  have k0 := cell_regrown (show W.cell? ⟨qb, 0, none⟩ = some (.int .i64 op) by have := cell_of_block HQ1.out 0; simpa using this)
  have k1 := cell_regrown (show W.cell? ⟨qb, 1, none⟩ = some (.int .i64 fn) by have := cell_of_block HQ1.out 1; simpa using this)
  have k2 := cell_regrown (show W.cell? ⟨qb, 2, none⟩ = some (.string ser) by have := cell_of_block HQ1.out 2; simpa using this)
  have k3 := cell_regrown (show W.cell? ⟨qb, 3, none⟩ = some (.string oth) by have := cell_of_block HQ1.out 3; simpa using this)
  have k4 := cell_regrown (show W.cell? ⟨qb, 4, none⟩ = some (.int .i64 fr) by have := cell_of_block HQ1.out 4; simpa using this)
  have k5 := cell_regrown (show W.cell? ⟨qb, 5, none⟩ = some (.int .i64 to) by have := cell_of_block HQ1.out 5; simpa using this)
  have k6 := cell_regrown (show W.cell? ⟨qb, 6, none⟩ = some (.int .i64 wd) by have := cell_of_block HQ1.out 6; simpa using this)
  have k7 := cell_regrown (show W.cell? ⟨qb, 7, none⟩ = some (.int .i64 st) by have := cell_of_block HQ1.out 7; simpa using this)
  have k8 := cell_regrown (show W.cell? ⟨qb, 8, none⟩ = some (.int .i64 off) by have := cell_of_block HQ1.out 8; simpa using this)
  have k9 := cell_regrown (show W.cell? ⟨qb, 9, none⟩ = some (.int .i64 gap) by have := cell_of_block HQ1.out 9; simpa using this)
  have k10 := cell_regrown (show W.cell? ⟨qb, 10, none⟩ = some (.int .i64 tol) by have := cell_of_block HQ1.out 10; simpa using this)
  have k11 := cell_regrown (show W.cell? ⟨qb, 11, none⟩ = some (.int .i64 fill) by have := cell_of_block HQ1.out 11; simpa using this)
  have kb0 := cell_regrown (show W.cell? ⟨bb, 0, none⟩ = some (.int .i64 (-1)) by have := cell_of_block HB1.out 0; simpa using this)
  have kb1 := cell_regrown (show W.cell? ⟨bb, 1, none⟩ = some (.int .i64 fr) by have := cell_of_block HB1.out 1; simpa using this)
  have kb2 := cell_regrown (show W.cell? ⟨bb, 2, none⟩ = some (.int .i64 fr) by have := cell_of_block HB1.out 2; simpa using this)
  refine wp_region_quiet_below (by kernel_rfl) (by kernel_rfl) ?_
  repeat (go_big_quiet_step (first | (go_at_call 13; exact Calls.grown_of (planRaw_any op fn ser oth fr to wd st off gap tol fill _))))
  refine wpQuiet_nil ?_
  intro _ hw'
  obtain ⟨pr, rfl⟩ := hw'
  generalize hW4 : grow _ _ = W4
  have HX4 : Hid (Ext W W4) := Lib.hid (by subst hW4; exact Ext.regrown _ _ _)
  clear hW4
  clear k0 k1 k2 k3 k4 k5 k6 k7 k8 k9 k10 k11 kb0 kb1 kb2
  go_wp2_with fail
  go_ret
  exact ⟨rfl, HX.out.trans HX4.out⟩

set_option maxHeartbeats 4000000 in
set_option maxRecDepth 100000 in
theorem take_tier (op fn : Int) (ser oth : ByteArray) (fr to wd st off gap tol fill : Int) (k i : Nat) (cv cs pv ps : Int) (w : World) (bb qb tb : Nat) (a : Option Addr) (n c : Nat) (l : List Ti) (hb : chBlk w bb ⟨i, pv, ps⟩) (hq : qBlk w qb op fn ser oth fr to wd st off gap tol fill)
    (ht : w.cell? ⟨tb, 0, none⟩ = some (.slice a n c)) (hs : Src w 5 (.slice a n c) n (tis l)) (hi : i < n) (hk : k < n) :
    Calls Try.prog 20 #[.agg #[.int .i64 k, .int .i64 cv, .int .i64 cs], .pointer (some ⟨bb, 0, none⟩), .pointer (some ⟨qb, 0, none⟩), .pointer (some ⟨tb, 0, none⟩)] w fun e w' => e = .returned (.bool (takes fr l ⟨i, pv, ps⟩ ⟨k, cv, cs⟩)) ∧ Ext w w' := by
  obtain ⟨sb, so, x, rfl, hx, x0, _, _, _, _⟩ := tis_src hs hi
  obtain ⟨sb', so', y, e, hy, y0, _, _, _, _⟩ := tis_src hs hk
  simp at e
  obtain ⟨rfl, rfl⟩ := e
  have HTK : Hid (takes fr l ⟨i, pv, ps⟩ ⟨k, cv, cs⟩ = decide (x.w < y.w)) := Lib.hid (by
    have : ((i : Int) == -1) = false := by simp
    simp [takes, this, hx, hy])
  have HLT := Lib.hid (And.intro (World.block_lt_of_cell? w _ x0) (World.block_lt_of_cell? w _ ht))
  have HX0 := Lib.hid (And.intro ht (And.intro x0 y0))
  have HB := Lib.hid hb
  have HQ := Lib.hid hq
  clear hb hq hs hx hy x0 y0 ht
  obtain ⟨xw, hxw⟩ : ∃ z, x.w = z := ⟨_, rfl⟩
  obtain ⟨yw, hyw⟩ : ∃ z, y.w = z := ⟨_, rfl⟩
  rw [hxw, hyw] at HX0 HTK
  clear hxw hyw
  have hne : ((i : Int) == -1) = false := by simp
  have heq := eq_ch
  have hg : Try.prog.eqGuardType Try.prog.depth 37 = false := by kernel_rfl
  go_enter Try.func20, Try.ntmps20
  go_wp2_with fail
  generalize hW : World.alloc _ _ = W
  have HX : Hid (Ext w W) := Lib.hid (by subst hW; exact (Ext.refl w).alloc _)
  have kc0 := cell_regrown (show W.cell? ⟨w.heap.size, 0, none⟩ = some (.int .i64 k) by subst hW; simp [go_sem])
  clear hW
  have HB1 := Lib.hid ((HX.out.block (block_lt HB.out)).trans HB.out)
  have HQ1 : Hid (qBlk W qb op fn ser oth fr to wd st off gap tol fill) := Lib.hid ((HX.out.block (block_lt HQ.out)).trans HQ.out)
  have k0 := cell_regrown (show W.cell? ⟨qb, 0, none⟩ = some (.int .i64 op) by have := cell_of_block HQ1.out 0; simpa using this)
  have k1 := cell_regrown (show W.cell? ⟨qb, 1, none⟩ = some (.int .i64 fn) by have := cell_of_block HQ1.out 1; simpa using this)
  have k2 := cell_regrown (show W.cell? ⟨qb, 2, none⟩ = some (.string ser) by have := cell_of_block HQ1.out 2; simpa using this)
  have k3 := cell_regrown (show W.cell? ⟨qb, 3, none⟩ = some (.string oth) by have := cell_of_block HQ1.out 3; simpa using this)
  have k4 := cell_regrown (show W.cell? ⟨qb, 4, none⟩ = some (.int .i64 fr) by have := cell_of_block HQ1.out 4; simpa using this)
  have k5 := cell_regrown (show W.cell? ⟨qb, 5, none⟩ = some (.int .i64 to) by have := cell_of_block HQ1.out 5; simpa using this)
  have k6 := cell_regrown (show W.cell? ⟨qb, 6, none⟩ = some (.int .i64 wd) by have := cell_of_block HQ1.out 6; simpa using this)
  have k7 := cell_regrown (show W.cell? ⟨qb, 7, none⟩ = some (.int .i64 st) by have := cell_of_block HQ1.out 7; simpa using this)
  have k8 := cell_regrown (show W.cell? ⟨qb, 8, none⟩ = some (.int .i64 off) by have := cell_of_block HQ1.out 8; simpa using this)
  have k9 := cell_regrown (show W.cell? ⟨qb, 9, none⟩ = some (.int .i64 gap) by have := cell_of_block HQ1.out 9; simpa using this)
  have k10 := cell_regrown (show W.cell? ⟨qb, 10, none⟩ = some (.int .i64 tol) by have := cell_of_block HQ1.out 10; simpa using this)
  have k11 := cell_regrown (show W.cell? ⟨qb, 11, none⟩ = some (.int .i64 fill) by have := cell_of_block HQ1.out 11; simpa using this)
  have kb0 := cell_regrown (show W.cell? ⟨bb, 0, none⟩ = some (.int .i64 i) by have := cell_of_block HB1.out 0; simpa using this)
  have kb1 := cell_regrown (show W.cell? ⟨bb, 1, none⟩ = some (.int .i64 pv) by have := cell_of_block HB1.out 1; simpa using this)
  have kb2 := cell_regrown (show W.cell? ⟨bb, 2, none⟩ = some (.int .i64 ps) by have := cell_of_block HB1.out 2; simpa using this)
  have kt := cell_regrown ((HX.out.cell (p := ⟨tb, 0, none⟩) HLT.out.2).trans HX0.out.1)
  have kx := cell_regrown ((HX.out.cell (p := ⟨sb, so + i * 5, none⟩) HLT.out.1).trans HX0.out.2.1)
  have ky := cell_regrown ((HX.out.cell (p := ⟨sb, so + k * 5, none⟩) HLT.out.1).trans HX0.out.2.2)
  refine wp_region_quiet_below (by kernel_rfl) (by kernel_rfl) ?_
  repeat (go_big_quiet_step (first | (go_at_call 13; exact Calls.grown_of (planRaw_any op fn ser oth fr to wd st off gap tol fill _))))
  refine wpQuiet_nil ?_
  intro _ hw'
  obtain ⟨pr, rfl⟩ := hw'
  generalize hW4 : grow _ _ = W4
  have HX4 : Hid (Ext W W4) := Lib.hid (by subst hW4; exact Ext.regrown _ _ _)
  clear hW4
  clear k0 k1 k2 k3 k4 k5 k6 k7 k8 k9 k10 k11 kb0 kb1 kb2 kt kx ky kc0
  go_wp2_with fail
  go_ret
  exact ⟨by rw [HTK.out]; rfl, HX.out.trans HX4.out⟩

end Go.Proofs.Ytpgnkknelaajdaa
