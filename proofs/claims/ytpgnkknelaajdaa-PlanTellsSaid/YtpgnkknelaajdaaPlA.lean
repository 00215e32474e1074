/- plan.All. -/
import Derived.Test.YtpgnkknelaajdaaSpn
namespace Go.Proofs.Ytpgnkknelaajdaa
open Go.RowKit Go.Sort Go.Lib

def tierIn (wd st off : Int) (t : Ti) : Bool := t.m && fitsW wd st off t.w t.o
def oneCh (fr to wd st off low : Int) (t : Ti) (i : Nat) : List Pt := if (tierIn wd st off t && decide (spanA fr low t < spanB to t)) = true then [⟨i, spanA fr low t, spanB to t⟩] else []
def chFrom (fr to wd st off low : Int) : List Ti → Nat → List Pt
  | [], _ => []
  | t :: l, i => oneCh fr to wd st off low t i ++ chFrom fr to wd st off low l (i + 1)
theorem chFrom_snoc (fr to wd st off low : Int) (t : Ti) : ∀ (l : List Ti) (i : Nat), chFrom fr to wd st off low (l ++ [t]) i = chFrom fr to wd st off low l i ++ oneCh fr to wd st off low t (i + l.length)
  | [], i => by simp [chFrom]
  | x :: l, i => by simp [chFrom, chFrom_snoc fr to wd st off low t l (i + 1), Nat.add_assoc, Nat.add_comm 1]
def choices (fr to wd st off low : Int) (l : List Ti) : List Pt := ⟨-1, fr, fr⟩ :: chFrom fr to wd st off low l 0
theorem choices_snoc (fr to wd st off low : Int) (l : List Ti) (t : Ti) : choices fr to wd st off low (l ++ [t]) = choices fr to wd st off low l ++ oneCh fr to wd st off low t l.length := by
  simp [choices, chFrom_snoc]
theorem oneCh_len (fr to wd st off low : Int) (t : Ti) (i : Nat) : (oneCh fr to wd st off low t i).length ≤ 1 := by unfold oneCh; split <;> simp

def TiFine (t : Ti) : Prop := 1 ≤ t.w ∧ t.w ≤ 1099511627776 ∧ 0 ≤ t.o ∧ t.o < t.w ∧ -1152921504606846976 ≤ t.u ∧ t.u ≤ 1152921504606846976

theorem elem_ch : ElemOk Try.prog 26 37 3 24 :=
  ⟨Try.underlying26, by
    obtain ⟨i0, hi, hz0, hz1, hz2⟩ := info_parts (show (Try.prog.info? 37).map (fun i => (i.zero, i.size, i.bytes)) = some (some (.agg #[.int .i64 0, .int .i64 0, .int .i64 0]), 3, 24) from by kernel_rfl)
    exact ⟨i0, _, hi, hz0, hz1, hz2, rfl⟩, by decide⟩

structure ChTo (w : World) (m : Nat) (out : List Pt) (v : Value) (w' : World) : Prop where
  row : Row w' 37 3 v m (pts out)
  own : ∀ g, v.ownBlock = some g → w.heap.size ≤ g
  ext : Ext w w'
theorem ChTo.snoc {w W w3 : World} {m : Nat} {out : List Pt} {v v' : Value} {p : Pt} (h : ChTo w m out v W) {W' : World} (hx : Ext W W') (ha : Appended W' 37 3 v (m + 1) (pts out ++ pts [p]) v' w3) : ChTo w (m + 1) (out ++ [p]) v' w3 := by
  have hs := h.ext.size
  have hs2 := hx.size
  refine ⟨by rw [pts_append]; exact ha.row, fun g hg => ?_, Chg.ext ((Chg.of_ext (h.ext.trans hx)).trans ha.chg (fun _ _ h => h)) (fun i hi e => ?_)⟩
  · rcases ha.loc with e | e
    · exact h.own g (e ▸ hg)
    · rw [e] at hg; cases hg; omega
  · have := h.own i e; omega
theorem ChTo.next {w W W' : World} {m : Nat} {out : List Pt} {v : Value} (h : ChTo w m out v W) (hx : Ext W W') : ChTo w m out v W' := ⟨h.row.ext hx, h.own, h.ext.trans hx⟩

theorem row_cap {w : World} {e : TypeId} {size : Nat} {a : Option Addr} {n c : Nat} {xs : List Value} (h : Row w e size (.slice a n c) n xs) : n ≤ c := by
  obtain ⟨_, ⟨e1, e2⟩ | ⟨g, cap, cur, e1, _, _, h2, _⟩⟩ := h
  · omega
  · simp at e1; omega

abbrev qBlk (w : World) (b : Nat) (op fn : Int) (ser oth : ByteArray) (fr to wd st off gap tol fill : Int) : Prop := w.heap[b]? = some (.cells #[.int .i64 op, .int .i64 fn, .string ser, .string oth, .int .i64 fr, .int .i64 to, .int .i64 wd, .int .i64 st, .int .i64 off, .int .i64 gap, .int .i64 tol, .int .i64 fill] 23 (0, 0))

set_option maxHeartbeats 8000000 in
set_option maxRecDepth 100000 in
theorem all_ok (op fn : Int) (ser oth : ByteArray) (fr to wd st off gap tol fill : Int) (hse : ser.size ≤ maxLen) (hot : oth.size ≤ maxLen) (low : Int) (w : World) (a : Option Addr) (n c : Nat) (l : List Ti) (hs : Src w 5 (.slice a n c) n (tis l)) (hn : n ≤ 4) (hfine : ∀ t ∈ l, TiFine t)
    (hck : planCheckB op fn ser oth fr to wd st off gap tol fill = true) (f1 : -1152921504606846976 ≤ fr) (f2 : fr ≤ 1152921504606846976) (g1 : -1152921504606846976 ≤ to) (g2 : to ≤ 1152921504606846976) (l1 : -1152921504606846976 ≤ low) (l2 : low ≤ 1152921504606846976) :
    Calls Try.prog 6 #[qV op fn ser oth fr to wd st off gap tol fill, .slice a n c, .int .i64 low] w fun e w' => ∃ oa m oc, e = .returned (.tuple #[.slice oa m oc, .int .i64 0]) ∧ Src w' 3 (.slice oa m oc) m (pts (choices fr to wd st off low l)) ∧ m ≤ 5 ∧ m ≤ oc ∧ Ext w w' := by
  have HS := Lib.hid hs
  have Ln := Lib.hid (tis_src_len hs)
  have HFI := Lib.hid hfine
  have HCK := Lib.hid (fun W => planCheck_any op fn ser oth fr to wd st off gap tol fill hse hot W)
  rw [hck] at HCK
  simp only [if_true] at HCK
  clear hs hfine hck hse hot
  have HB := Lib.hid (And.intro (And.intro f1 f2) (And.intro g1 g2))
  clear f1 f2 g1 g2
  have hnl1 : ¬ low < -1152921504606846976 := by omega
  have hnl2 : ¬ 1152921504606846976 < low := by omega
  unfold qV at *
  go_enter Try.func6, Try.ntmps6
  go_wp2_with fail
  generalize hW : World.alloc _ _ = W
  have HX : Hid (Ext w W) := Lib.hid (by subst hW; exact (Ext.refl w).alloc _)
  have BQ : Hid (qBlk W w.heap.size op fn ser oth fr to wd st off gap tol fill) := Lib.hid (by subst hW; exact heap_alloc_new w _)
  clear hW
  refine (HCK.out W).mono ?_
  rintro e w1 ⟨rfl, hx1⟩
  have HX1 := Lib.hid (HX.out.trans hx1)
  have BQ1 : Hid (qBlk w1 w.heap.size op fn ser oth fr to wd st off gap tol fill) := Lib.hid ((hx1.block (block_lt BQ.out)).trans BQ.out)
  clear hx1 HX BQ HCK
  have c0 : w1.cell? ⟨w.heap.size, 0, none⟩ = some (.int .i64 op) := by have := cell_of_block BQ1.out 0; simpa using this
  have c1 : w1.cell? ⟨w.heap.size, 1, none⟩ = some (.int .i64 fn) := by have := cell_of_block BQ1.out 1; simpa using this
  have c2 : w1.cell? ⟨w.heap.size, 2, none⟩ = some (.string ser) := by have := cell_of_block BQ1.out 2; simpa using this
  have c3 : w1.cell? ⟨w.heap.size, 3, none⟩ = some (.string oth) := by have := cell_of_block BQ1.out 3; simpa using this
  have c4 : w1.cell? ⟨w.heap.size, 4, none⟩ = some (.int .i64 fr) := by have := cell_of_block BQ1.out 4; simpa using this
  have c5 : w1.cell? ⟨w.heap.size, 5, none⟩ = some (.int .i64 to) := by have := cell_of_block BQ1.out 5; simpa using this
  have c6 : w1.cell? ⟨w.heap.size, 6, none⟩ = some (.int .i64 wd) := by have := cell_of_block BQ1.out 6; simpa using this
  have c7 : w1.cell? ⟨w.heap.size, 7, none⟩ = some (.int .i64 st) := by have := cell_of_block BQ1.out 7; simpa using this
  have c8 : w1.cell? ⟨w.heap.size, 8, none⟩ = some (.int .i64 off) := by have := cell_of_block BQ1.out 8; simpa using this
  have c9 : w1.cell? ⟨w.heap.size, 9, none⟩ = some (.int .i64 gap) := by have := cell_of_block BQ1.out 9; simpa using this
  have c10 : w1.cell? ⟨w.heap.size, 10, none⟩ = some (.int .i64 tol) := by have := cell_of_block BQ1.out 10; simpa using this
  have c11 : w1.cell? ⟨w.heap.size, 11, none⟩ = some (.int .i64 fill) := by have := cell_of_block BQ1.out 11; simpa using this
  go_wp2_with fail
  refine (planRaw_any op fn ser oth fr to wd st off gap tol fill w1).mono ?_
  rintro e w2 ⟨rfl, hx2⟩
  have HX2 := Lib.hid (HX1.out.trans hx2)
  have BQ2 : Hid (qBlk w2 w.heap.size op fn ser oth fr to wd st off gap tol fill) := Lib.hid ((hx2.block (block_lt BQ1.out)).trans BQ1.out)
  clear c0 c1 c2 c3 c4 c5 c6 c7 c8 c9 c10 c11
  clear hx2 BQ1 HX1
  go_wp2_with fail
  generalize hW2 : World.alloc _ _ = W2
  have HC0 : Hid (ChTo w2 1 (choices fr to wd st off low (l.take 0)) (.slice (some ⟨w2.heap.size, 0, none⟩) 1 1) W2) := Lib.hid (by
    subst hW2
    exact ⟨⟨rfl, .inr ⟨_, 1, _, rfl, Nat.zero_le _, heap_alloc_new _ _, Nat.le_refl _, by unfold maxLen; omega, rfl, rfl⟩⟩, fun g hg => by cases hg; exact Nat.le_refl _, (Ext.refl w2).alloc _⟩)
  clear hW2
  go_loopw [30, 9] (fun i s wr => ∃ (j m : Nat) (oa : Option Addr) (oc : Nat), j ≤ n ∧ m ≤ j + 1 ∧ i = .int .i64 j ∧ s = .slice oa m oc ∧ Hid (ChTo w2 m (choices fr to wd st off low (l.take j)) (.slice oa m oc) wr)) (fun i _ _ => n - (RowKit.intOf i).toNat)
  case atStart => exact ⟨0, 1, _, _, by omega, by omega, rfl, rfl, HC0⟩
  case round =>
    clear HC0
    obtain ⟨j, m, oa, oc, hj, hm, rfl, rfl, I⟩ := hrel
    by_cases hlt : j < n
    · obtain ⟨tb, tof, ⟨tw, tO, tu, tm, tf⟩, rfl, ht, t0, t1, t2, t3, t4⟩ := tis_src (HS.out.ext (HX2.out.trans I.out.ext)) hlt
      simp only at t0 t1 t2 t3 t4
      have HTK := Lib.hid (take_snoc5 ht)
      have HTL : Hid ((l.take j).length = j) := Lib.hid (by rw [List.length_take, Nat.min_eq_left (by rw [Ln.out]; exact hj)])
      obtain ⟨y1, y2, y3, y4, y5, y6⟩ := HFI.out _ (List.mem_of_getElem? ht)
      simp only at y1 y2 y3 y4 y5 y6
      clear ht
      go_wp2_with fail
      generalize hW : World.alloc _ _ = W3
      have HX3 : Hid (Ext wr W3) := Lib.hid (by subst hW; exact (Ext.refl wr).alloc _)
      have B3 : Hid (W3.heap[wr.heap.size]? = some (.cells #[.int .i64 tw, .int .i64 tO, .int .i64 tu, .bool tm, .string tf] 44 (0, 0))) := Lib.hid (by subst hW; exact heap_alloc_new wr _)
      have BQ3 : Hid (qBlk W3 w.heap.size op fn ser oth fr to wd st off gap tol fill) := Lib.hid (((I.out.ext.trans HX3.out).block (block_lt BQ2.out)).trans BQ2.out)
      clear hW t0 t1 t2 t3 t4
      have k0 := cell_regrown (show W3.cell? ⟨w.heap.size, 0, none⟩ = some (.int .i64 op) by have := cell_of_block BQ3.out 0; simpa using this)
      have k1 := cell_regrown (show W3.cell? ⟨w.heap.size, 1, none⟩ = some (.int .i64 fn) by have := cell_of_block BQ3.out 1; simpa using this)
      have k2 := cell_regrown (show W3.cell? ⟨w.heap.size, 2, none⟩ = some (.string ser) by have := cell_of_block BQ3.out 2; simpa using this)
      have k3 := cell_regrown (show W3.cell? ⟨w.heap.size, 3, none⟩ = some (.string oth) by have := cell_of_block BQ3.out 3; simpa using this)
      have k4 := cell_regrown (show W3.cell? ⟨w.heap.size, 4, none⟩ = some (.int .i64 fr) by have := cell_of_block BQ3.out 4; simpa using this)
      have k5 := cell_regrown (show W3.cell? ⟨w.heap.size, 5, none⟩ = some (.int .i64 to) by have := cell_of_block BQ3.out 5; simpa using this)
      have k6 := cell_regrown (show W3.cell? ⟨w.heap.size, 6, none⟩ = some (.int .i64 wd) by have := cell_of_block BQ3.out 6; simpa using this)
      have k7 := cell_regrown (show W3.cell? ⟨w.heap.size, 7, none⟩ = some (.int .i64 st) by have := cell_of_block BQ3.out 7; simpa using this)
      have k8 := cell_regrown (show W3.cell? ⟨w.heap.size, 8, none⟩ = some (.int .i64 off) by have := cell_of_block BQ3.out 8; simpa using this)
      have k9 := cell_regrown (show W3.cell? ⟨w.heap.size, 9, none⟩ = some (.int .i64 gap) by have := cell_of_block BQ3.out 9; simpa using this)
      have k10 := cell_regrown (show W3.cell? ⟨w.heap.size, 10, none⟩ = some (.int .i64 tol) by have := cell_of_block BQ3.out 10; simpa using this)
      have k11 := cell_regrown (show W3.cell? ⟨w.heap.size, 11, none⟩ = some (.int .i64 fill) by have := cell_of_block BQ3.out 11; simpa using this)
      have kt0 := cell_regrown (show W3.cell? ⟨wr.heap.size, 0, none⟩ = some (.int .i64 tw) by have := cell_of_block B3.out 0; simpa using this)
      have kt1 := cell_regrown (show W3.cell? ⟨wr.heap.size, 1, none⟩ = some (.int .i64 tO) by have := cell_of_block B3.out 1; simpa using this)
      have kt3 := cell_regrown (show W3.cell? ⟨wr.heap.size, 3, none⟩ = some (.bool tm) by have := cell_of_block B3.out 3; simpa using this)
      cases tm
      · have HONE : Hid (oneCh fr to wd st off low ⟨tw, tO, tu, false, tf⟩ (l.take j).length = []) := Lib.hid (by simp [oneCh, tierIn])
        refine wp_region_quiet_below (by kernel_rfl) (by kernel_rfl) ?_
        repeat (go_big_quiet_step (fail))
        refine wpQuiet_nil ?_
        intro _ hw'
        obtain ⟨pr, rfl⟩ := hw'
        generalize hW4 : grow _ _ = W4
        have HX4 : Hid (Ext W3 W4) := Lib.hid (by subst hW4; exact Ext.regrown _ _ _)
        clear hW4
        clear k0 k1 k2 k3 k4 k5 k6 k7 k8 k9 k10 k11 kt0 kt1 kt3
        go_wp2_with fail
        go_roundw
        case rel => exact ⟨j + 1, m, oa, oc, by omega, by omega, by go_num, rfl, Lib.hid (by rw [HTK.out, choices_snoc, HONE.out, List.append_nil]; exact I.out.next (HX3.out.trans HX4.out))⟩
        case measure => simp [RowKit.intOf]; omega
      · cases hfv : fitsW wd st off tw tO
        · have HFV := Lib.hid hfv
          clear hfv
          have HFIT : Hid (∀ (d : Nat) (os : Array Obj) (w : World), Calls Try.prog 14 #[.agg #[.int .i64 wd, .int .i64 st, .int .i64 off], .int .i64 tw, .int .i64 tO] (grow (redrawn w d) os) fun e w'' => e = .returned (.bool false) ∧ ∃ p : Regrown, w'' = grow (redrawn w p.d) p.os) := Lib.hid (fun d os w => Calls.grown_of (by have h := fitsW_any wd st off tw tO (grow (redrawn w d) os) (by omega) (by omega); rw [HFV.out] at h; exact h))
          have HONE : Hid (oneCh fr to wd st off low ⟨tw, tO, tu, true, tf⟩ (l.take j).length = []) := Lib.hid (by simp [oneCh, tierIn, HFV.out])
          refine wp_region_quiet_below (by kernel_rfl) (by kernel_rfl) ?_
          repeat (go_big_quiet_step (first | (go_at_call 15; exact Calls.grown_of (planKind_any op fn ser oth fr to wd st off gap tol fill _)) | (go_at_call 14; exact HFIT.out _ _ _)))
          refine wpQuiet_nil ?_
          intro _ hw'
          obtain ⟨pr, rfl⟩ := hw'
          generalize hW4 : grow _ _ = W4
          have HX4 : Hid (Ext W3 W4) := Lib.hid (by subst hW4; exact Ext.regrown _ _ _)
          clear hW4
          clear k0 k1 k2 k3 k4 k5 k6 k7 k8 k9 k10 k11 kt0 kt1 kt3
          go_wp2_with fail
          go_roundw
          case rel => exact ⟨j + 1, m, oa, oc, by omega, by omega, by go_num, rfl, Lib.hid (by rw [HTK.out, choices_snoc, HONE.out, List.append_nil]; exact I.out.next (HX3.out.trans HX4.out))⟩
          case measure => simp [RowKit.intOf]; omega
        · have HFV := Lib.hid hfv
          clear hfv
          have HFIT : Hid (∀ (d : Nat) (os : Array Obj) (w : World), Calls Try.prog 14 #[.agg #[.int .i64 wd, .int .i64 st, .int .i64 off], .int .i64 tw, .int .i64 tO] (grow (redrawn w d) os) fun e w'' => e = .returned (.bool true) ∧ ∃ p : Regrown, w'' = grow (redrawn w p.d) p.os) := Lib.hid (fun d os w => Calls.grown_of (by have h := fitsW_any wd st off tw tO (grow (redrawn w d) os) (by omega) (by omega); rw [HFV.out] at h; exact h))
          refine wp_region_quiet_below (by kernel_rfl) (by kernel_rfl) ?_
          repeat (go_big_quiet_step (first | (go_at_call 15; exact Calls.grown_of (planKind_any op fn ser oth fr to wd st off gap tol fill _)) | (go_at_call 14; exact HFIT.out _ _ _)))
          refine wpQuiet_nil ?_
          intro _ hw'
          obtain ⟨pr, rfl⟩ := hw'
          generalize hW4 : grow _ _ = W4
          have HX4 : Hid (Ext W3 W4) := Lib.hid (by subst hW4; exact Ext.regrown _ _ _)
          clear hW4
          clear k0 k1 k2 k3 k4 k5 k6 k7 k8 k9 k10 k11 kt0 kt1 kt3
          have BQ4 : Hid (qBlk W4 w.heap.size op fn ser oth fr to wd st off gap tol fill) := Lib.hid ((HX4.out.block (block_lt BQ3.out)).trans BQ3.out)
          have B4 := Lib.hid ((HX4.out.block (block_lt B3.out)).trans B3.out)
          have c0 : W4.cell? ⟨w.heap.size, 0, none⟩ = some (.int .i64 op) := by have := cell_of_block BQ4.out 0; simpa using this
          have c1 : W4.cell? ⟨w.heap.size, 1, none⟩ = some (.int .i64 fn) := by have := cell_of_block BQ4.out 1; simpa using this
          have c2 : W4.cell? ⟨w.heap.size, 2, none⟩ = some (.string ser) := by have := cell_of_block BQ4.out 2; simpa using this
          have c3 : W4.cell? ⟨w.heap.size, 3, none⟩ = some (.string oth) := by have := cell_of_block BQ4.out 3; simpa using this
          have c4 : W4.cell? ⟨w.heap.size, 4, none⟩ = some (.int .i64 fr) := by have := cell_of_block BQ4.out 4; simpa using this
          have c5 : W4.cell? ⟨w.heap.size, 5, none⟩ = some (.int .i64 to) := by have := cell_of_block BQ4.out 5; simpa using this
          have c6 : W4.cell? ⟨w.heap.size, 6, none⟩ = some (.int .i64 wd) := by have := cell_of_block BQ4.out 6; simpa using this
          have c7 : W4.cell? ⟨w.heap.size, 7, none⟩ = some (.int .i64 st) := by have := cell_of_block BQ4.out 7; simpa using this
          have c8 : W4.cell? ⟨w.heap.size, 8, none⟩ = some (.int .i64 off) := by have := cell_of_block BQ4.out 8; simpa using this
          have c9 : W4.cell? ⟨w.heap.size, 9, none⟩ = some (.int .i64 gap) := by have := cell_of_block BQ4.out 9; simpa using this
          have c10 : W4.cell? ⟨w.heap.size, 10, none⟩ = some (.int .i64 tol) := by have := cell_of_block BQ4.out 10; simpa using this
          have c11 : W4.cell? ⟨w.heap.size, 11, none⟩ = some (.int .i64 fill) := by have := cell_of_block BQ4.out 11; simpa using this
          have d0 : W4.cell? ⟨wr.heap.size, 0, none⟩ = some (.int .i64 tw) := by have := cell_of_block B4.out 0; simpa using this
          have d1 : W4.cell? ⟨wr.heap.size, 1, none⟩ = some (.int .i64 tO) := by have := cell_of_block B4.out 1; simpa using this
          have d2 : W4.cell? ⟨wr.heap.size, 2, none⟩ = some (.int .i64 tu) := by have := cell_of_block B4.out 2; simpa using this
          have d3 : W4.cell? ⟨wr.heap.size, 3, none⟩ = some (.bool true) := by have := cell_of_block B4.out 3; simpa using this
          have d4 : W4.cell? ⟨wr.heap.size, 4, none⟩ = some (.string tf) := by have := cell_of_block B4.out 4; simpa using this
          go_wp2_with fail
          refine (span_any op fn ser oth fr to wd st off gap tol fill ⟨tw, tO, tu, true, tf⟩ low W4 y1 y2 y3 y4 HB.out.1.1 HB.out.1.2 HB.out.2.1 HB.out.2.2 l1 l2 y5 y6).mono ?_
          rintro e w5 ⟨rfl, hx5⟩
          have HX5 := Lib.hid ((HX3.out.trans HX4.out).trans hx5)
          clear c0 c1 c2 c3 c4 c5 c6 c7 c8 c9 c10 c11
          clear d0 d1 d2 d3 d4 hx5
          obtain ⟨A, hA⟩ : ∃ A, spanA fr low ⟨tw, tO, tu, true, tf⟩ = A := ⟨_, rfl⟩
          obtain ⟨B, hB⟩ : ∃ B, spanB to ⟨tw, tO, tu, true, tf⟩ = B := ⟨_, rfl⟩
          rw [hA, hB]
          have HSA := Lib.hid hA
          have HSB := Lib.hid hB
          clear hA hB
          have HR : Hid (Row w5 37 3 (.slice oa m oc) m (pts (choices fr to wd st off low (l.take j)))) := Lib.hid (I.out.row.ext HX5.out)
          by_cases hab : A < B
          · have HONE : Hid (oneCh fr to wd st off low ⟨tw, tO, tu, true, tf⟩ (l.take j).length = [⟨j, A, B⟩]) := Lib.hid (by simp [oneCh, tierIn, HFV.out, HSA.out, HSB.out, hab, HTL.out])
            go_wp2_with (at_builtin; go_must (refine wpList_append_to (m := 1) elem_ch rfl _ _ rfl (v := .slice _ _ _) rfl rfl (HR.out.alloc _) (src_pt' (p := ⟨j, A, B⟩) (heap_alloc_new _ _)) (by unfold maxLen; omega) (by omega) ?_; intro v' w6 happ); have K := Lib.hid (I.out.snoc (HX5.out.alloc _) (p := ⟨j, A, B⟩) happ); obtain ⟨oa', oc', rfl⟩ := happ.row.shape; clear happ)
            go_roundw
            case rel => exact ⟨j + 1, m + 1, oa', oc', by omega, by omega, by go_num, rfl, Lib.hid (by rw [HTK.out, choices_snoc, HONE.out]; exact K.out)⟩
            case measure => simp [RowKit.intOf]; omega
          · have HONE : Hid (oneCh fr to wd st off low ⟨tw, tO, tu, true, tf⟩ (l.take j).length = []) := Lib.hid (by simp [oneCh, HSA.out, HSB.out, hab])
            go_wp2_with fail
            go_roundw
            case rel => exact ⟨j + 1, m, oa, oc, by omega, by omega, by go_num, rfl, Lib.hid (by rw [HTK.out, choices_snoc, HONE.out, List.append_nil]; exact I.out.next HX5.out)⟩
            case measure => simp [RowKit.intOf]; omega
    · have HTO : Hid (l.take j = l) := Lib.hid (List.take_of_length_le (by have := Ln.out; omega))
      have HRS : Hid (Src wr 3 (.slice oa m oc) m (pts (choices fr to wd st off low l))) := Lib.hid (by have h1 := I.out.row; rw [HTO.out] at h1; exact h1.src (pts_one _))
      have HE := Lib.hid (HX2.out.trans I.out.ext)
      have HCP := Lib.hid (row_cap I.out.row)
      clear I
      go_wp2_with fail
      go_ret2
      exact ⟨oa, m, oc, rfl, HRS.out, by omega, HCP.out, HE.out⟩

end Go.Proofs.Ytpgnkknelaajdaa
