/- plan.raw, plan.kindOf, plan.check, plan.span. -/
import Derived.Test.YtokllgdbmnmieaaGreatRfv
import Derived.Test.YtokllgdbmnmieaaGreatPtc
import Derived.Test.YtokllgdbmnmieaaGreatChk
namespace Go.Proofs.YtokllgdbmnmieaaGreat
open Go.RowKit Go.Sort Go.Lib

set_option maxHeartbeats 1000000 in
theorem planRaw_any (op fn : Int) (ser oth : ByteArray) (fr to wd st off gap tol fill : Int) (w : World) :
    Calls Tryz.prog 14 #[qV op fn ser oth fr to wd st off gap tol fill] w fun e w' => e = .returned (.agg #[.int .i64 (-1), .int .i64 fr, .int .i64 fr]) ∧ Ext w w' := by
  unfold qV
  go_enter Tryz.func14, Tryz.ntmps14
  go_wp2
  exact bodyPost_ret (v := .agg #[.int .i64 (-1), .int .i64 fr, .int .i64 fr]) (by simp [results, Tryz.results14, go_sem]) rfl ⟨rfl, ((Ext.refl _).alloc _).alloc _⟩

set_option maxHeartbeats 1000000 in
theorem planKind_any (op fn : Int) (ser oth : ByteArray) (fr to wd st off gap tol fill : Int) (w : World) :
    Calls Tryz.prog 16 #[qV op fn ser oth fr to wd st off gap tol fill] w fun e w' => e = .returned (.agg #[.int .i64 wd, .int .i64 st, .int .i64 off]) ∧ Ext w w' := by
  unfold qV
  go_enter Tryz.func16, Tryz.ntmps16
  go_wp2
  exact bodyPost_ret (v := .agg #[.int .i64 wd, .int .i64 st, .int .i64 off]) (by simp [results, Tryz.results16, go_sem]) rfl ⟨rfl, ((Ext.refl _).alloc _).alloc _⟩

def planCheckB (op fn : Int) (ser oth : ByteArray) (fr to wd st off gap tol fill : Int) : Bool := checkB op fn ser oth fr to wd st off gap tol fill && decide (op = 1)

set_option maxHeartbeats 2000000 in
theorem planCheck_any (op fn : Int) (ser oth : ByteArray) (fr to wd st off gap tol fill : Int) (hs : ser.size ≤ maxLen) (ho : oth.size ≤ maxLen) (w : World) :
    Calls Tryz.prog 13 #[qV op fn ser oth fr to wd st off gap tol fill] w fun e w' => e = .returned (.int .i64 (if planCheckB op fn ser oth fr to wd st off gap tol fill then 0 else 23)) ∧ Ext w w' := by
  have HF : Hid (planCheckB op fn ser oth fr to wd st off gap tol fill = (checkB op fn ser oth fr to wd st off gap tol fill && decide (op = 1))) := rfl
  have HC := Lib.hid (fun w => check_any op fn ser oth fr to wd st off gap tol fill hs ho w)
  clear hs ho
  generalize checkB op fn ser oth fr to wd st off gap tol fill = b at *
  cases b
  · rw [show planCheckB op fn ser oth fr to wd st off gap tol fill = false by rw [HF.out]; simp]
    simp only [Bool.false_eq_true, if_false] at HC ⊢
    clear HF
    go_enter Tryz.func13, Tryz.ntmps13
    go_wp2_with fail
    generalize hW : World.alloc _ _ = W
    have HX : Hid (Ext w W) := Lib.hid (by subst hW; exact (Ext.refl w).alloc _)
    have e0 : W.cell? ⟨w.heap.size, 0, none⟩ = some (.int .i64 op) := by subst hW; simp [go_sem]
    have hlt := World.block_lt_of_cell? W _ e0
    clear hW
    refine (HC.out W).mono ?_
    rintro e w1 ⟨rfl, hb1⟩
    have e1 : w1.cell? ⟨w.heap.size, 0, none⟩ = some (.int .i64 op) := (hb1.cell (p := ⟨w.heap.size, 0, none⟩) hlt).trans e0
    have HX1 := Lib.hid (HX.out.trans hb1)
    clear HC e0 hlt hb1
    go_wp2_with fail
    go_ret
    exact ⟨rfl, HX1.out⟩
  · simp only [if_true] at HC
    by_cases h1 : op = 1
    · rw [show planCheckB op fn ser oth fr to wd st off gap tol fill = true by rw [HF.out]; simp [h1]]
      simp only [if_true]
      clear HF
      subst h1
      go_enter Tryz.func13, Tryz.ntmps13
      go_wp2_with fail
      generalize hW : World.alloc _ _ = W
      have HX : Hid (Ext w W) := Lib.hid (by subst hW; exact (Ext.refl w).alloc _)
      have e0 : W.cell? ⟨w.heap.size, 0, none⟩ = some (.int .i64 1) := by subst hW; simp [go_sem]
      have hlt := World.block_lt_of_cell? W _ e0
      clear hW
      refine (HC.out W).mono ?_
      rintro e w1 ⟨rfl, hb1⟩
      have e1 : w1.cell? ⟨w.heap.size, 0, none⟩ = some (.int .i64 1) := (hb1.cell (p := ⟨w.heap.size, 0, none⟩) hlt).trans e0
      have HX1 := Lib.hid (HX.out.trans hb1)
      clear HC e0 hlt hb1
      go_wp2_with fail
      go_ret
      exact ⟨rfl, HX1.out⟩
    · rw [show planCheckB op fn ser oth fr to wd st off gap tol fill = false by rw [HF.out]; simp [h1]]
      simp only [Bool.false_eq_true, if_false]
      clear HF
      go_enter Tryz.func13, Tryz.ntmps13
      go_wp2_with fail
      generalize hW : World.alloc _ _ = W
      have HX : Hid (Ext w W) := Lib.hid (by subst hW; exact (Ext.refl w).alloc _)
      have e0 : W.cell? ⟨w.heap.size, 0, none⟩ = some (.int .i64 op) := by subst hW; simp [go_sem]
      have hlt := World.block_lt_of_cell? W _ e0
      clear hW
      refine (HC.out W).mono ?_
      rintro e w1 ⟨rfl, hb1⟩
      have e1 : w1.cell? ⟨w.heap.size, 0, none⟩ = some (.int .i64 op) := (hb1.cell (p := ⟨w.heap.size, 0, none⟩) hlt).trans e0
      have HX1 := Lib.hid (HX.out.trans hb1)
      clear HC e0 hlt hb1
      go_wp2_with fail
      go_ret
      exact ⟨rfl, HX1.out⟩

end Go.Proofs.YtokllgdbmnmieaaGreat

/-! plan.span. -/

namespace Go.Proofs.YtokllgdbmnmieaaGreat
open Go.RowKit Go.Sort Go.Lib

def spanA (fr low : Int) (t : Ti) : Int := max fr low + (t.o - max fr low) % t.w
def spanB (to : Int) (t : Ti) : Int := min to t.u - (min to t.u - t.o) % t.w

set_option maxHeartbeats 4000000 in
set_option maxRecDepth 100000 in
theorem span_any (op fn : Int) (ser oth : ByteArray) (fr to wd st off gap tol fill : Int) (t : Ti) (low : Int) (w : World) (h1 : 1 ≤ t.w) (h2 : t.w ≤ 1099511627776) (h3 : 0 ≤ t.o) (h4 : t.o < t.w)
    (f1 : -1152921504606846976 ≤ fr) (f2 : fr ≤ 1152921504606846976) (g1 : -1152921504606846976 ≤ to) (g2 : to ≤ 1152921504606846976) (l1 : -1152921504606846976 ≤ low) (l2 : low ≤ 1152921504606846976) (u1 : -1152921504606846976 ≤ t.u) (u2 : t.u ≤ 1152921504606846976) :
    Calls Tryz.prog 17 #[qV op fn ser oth fr to wd st off gap tol fill, t.val, .int .i64 low] w fun e w' => e = .returned (.tuple #[.int .i64 (spanA fr low t), .int .i64 (spanB to t)]) ∧ Ext w w' := by
  unfold qV Ti.val
  obtain ⟨tw, to', tu, tm, tf⟩ := t
  simp only at *
  have HA : Hid (spanA fr low ⟨tw, to', tu, tm, tf⟩ = max fr low + (to' - max fr low) % tw) := rfl
  have HB : Hid (spanB to ⟨tw, to', tu, tm, tf⟩ = min to tu - (min to tu - to') % tw) := rfl
  obtain ⟨a, ha⟩ : ∃ a, max fr low = a := ⟨_, rfl⟩
  obtain ⟨b, hb⟩ : ∃ b, min to tu = b := ⟨_, rfl⟩
  rw [ha] at HA
  rw [hb] at HB
  have a1 : -1152921504606846976 ≤ a := by omega
  have a2 : a ≤ 1152921504606846976 := by omega
  have b1 : -1152921504606846976 ≤ b := by omega
  have b2 : b ≤ 1152921504606846976 := by omega
  have r1 := Int.emod_nonneg (to' - a) (show tw ≠ 0 by omega)
  have r2 := Int.emod_lt_of_pos (to' - a) (show 0 < tw by omega)
  have s1 := Int.emod_nonneg (b - to') (show tw ≠ 0 by omega)
  have s2 := Int.emod_lt_of_pos (b - to') (show 0 < tw by omega)
  obtain ⟨r, hr⟩ : ∃ r, (to' - a) % tw = r := ⟨_, rfl⟩
  obtain ⟨s, hs⟩ : ∃ s, (b - to') % tw = s := ⟨_, rfl⟩
  rw [hr] at HA r1 r2
  rw [hs] at HB s1 s2
  have HR := Lib.hid hr
  have HS := Lib.hid hs
  clear hr hs
  go_enter Tryz.func17, Tryz.ntmps17
  clear f1 f2 g1 g2 l1 l2 u1 u2
  go_wp2_with fail
  generalize hW : World.alloc _ _ = W
  have HX : Hid (Ext w W) := Lib.hid (by subst hW; exact ((Ext.refl w).alloc _).alloc _)
  have c5 : W.cell? ⟨w.heap.size, 5, none⟩ = some (.int .i64 to) := by subst hW; simp [go_sem]
  have t0 : W.cell? ⟨w.heap.size + 1, 0, none⟩ = some (.int .i64 tw) := by subst hW; simp [go_sem]
  have t1 : W.cell? ⟨w.heap.size + 1, 1, none⟩ = some (.int .i64 to') := by subst hW; simp [go_sem]
  have t2 : W.cell? ⟨w.heap.size + 1, 2, none⟩ = some (.int .i64 tu) := by subst hW; simp [go_sem]
  clear hW
  refine (mod_any (to' - a) tw _ h1 h2 (by omega) (by omega)).mono ?_
  rw [HR.out]
  rintro e w' ⟨rfl, rfl⟩
  go_wp2_with fail
  clear c5 t0 t1 t2
  refine (mod_any (b - to') tw _ h1 h2 (by omega) (by omega)).mono ?_
  rw [HS.out]
  rintro e w' ⟨rfl, rfl⟩
  go_wp2_with fail
  go_ret2
  rw [HA.out, HB.out]
  exact ⟨rfl, HX.out⟩

end Go.Proofs.YtokllgdbmnmieaaGreat

/-! plan.All. -/

namespace Go.Proofs.YtokllgdbmnmieaaGreat
open Go.RowKit Go.Sort Go.Lib

def tierIn (wd st off : Int) (t : Ti) : Bool := t.m && fitsW wd st off t.w t.o
def oneCh (fr to wd st off low : Int) (t : Ti) (i : Nat) : List Pt := if (tierIn wd st off t && decide (spanA fr low t < spanB to t)) = true then [⟨i, spanA fr low t, spanB to t⟩] else []
def chFrom (fr to wd st off low : Int) : List Ti → Nat → List Pt
  | [], _ => []
  | t :: l, i => oneCh fr to wd st off low t i ++ chFrom fr to wd st off low l (i + 1)
theorem chFrom_snoc (fr to wd st off low : Int) (t : Ti) : ∀ (l : List Ti) (i : Nat), chFrom fr to wd st off low (l ++ [t]) i = chFrom fr to wd st off low l i ++ oneCh fr to wd st off low t (i + l.length)
  | [], i => by simp [chFrom]
  | x :: l, i => by simp [chFrom, chFrom_snoc fr to wd st off low t l (i + 1), Nat.add_assoc, Nat.add_comm 1]
def choices (fr to wd st off low : Int) (l : List Ti) : List Pt := ⟨-1, fr, fr⟩ :: chFrom fr to wd st off low l 0
theorem choices_snoc (fr to wd st off low : Int) (l : List Ti) (t : Ti) : choices fr to wd st off low (l ++ [t]) = choices fr to wd st off low l ++ oneCh fr to wd st off low t l.length := by
  simp [choices, chFrom_snoc]
theorem oneCh_len (fr to wd st off low : Int) (t : Ti) (i : Nat) : (oneCh fr to wd st off low t i).length ≤ 1 := by unfold oneCh; split <;> simp

def TiFine (t : Ti) : Prop := 1 ≤ t.w ∧ t.w ≤ 1099511627776 ∧ 0 ≤ t.o ∧ t.o < t.w ∧ -1152921504606846976 ≤ t.u ∧ t.u ≤ 1152921504606846976

theorem elem_ch : ElemOk Tryz.prog 27 35 3 24 :=
  ⟨Tryz.underlying27, by
    obtain ⟨i0, hi, hz0, hz1, hz2⟩ := info_parts (show (Tryz.prog.info? 35).map (fun i => (i.zero, i.size, i.bytes)) = some (some (.agg #[.int .i64 0, .int .i64 0, .int .i64 0]), 3, 24) from by kernel_rfl)
    exact ⟨i0, _, hi, hz0, hz1, hz2, rfl⟩, by decide⟩

structure ChTo (w : World) (m : Nat) (out : List Pt) (v : Value) (w' : World) : Prop where
  row : Row w' 35 3 v m (pts out)
  own : ∀ g, v.ownBlock = some g → w.heap.size ≤ g
  ext : Ext w w'
theorem ChTo.snoc {w W w3 : World} {m : Nat} {out : List Pt} {v v' : Value} {p : Pt} (h : ChTo w m out v W) {W' : World} (hx : Ext W W') (ha : Appended W' 35 3 v (m + 1) (pts out ++ pts [p]) v' w3) : ChTo w (m + 1) (out ++ [p]) v' w3 := by
  have hs := h.ext.size
  have hs2 := hx.size
  refine ⟨by rw [pts_append]; exact ha.row, fun g hg => ?_, Chg.ext ((Chg.of_ext (h.ext.trans hx)).trans ha.chg (fun _ _ h => h)) (fun i hi e => ?_)⟩
  · rcases ha.loc with e | e
    · exact h.own g (e ▸ hg)
    · rw [e] at hg; cases hg; omega
  · have := h.own i e; omega
theorem ChTo.next {w W W' : World} {m : Nat} {out : List Pt} {v : Value} (h : ChTo w m out v W) (hx : Ext W W') : ChTo w m out v W' := ⟨h.row.ext hx, h.own, h.ext.trans hx⟩

theorem row_cap {w : World} {e : TypeId} {size : Nat} {a : Option Addr} {n c : Nat} {xs : List Value} (h : Row w e size (.slice a n c) n xs) : n ≤ c := by
  obtain ⟨_, ⟨e1, e2⟩ | ⟨g, cap, cur, e1, _, _, h2, _⟩⟩ := h
  · omega
  · simp at e1; omega

abbrev qBlk (w : World) (b : Nat) (op fn : Int) (ser oth : ByteArray) (fr to wd st off gap tol fill : Int) : Prop := w.heap[b]? = some (.cells #[.int .i64 op, .int .i64 fn, .string ser, .string oth, .int .i64 fr, .int .i64 to, .int .i64 wd, .int .i64 st, .int .i64 off, .int .i64 gap, .int .i64 tol, .int .i64 fill] 23 (0, 0))

set_option maxHeartbeats 8000000 in
set_option maxRecDepth 100000 in
theorem all_ok (op fn : Int) (ser oth : ByteArray) (fr to wd st off gap tol fill : Int) (hse : ser.size ≤ maxLen) (hot : oth.size ≤ maxLen) (low : Int) (w : World) (a : Option Addr) (n c : Nat) (l : List Ti) (hs : Src w 5 (.slice a n c) n (tis l)) (hn : n ≤ 4) (hfine : ∀ t ∈ l, TiFine t)
    (hck : planCheckB op fn ser oth fr to wd st off gap tol fill = true) (f1 : -1152921504606846976 ≤ fr) (f2 : fr ≤ 1152921504606846976) (g1 : -1152921504606846976 ≤ to) (g2 : to ≤ 1152921504606846976) (l1 : -1152921504606846976 ≤ low) (l2 : low ≤ 1152921504606846976) :
    Calls Tryz.prog 5 #[qV op fn ser oth fr to wd st off gap tol fill, .slice a n c, .int .i64 low] w fun e w' => ∃ oa m oc, e = .returned (.tuple #[.slice oa m oc, .int .i64 0]) ∧ Src w' 3 (.slice oa m oc) m (pts (choices fr to wd st off low l)) ∧ m ≤ 5 ∧ m ≤ oc ∧ Ext w w' := by
  have HS := Lib.hid hs
  have Ln := Lib.hid (tis_src_len hs)
  have HFI := Lib.hid hfine
  have HCK := Lib.hid (fun W => planCheck_any op fn ser oth fr to wd st off gap tol fill hse hot W)
  rw [hck] at HCK
  simp only [if_true] at HCK
  clear hs hfine hck hse hot
  have HB := Lib.hid (And.intro (And.intro f1 f2) (And.intro g1 g2))
  clear f1 f2 g1 g2
  have hnl1 : ¬ low < -1152921504606846976 := by omega
  have hnl2 : ¬ 1152921504606846976 < low := by omega
  unfold qV at *
  go_enter Tryz.func5, Tryz.ntmps5
  go_wp2_with fail
  generalize hW : World.alloc _ _ = W
  have HX : Hid (Ext w W) := Lib.hid (by subst hW; exact (Ext.refl w).alloc _)
  have BQ : Hid (qBlk W w.heap.size op fn ser oth fr to wd st off gap tol fill) := Lib.hid (by subst hW; exact heap_alloc_new w _)
  clear hW
  refine (HCK.out W).mono ?_
  rintro e w1 ⟨rfl, hx1⟩
  have HX1 := Lib.hid (HX.out.trans hx1)
  have BQ1 : Hid (qBlk w1 w.heap.size op fn ser oth fr to wd st off gap tol fill) := Lib.hid ((hx1.block (block_lt BQ.out)).trans BQ.out)
  clear hx1 HX BQ HCK
  have c0 : w1.cell? ⟨w.heap.size, 0, none⟩ = some (.int .i64 op) := by have := cell_of_block BQ1.out 0; simpa using this
  have c1 : w1.cell? ⟨w.heap.size, 1, none⟩ = some (.int .i64 fn) := by have := cell_of_block BQ1.out 1; simpa using this
  have c2 : w1.cell? ⟨w.heap.size, 2, none⟩ = some (.string ser) := by have := cell_of_block BQ1.out 2; simpa using this
  have c3 : w1.cell? ⟨w.heap.size, 3, none⟩ = some (.string oth) := by have := cell_of_block BQ1.out 3; simpa using this
  have c4 : w1.cell? ⟨w.heap.size, 4, none⟩ = some (.int .i64 fr) := by have := cell_of_block BQ1.out 4; simpa using this
  have c5 : w1.cell? ⟨w.heap.size, 5, none⟩ = some (.int .i64 to) := by have := cell_of_block BQ1.out 5; simpa using this
  have c6 : w1.cell? ⟨w.heap.size, 6, none⟩ = some (.int .i64 wd) := by have := cell_of_block BQ1.out 6; simpa using this
  have c7 : w1.cell? ⟨w.heap.size, 7, none⟩ = some (.int .i64 st) := by have := cell_of_block BQ1.out 7; simpa using this
  have c8 : w1.cell? ⟨w.heap.size, 8, none⟩ = some (.int .i64 off) := by have := cell_of_block BQ1.out 8; simpa using this
  have c9 : w1.cell? ⟨w.heap.size, 9, none⟩ = some (.int .i64 gap) := by have := cell_of_block BQ1.out 9; simpa using this
  have c10 : w1.cell? ⟨w.heap.size, 10, none⟩ = some (.int .i64 tol) := by have := cell_of_block BQ1.out 10; simpa using this
  have c11 : w1.cell? ⟨w.heap.size, 11, none⟩ = some (.int .i64 fill) := by have := cell_of_block BQ1.out 11; simpa using this
  go_wp2_with fail
  refine (planRaw_any op fn ser oth fr to wd st off gap tol fill w1).mono ?_
  rintro e w2 ⟨rfl, hx2⟩
  have HX2 := Lib.hid (HX1.out.trans hx2)
  have BQ2 : Hid (qBlk w2 w.heap.size op fn ser oth fr to wd st off gap tol fill) := Lib.hid ((hx2.block (block_lt BQ1.out)).trans BQ1.out)
  clear c0 c1 c2 c3 c4 c5 c6 c7 c8 c9 c10 c11
  clear hx2 BQ1 HX1
  go_wp2_with fail
  generalize hW2 : World.alloc _ _ = W2
  have HC0 : Hid (ChTo w2 1 (choices fr to wd st off low (l.take 0)) (.slice (some ⟨w2.heap.size, 0, none⟩) 1 1) W2) := Lib.hid (by
    subst hW2
    exact ⟨⟨rfl, .inr ⟨_, 1, _, rfl, Nat.zero_le _, heap_alloc_new _ _, Nat.le_refl _, by unfold maxLen; omega, rfl, rfl⟩⟩, fun g hg => by cases hg; exact Nat.le_refl _, (Ext.refl w2).alloc _⟩)
  clear hW2
  go_loopw [30, 9] (fun i s wr => ∃ (j m : Nat) (oa : Option Addr) (oc : Nat), j ≤ n ∧ m ≤ j + 1 ∧ i = .int .i64 j ∧ s = .slice oa m oc ∧ Hid (ChTo w2 m (choices fr to wd st off low (l.take j)) (.slice oa m oc) wr)) (fun i _ _ => n - (RowKit.intOf i).toNat)
  case atStart => exact ⟨0, 1, _, _, by omega, by omega, rfl, rfl, HC0⟩
  case round =>
    clear HC0
    obtain ⟨j, m, oa, oc, hj, hm, rfl, rfl, I⟩ := hrel
    by_cases hlt : j < n
    · obtain ⟨tb, tof, ⟨tw, tO, tu, tm, tf⟩, rfl, ht, t0, t1, t2, t3, t4⟩ := tis_src (HS.out.ext (HX2.out.trans I.out.ext)) hlt
      simp only at t0 t1 t2 t3 t4
      have HTK := Lib.hid (take_snoc5 ht)
      have HTL : Hid ((l.take j).length = j) := Lib.hid (by rw [List.length_take, Nat.min_eq_left (by rw [Ln.out]; exact hj)])
      obtain ⟨y1, y2, y3, y4, y5, y6⟩ := HFI.out _ (List.mem_of_getElem? ht)
      simp only at y1 y2 y3 y4 y5 y6
      clear ht
      go_wp2_with fail
      generalize hW : World.alloc _ _ = W3
      have HX3 : Hid (Ext wr W3) := Lib.hid (by subst hW; exact (Ext.refl wr).alloc _)
      have B3 : Hid (W3.heap[wr.heap.size]? = some (.cells #[.int .i64 tw, .int .i64 tO, .int .i64 tu, .bool tm, .string tf] 48 (0, 0))) := Lib.hid (by subst hW; exact heap_alloc_new wr _)
      have BQ3 : Hid (qBlk W3 w.heap.size op fn ser oth fr to wd st off gap tol fill) := Lib.hid (((I.out.ext.trans HX3.out).block (block_lt BQ2.out)).trans BQ2.out)
      clear hW t0 t1 t2 t3 t4
      have k0 := cell_regrown (show W3.cell? ⟨w.heap.size, 0, none⟩ = some (.int .i64 op) by have := cell_of_block BQ3.out 0; simpa using this)
      have k1 := cell_regrown (show W3.cell? ⟨w.heap.size, 1, none⟩ = some (.int .i64 fn) by have := cell_of_block BQ3.out 1; simpa using this)
      have k2 := cell_regrown (show W3.cell? ⟨w.heap.size, 2, none⟩ = some (.string ser) by have := cell_of_block BQ3.out 2; simpa using this)
      have k3 := cell_regrown (show W3.cell? ⟨w.heap.size, 3, none⟩ = some (.string oth) by have := cell_of_block BQ3.out 3; simpa using this)
      have k4 := cell_regrown (show W3.cell? ⟨w.heap.size, 4, none⟩ = some (.int .i64 fr) by have := cell_of_block BQ3.out 4; simpa using this)
      have k5 := cell_regrown (show W3.cell? ⟨w.heap.size, 5, none⟩ = some (.int .i64 to) by have := cell_of_block BQ3.out 5; simpa using this)
      have k6 := cell_regrown (show W3.cell? ⟨w.heap.size, 6, none⟩ = some (.int .i64 wd) by have := cell_of_block BQ3.out 6; simpa using this)
      have k7 := cell_regrown (show W3.cell? ⟨w.heap.size, 7, none⟩ = some (.int .i64 st) by have := cell_of_block BQ3.out 7; simpa using this)
      have k8 := cell_regrown (show W3.cell? ⟨w.heap.size, 8, none⟩ = some (.int .i64 off) by have := cell_of_block BQ3.out 8; simpa using this)
      have k9 := cell_regrown (show W3.cell? ⟨w.heap.size, 9, none⟩ = some (.int .i64 gap) by have := cell_of_block BQ3.out 9; simpa using this)
      have k10 := cell_regrown (show W3.cell? ⟨w.heap.size, 10, none⟩ = some (.int .i64 tol) by have := cell_of_block BQ3.out 10; simpa using this)
      have k11 := cell_regrown (show W3.cell? ⟨w.heap.size, 11, none⟩ = some (.int .i64 fill) by have := cell_of_block BQ3.out 11; simpa using this)
      have kt0 := cell_regrown (show W3.cell? ⟨wr.heap.size, 0, none⟩ = some (.int .i64 tw) by have := cell_of_block B3.out 0; simpa using this)
      have kt1 := cell_regrown (show W3.cell? ⟨wr.heap.size, 1, none⟩ = some (.int .i64 tO) by have := cell_of_block B3.out 1; simpa using this)
      have kt3 := cell_regrown (show W3.cell? ⟨wr.heap.size, 3, none⟩ = some (.bool tm) by have := cell_of_block B3.out 3; simpa using this)
      cases tm
      · have HONE : Hid (oneCh fr to wd st off low ⟨tw, tO, tu, false, tf⟩ (l.take j).length = []) := Lib.hid (by simp [oneCh, tierIn])
        refine wp_region_quiet_below (by kernel_rfl) (by kernel_rfl) ?_
        repeat (go_big_quiet_step (fail))
        refine wpQuiet_nil ?_
        intro _ hw'
        obtain ⟨pr, rfl⟩ := hw'
        generalize hW4 : grow _ _ = W4
        have HX4 : Hid (Ext W3 W4) := Lib.hid (by subst hW4; exact Ext.regrown _ _ _)
        clear hW4
        clear k0 k1 k2 k3 k4 k5 k6 k7 k8 k9 k10 k11 kt0 kt1 kt3
        go_wp2_with fail
        go_roundw
        case rel => exact ⟨j + 1, m, oa, oc, by omega, by omega, by go_num, rfl, Lib.hid (by rw [HTK.out, choices_snoc, HONE.out, List.append_nil]; exact I.out.next (HX3.out.trans HX4.out))⟩
        case measure => simp [RowKit.intOf]; omega
      · cases hfv : fitsW wd st off tw tO
        · have HFV := Lib.hid hfv
          clear hfv
          have HFIT : Hid (∀ (d : Nat) (os : Array Obj) (w : World), Calls Tryz.prog 15 #[.agg #[.int .i64 wd, .int .i64 st, .int .i64 off], .int .i64 tw, .int .i64 tO] (grow (redrawn w d) os) fun e w'' => e = .returned (.bool false) ∧ ∃ p : Regrown, w'' = grow (redrawn w p.d) p.os) := Lib.hid (fun d os w => Calls.grown_of (by have h := fitsW_any wd st off tw tO (grow (redrawn w d) os) (by omega) (by omega); rw [HFV.out] at h; exact h))
          have HONE : Hid (oneCh fr to wd st off low ⟨tw, tO, tu, true, tf⟩ (l.take j).length = []) := Lib.hid (by simp [oneCh, tierIn, HFV.out])
          refine wp_region_quiet_below (by kernel_rfl) (by kernel_rfl) ?_
          repeat (go_big_quiet_step (first | (go_at_call 16; exact Calls.grown_of (planKind_any op fn ser oth fr to wd st off gap tol fill _)) | (go_at_call 15; exact HFIT.out _ _ _)))
          refine wpQuiet_nil ?_
          intro _ hw'
          obtain ⟨pr, rfl⟩ := hw'
          generalize hW4 : grow _ _ = W4
          have HX4 : Hid (Ext W3 W4) := Lib.hid (by subst hW4; exact Ext.regrown _ _ _)
          clear hW4
          clear k0 k1 k2 k3 k4 k5 k6 k7 k8 k9 k10 k11 kt0 kt1 kt3
          go_wp2_with fail
          go_roundw
          case rel => exact ⟨j + 1, m, oa, oc, by omega, by omega, by go_num, rfl, Lib.hid (by rw [HTK.out, choices_snoc, HONE.out, List.append_nil]; exact I.out.next (HX3.out.trans HX4.out))⟩
          case measure => simp [RowKit.intOf]; omega
        · have HFV := Lib.hid hfv
          clear hfv
          have HFIT : Hid (∀ (d : Nat) (os : Array Obj) (w : World), Calls Tryz.prog 15 #[.agg #[.int .i64 wd, .int .i64 st, .int .i64 off], .int .i64 tw, .int .i64 tO] (grow (redrawn w d) os) fun e w'' => e = .returned (.bool true) ∧ ∃ p : Regrown, w'' = grow (redrawn w p.d) p.os) := Lib.hid (fun d os w => Calls.grown_of (by have h := fitsW_any wd st off tw tO (grow (redrawn w d) os) (by omega) (by omega); rw [HFV.out] at h; exact h))
          refine wp_region_quiet_below (by kernel_rfl) (by kernel_rfl) ?_
          repeat (go_big_quiet_step (first | (go_at_call 16; exact Calls.grown_of (planKind_any op fn ser oth fr to wd st off gap tol fill _)) | (go_at_call 15; exact HFIT.out _ _ _)))
          refine wpQuiet_nil ?_
          intro _ hw'
          obtain ⟨pr, rfl⟩ := hw'
          generalize hW4 : grow _ _ = W4
          have HX4 : Hid (Ext W3 W4) := Lib.hid (by subst hW4; exact Ext.regrown _ _ _)
          clear hW4
          clear k0 k1 k2 k3 k4 k5 k6 k7 k8 k9 k10 k11 kt0 kt1 kt3
          have BQ4 : Hid (qBlk W4 w.heap.size op fn ser oth fr to wd st off gap tol fill) := Lib.hid ((HX4.out.block (block_lt BQ3.out)).trans BQ3.out)
          have B4 := Lib.hid ((HX4.out.block (block_lt B3.out)).trans B3.out)
          have c0 : W4.cell? ⟨w.heap.size, 0, none⟩ = some (.int .i64 op) := by have := cell_of_block BQ4.out 0; simpa using this
          have c1 : W4.cell? ⟨w.heap.size, 1, none⟩ = some (.int .i64 fn) := by have := cell_of_block BQ4.out 1; simpa using this
          have c2 : W4.cell? ⟨w.heap.size, 2, none⟩ = some (.string ser) := by have := cell_of_block BQ4.out 2; simpa using this
          have c3 : W4.cell? ⟨w.heap.size, 3, none⟩ = some (.string oth) := by have := cell_of_block BQ4.out 3; simpa using this
          have c4 : W4.cell? ⟨w.heap.size, 4, none⟩ = some (.int .i64 fr) := by have := cell_of_block BQ4.out 4; simpa using this
          have c5 : W4.cell? ⟨w.heap.size, 5, none⟩ = some (.int .i64 to) := by have := cell_of_block BQ4.out 5; simpa using this
          have c6 : W4.cell? ⟨w.heap.size, 6, none⟩ = some (.int .i64 wd) := by have := cell_of_block BQ4.out 6; simpa using this
          have c7 : W4.cell? ⟨w.heap.size, 7, none⟩ = some (.int .i64 st) := by have := cell_of_block BQ4.out 7; simpa using this
          have c8 : W4.cell? ⟨w.heap.size, 8, none⟩ = some (.int .i64 off) := by have := cell_of_block BQ4.out 8; simpa using this
          have c9 : W4.cell? ⟨w.heap.size, 9, none⟩ = some (.int .i64 gap) := by have := cell_of_block BQ4.out 9; simpa using this
          have c10 : W4.cell? ⟨w.heap.size, 10, none⟩ = some (.int .i64 tol) := by have := cell_of_block BQ4.out 10; simpa using this
          have c11 : W4.cell? ⟨w.heap.size, 11, none⟩ = some (.int .i64 fill) := by have := cell_of_block BQ4.out 11; simpa using this
          have d0 : W4.cell? ⟨wr.heap.size, 0, none⟩ = some (.int .i64 tw) := by have := cell_of_block B4.out 0; simpa using this
          have d1 : W4.cell? ⟨wr.heap.size, 1, none⟩ = some (.int .i64 tO) := by have := cell_of_block B4.out 1; simpa using this
          have d2 : W4.cell? ⟨wr.heap.size, 2, none⟩ = some (.int .i64 tu) := by have := cell_of_block B4.out 2; simpa using this
          have d3 : W4.cell? ⟨wr.heap.size, 3, none⟩ = some (.bool true) := by have := cell_of_block B4.out 3; simpa using this
          have d4 : W4.cell? ⟨wr.heap.size, 4, none⟩ = some (.string tf) := by have := cell_of_block B4.out 4; simpa using this
          go_wp2_with fail
          refine (span_any op fn ser oth fr to wd st off gap tol fill ⟨tw, tO, tu, true, tf⟩ low W4 y1 y2 y3 y4 HB.out.1.1 HB.out.1.2 HB.out.2.1 HB.out.2.2 l1 l2 y5 y6).mono ?_
          rintro e w5 ⟨rfl, hx5⟩
          have HX5 := Lib.hid ((HX3.out.trans HX4.out).trans hx5)
          clear c0 c1 c2 c3 c4 c5 c6 c7 c8 c9 c10 c11
          clear d0 d1 d2 d3 d4 hx5
          obtain ⟨A, hA⟩ : ∃ A, spanA fr low ⟨tw, tO, tu, true, tf⟩ = A := ⟨_, rfl⟩
          obtain ⟨B, hB⟩ : ∃ B, spanB to ⟨tw, tO, tu, true, tf⟩ = B := ⟨_, rfl⟩
          rw [hA, hB]
          have HSA := Lib.hid hA
          have HSB := Lib.hid hB
          clear hA hB
          have HR : Hid (Row w5 35 3 (.slice oa m oc) m (pts (choices fr to wd st off low (l.take j)))) := Lib.hid (I.out.row.ext HX5.out)
          by_cases hab : A < B
          · have HONE : Hid (oneCh fr to wd st off low ⟨tw, tO, tu, true, tf⟩ (l.take j).length = [⟨j, A, B⟩]) := Lib.hid (by simp [oneCh, tierIn, HFV.out, HSA.out, HSB.out, hab, HTL.out])
            go_wp2_with (at_builtin; go_must (refine wpList_append_to (m := 1) elem_ch rfl _ _ rfl (v := .slice _ _ _) rfl rfl (HR.out.alloc _) (src_pt' (p := ⟨j, A, B⟩) (heap_alloc_new _ _)) (by unfold maxLen; omega) (by omega) ?_; intro v' w6 happ); have K := Lib.hid (I.out.snoc (HX5.out.alloc _) (p := ⟨j, A, B⟩) happ); obtain ⟨oa', oc', rfl⟩ := happ.row.shape; clear happ)
            go_roundw
            case rel => exact ⟨j + 1, m + 1, oa', oc', by omega, by omega, by go_num, rfl, Lib.hid (by rw [HTK.out, choices_snoc, HONE.out]; exact K.out)⟩
            case measure => simp [RowKit.intOf]; omega
          · have HONE : Hid (oneCh fr to wd st off low ⟨tw, tO, tu, true, tf⟩ (l.take j).length = []) := Lib.hid (by simp [oneCh, HSA.out, HSB.out, hab])
            go_wp2_with fail
            go_roundw
            case rel => exact ⟨j + 1, m, oa, oc, by omega, by omega, by go_num, rfl, Lib.hid (by rw [HTK.out, choices_snoc, HONE.out, List.append_nil]; exact I.out.next HX5.out)⟩
            case measure => simp [RowKit.intOf]; omega
    · have HTO : Hid (l.take j = l) := Lib.hid (List.take_of_length_le (by have := Ln.out; omega))
      have HRS : Hid (Src wr 3 (.slice oa m oc) m (pts (choices fr to wd st off low l))) := Lib.hid (by have h1 := I.out.row; rw [HTO.out] at h1; exact h1.src (pts_one _))
      have HE := Lib.hid (HX2.out.trans I.out.ext)
      have HCP := Lib.hid (row_cap I.out.row)
      clear I
      go_wp2_with fail
      go_ret2
      exact ⟨oa, m, oc, rfl, HRS.out, by omega, HCP.out, HE.out⟩

end Go.Proofs.YtokllgdbmnmieaaGreat

/-! tidemillref18.Right of a state that has tiers alone; tidemilllaw26.fine. -/

namespace Go.Proofs.YtokllgdbmnmieaaGreat
open Go.RowKit Go.Sort Go.Lib

set_option maxHeartbeats 1000000 in
theorem in18_any (n a b : Int) (w : World) :
    Calls Tryz.prog 33 #[.int .i64 n, .int .i64 a, .int .i64 b] w fun e w' => e = .returned (.bool (withinB n a b)) ∧ w = w' := by
  by_cases h1 : a ≤ n <;> by_cases h2 : n ≤ b
  all_goals
    have Hf : Hid (withinB n a b = (decide (a ≤ n) && decide (n ≤ b))) := rfl
    go_enter Tryz.func33, Tryz.ntmps33
    go_wp2
    go_ret
    exact ⟨by rw [Hf.out]; simp [*], rfl⟩

def nameB (s : ByteArray) : Bool := decide (1 ≤ s.size) && decide (s.size ≤ 64)
set_option maxHeartbeats 1000000 in
theorem name18_any (s : ByteArray) (w : World) :
    Calls Tryz.prog 35 #[.string s] w fun e w' => e = .returned (.bool (nameB s)) ∧ w = w' := by
  by_cases h1 : 1 ≤ s.size <;> by_cases h2 : s.size ≤ 64
  all_goals
    have Hf : Hid (nameB s = (decide (1 ≤ s.size) && decide (s.size ≤ 64))) := rfl
    have h1' : (1 ≤ (s.size : Int)) ↔ 1 ≤ s.size := by omega
    have h2' : ((s.size : Int) ≤ 64) ↔ s.size ≤ 64 := by omega
    go_enter Tryz.func35, Tryz.ntmps35
    go_wp2
    all_goals
      go_ret
      exact ⟨by rw [Hf.out]; first | (simp [*]; done) | (simp [*]; omega), rfl⟩

set_option maxHeartbeats 1000000 in
theorem mark0 (w : World) : Calls Tryz.prog 34 #[.agg #[.bool false, .int .i64 0, .int .i64 0]] w fun e w' => e = .returned (.bool true) ∧ Ext w w' := by
  go_enter Tryz.func34, Tryz.ntmps34
  go_wp2
  go_ret
  exact ⟨rfl, (Ext.refl _).alloc _⟩

/-- Is a tier right? -/
def tierOk (t : Ti) : Bool := withinB t.w 1 1099511627776 && withinB t.o 0 (t.w - 1) && (if t.m then nameB t.f && withinB t.u (-1152921504606846976) 1152921504606846976 else decide (t.f.toList = []) && decide (t.u = 0))

set_option maxHeartbeats 4000000 in
set_option maxRecDepth 100000 in
theorem right_any (w : World) (a : Option Addr) (n c : Nat) (l : List Ti) (hs : Src w 5 (.slice a n c) n (tis l)) (hn : n ≤ 4) :
    Calls Tryz.prog 11 #[.agg #[.int .i64 0, .int .i64 0, .int .i64 0, .bool false, .int .i64 0, .int .i64 0, .slice none 0 0, .slice a n c]] w fun e w' => e = .returned (.bool (l.all tierOk)) ∧ Ext w w' := by
  have HS := Lib.hid hs
  have Ln := Lib.hid (tis_src_len hs)
  clear hs
  have z1 : withinB 0 0 1152921504606846976 = true := by decide
  go_enter Tryz.func11, Tryz.ntmps11
  go_wp2_with (first
    | (go_at_call 33; refine (in18_any _ _ _ _).mono ?_; rw [z1]; rintro e w' ⟨rfl, rfl⟩))
  generalize hW : World.alloc _ _ = W
  have HX : Hid (Ext w W) := Lib.hid (by subst hW; exact (Ext.refl w).alloc _)
  have b6 : W.cell? ⟨w.heap.size, 6, none⟩ = some (.slice none 0 0) := by subst hW; simp [go_sem]
  have b7 : W.cell? ⟨w.heap.size, 7, none⟩ = some (.slice a n c) := by subst hW; simp [go_sem]
  have hbl := World.block_lt_of_cell? W _ b6
  clear hW z1
  refine (mark0 W).mono ?_
  rintro e w1 ⟨rfl, hx1⟩
  have c6 := (hx1.cell (p := ⟨w.heap.size, 6, none⟩) hbl).trans b6
  have c7 := (hx1.cell (p := ⟨w.heap.size, 7, none⟩) hbl).trans b7
  have hbl1 := World.block_lt_of_cell? w1 _ c6
  have HX1 := Lib.hid (HX.out.trans hx1)
  clear hx1 b6 b7 hbl HX
  go_wp2_with fail
  go_loopw [3] (fun i wr => i = .int .i64 0 ∧ wr = w1) (fun _ _ => 0)
  case atStart => exact ⟨rfl, rfl⟩
  case round =>
    obtain ⟨rfl, rfl⟩ := hrel
    go_wp2_with fail
    go_loopw [5] (fun i w2 => ∃ j : Nat, j ≤ n ∧ i = .int .i64 j ∧ Hid (Ext wr w2 ∧ (l.take j).all tierOk = true)) (fun i _ => n - (RowKit.intOf i).toNat)
    case atStart => exact ⟨0, by omega, rfl, Lib.hid ⟨Ext.refl _, rfl⟩⟩
    case round =>
      obtain ⟨j, hj, rfl, I⟩ := hrel
      by_cases hlt : j < n
      · obtain ⟨tb, tof, ⟨tw, tO, tu, tm, tf⟩, rfl, ht, t0, t1, t2, t3, t4⟩ := tis_src (HS.out.ext (HX1.out.trans I.out.1)) hlt
        simp only at t0 t1 t2 t3 t4
        have HTK := Lib.hid (take_snoc5 ht)
        have HM := Lib.hid (List.mem_of_getElem? ht)
        have e7 := (I.out.1.cell (p := ⟨w.heap.size, 7, none⟩) hbl1).trans c7
        clear ht c6 c7
        have HO : Hid (tierOk ⟨tw, tO, tu, tm, tf⟩ = (withinB tw 1 1099511627776 && withinB tO 0 (tw - 1) && (if tm then nameB tf && withinB tu (-1152921504606846976) 1152921504606846976 else decide (tf.toList = []) && decide (tu = 0)))) := rfl
        have HWI : Hid (withinB tw 1 1099511627776 = (decide (1 ≤ tw) && decide (tw ≤ 1099511627776))) := rfl
        have HF : Hid (tierOk ⟨tw, tO, tu, tm, tf⟩ = false → l.all tierOk = false) := Lib.hid (fun h => by rw [List.all_eq_false]; exact ⟨_, HM.out, by simp [h]⟩)
        generalize hb1 : withinB tw 1 1099511627776 = b1 at HO HWI
        cases b1
        · go_wp2_with (first
            | (go_at_call 33; refine (in18_any _ _ _ _).mono ?_; rw [hb1]; rintro e w' ⟨rfl, rfl⟩))
          go_ret
          exact ⟨by rw [HF.out (by rw [HO.out]; rfl)]; rfl, HX1.out.trans (I.out.1.alloc _)⟩
        · have hw1 : 1 ≤ tw ∧ tw ≤ 1099511627776 := by have := HWI.out; simpa using this
          have hw2 : IntKind.i64.wrap (tw - 1) = tw - 1 := by rw [IntKind.wrap_i64]; omega
          clear HWI
          generalize hb2 : withinB tO 0 (tw - 1) = b2 at HO
          cases b2
          · go_wp2_with (first
              | (go_at_call 33; refine (in18_any _ _ _ _).mono ?_; (first | rw [hb1] | rw [hb2]); rintro e w' ⟨rfl, rfl⟩))
            go_ret
            exact ⟨by rw [HF.out (by rw [HO.out]; rfl)]; rfl, HX1.out.trans (I.out.1.alloc _)⟩
          · cases tm
            · by_cases h3 : tf.toList = []
              · by_cases h4 : tu = 0
                · go_wp2_with (first
                    | (go_at_call 33; refine (in18_any _ _ _ _).mono ?_; (first | rw [hb1] | rw [hb2]); rintro e w' ⟨rfl, rfl⟩))
                  go_roundw
                  case rel => exact ⟨j + 1, by omega, by go_num, Lib.hid ⟨I.out.1.alloc _, by rw [HTK.out, List.all_append, I.out.2, Bool.true_and, List.all_cons, HO.out]; simp [*]⟩⟩
                  case measure => simp [RowKit.intOf]; omega
                · go_wp2_with (first
                    | (go_at_call 33; refine (in18_any _ _ _ _).mono ?_; (first | rw [hb1] | rw [hb2]); rintro e w' ⟨rfl, rfl⟩))
                  go_ret
                  exact ⟨by rw [HF.out (by rw [HO.out]; simp [*])]; rfl, HX1.out.trans (I.out.1.alloc _)⟩
              · go_wp2_with (first
                    | (go_at_call 33; refine (in18_any _ _ _ _).mono ?_; (first | rw [hb1] | rw [hb2]); rintro e w' ⟨rfl, rfl⟩))
                go_ret
                exact ⟨by rw [HF.out (by rw [HO.out]; simp [*])]; rfl, HX1.out.trans (I.out.1.alloc _)⟩
            · generalize hb3 : nameB tf = b3 at HO
              cases b3
              · go_wp2_with (first
                    | (go_at_call 33; refine (in18_any _ _ _ _).mono ?_; (first | rw [hb1] | rw [hb2]); rintro e w' ⟨rfl, rfl⟩)
                    | (go_at_call 35; refine (name18_any _ _).mono ?_; rw [hb3]; rintro e w' ⟨rfl, rfl⟩))
                go_ret
                exact ⟨by rw [HF.out (by rw [HO.out]; simp [*])]; rfl, HX1.out.trans (I.out.1.alloc _)⟩
              · generalize hb4 : withinB tu (-1152921504606846976) 1152921504606846976 = b4 at HO
                cases b4
                · go_wp2_with (first
                    | (go_at_call 33; refine (in18_any _ _ _ _).mono ?_; (first | rw [hb1] | rw [hb2] | rw [hb4]); rintro e w' ⟨rfl, rfl⟩)
                    | (go_at_call 35; refine (name18_any _ _).mono ?_; rw [hb3]; rintro e w' ⟨rfl, rfl⟩))
                  go_ret
                  exact ⟨by rw [HF.out (by rw [HO.out]; simp [*])]; rfl, HX1.out.trans (I.out.1.alloc _)⟩
                · go_wp2_with (first
                    | (go_at_call 33; refine (in18_any _ _ _ _).mono ?_; (first | rw [hb1] | rw [hb2] | rw [hb4]); rintro e w' ⟨rfl, rfl⟩)
                    | (go_at_call 35; refine (name18_any _ _).mono ?_; rw [hb3]; rintro e w' ⟨rfl, rfl⟩))
                  go_roundw
                  case rel => exact ⟨j + 1, by omega, by go_num, Lib.hid ⟨I.out.1.alloc _, by rw [HTK.out, List.all_append, I.out.2, Bool.true_and, List.all_cons, HO.out]; rfl⟩⟩
                  case measure => simp [RowKit.intOf]; omega
      · have HT : Hid (l.take j = l) := Lib.hid (List.take_of_length_le (by have := Ln.out; omega))
        have e7 := (I.out.1.cell (p := ⟨w.heap.size, 7, none⟩) hbl1).trans c7
        go_wp2_with fail
        go_ret
        exact ⟨by have := I.out.2; rw [HT.out] at this; rw [this]; rfl, HX1.out.trans I.out.1⟩

end Go.Proofs.YtokllgdbmnmieaaGreat

/-! tidemilllaw26.fine; plan.All where it refuses; plan.Best. -/

namespace Go.Proofs.YtokllgdbmnmieaaGreat
open Go.RowKit Go.Sort Go.Lib

def fineB (n : Nat) (l : List Ti) : Bool := decide (n ≤ 4) && l.all tierOk

set_option maxHeartbeats 2000000 in
set_option maxRecDepth 100000 in
theorem fine_any (w : World) (a : Option Addr) (n c : Nat) (l : List Ti) (hs : Src w 5 (.slice a n c) n (tis l)) (hn : n ≤ 4398046511104) :
    Calls Tryz.prog 4 #[.slice a n c] w fun e w' => e = .returned (.bool (fineB n l)) ∧ Ext w w' := by
  have HFB : Hid (fineB n l = (decide (n ≤ 4) && l.all tierOk)) := rfl
  have HS := Lib.hid hs
  clear hs
  by_cases h4 : n ≤ 4
  · have h4' : (n : Int) ≤ 4 := by omega
    go_enter Tryz.func4, Tryz.ntmps4
    go_wp2_with (first
      | (go_at_call 12; refine (own_any w a n c l HS.out (by omega)).mono ?_; rintro e w1 ⟨oa, oc, rfl, hs1, hx1⟩; have HS1 := Lib.hid hs1; have HX1 := Lib.hid hx1; clear hs1 hx1)
      | (go_at_call 11; refine (right_any _ _ _ _ _ HS1.out h4).mono ?_; rintro e w2 ⟨rfl, hx2⟩; have HX2 := Lib.hid hx2; clear hx2))
    go_ret
    exact ⟨by rw [HFB.out]; simp [h4], HX1.out.trans HX2.out⟩
  · have h4' : ¬ (n : Int) ≤ 4 := by omega
    go_enter Tryz.func4, Tryz.ntmps4
    go_wp2_with fail
    go_ret
    exact ⟨by rw [HFB.out]; simp [h4], Ext.refl _⟩

theorem tierOk_fine {t : Ti} (h : tierOk t = true) : TiFine t := by
  unfold tierOk withinB at h
  simp only [Bool.and_eq_true, decide_eq_true_eq] at h
  obtain ⟨⟨⟨h1, h2⟩, h3, h4⟩, h5⟩ := h
  refine ⟨h1, h2, h3, by omega, ?_⟩
  split at h5
  · simp at h5; omega
  · simp at h5; omega

def allErr (op fn : Int) (ser oth : ByteArray) (fr to wd st off gap tol fill low : Int) : Int :=
  if planCheckB op fn ser oth fr to wd st off gap tol fill = false then 23 else if low < -1152921504606846976 ∨ 1152921504606846976 < low then 2 else 0

set_option maxHeartbeats 2000000 in
set_option maxRecDepth 100000 in
theorem all_bad (op fn : Int) (ser oth : ByteArray) (fr to wd st off gap tol fill : Int) (hse : ser.size ≤ maxLen) (hot : oth.size ≤ maxLen) (low : Int) (w : World) (v : Value) (he : allErr op fn ser oth fr to wd st off gap tol fill low ≠ 0) :
    Calls Tryz.prog 5 #[qV op fn ser oth fr to wd st off gap tol fill, v, .int .i64 low] w fun e w' => e = .returned (.tuple #[.slice none 0 0, .int .i64 (allErr op fn ser oth fr to wd st off gap tol fill low)]) ∧ Ext w w' := by
  have HCK := Lib.hid (fun W => planCheck_any op fn ser oth fr to wd st off gap tol fill hse hot W)
  have HE : Hid (allErr op fn ser oth fr to wd st off gap tol fill low = if planCheckB op fn ser oth fr to wd st off gap tol fill = false then 23 else if low < -1152921504606846976 ∨ 1152921504606846976 < low then 2 else 0) := rfl
  clear hse hot
  unfold qV at *
  generalize planCheckB op fn ser oth fr to wd st off gap tol fill = pb at *
  cases pb
  · simp only [Bool.false_eq_true, if_false] at HCK
    rw [show allErr op fn ser oth fr to wd st off gap tol fill low = 23 by rw [HE.out]; rfl]
    clear HE he
    go_enter Tryz.func5, Tryz.ntmps5
    go_wp2_with (first
      | (go_at_call 13; refine (HCK.out _).mono ?_; rintro e w1 ⟨rfl, hx1⟩; have HX := Lib.hid (((Ext.refl w).alloc _).trans hx1); clear hx1))
    go_ret2
    exact ⟨rfl, HX.out⟩
  · simp only [if_true] at HCK
    have hl : low < -1152921504606846976 ∨ 1152921504606846976 < low := by
      by_cases h : low < -1152921504606846976 ∨ 1152921504606846976 < low
      · exact h
      · exact absurd (by rw [HE.out]; simp [h]) he
    rw [show allErr op fn ser oth fr to wd st off gap tol fill low = 2 by rw [HE.out]; simp [hl]]
    clear HE he
    rcases hl with hl | hl
    · go_enter Tryz.func5, Tryz.ntmps5
      go_wp2_with (first
        | (go_at_call 13; refine (HCK.out _).mono ?_; rintro e w1 ⟨rfl, hx1⟩; have HX := Lib.hid (((Ext.refl w).alloc _).trans hx1); clear hx1))
      go_ret2
      exact ⟨rfl, HX.out⟩
    · have hl2 : ¬ low < -1152921504606846976 := by omega
      go_enter Tryz.func5, Tryz.ntmps5
      go_wp2_with (first
        | (go_at_call 13; refine (HCK.out _).mono ?_; rintro e w1 ⟨rfl, hx1⟩; have HX := Lib.hid (((Ext.refl w).alloc _).trans hx1); clear hx1))
      go_ret2
      exact ⟨rfl, HX.out⟩

def chBlk (w : World) (b : Nat) (p : Pt) : Prop := w.heap[b]? = some (.cells #[.int .i64 p.t, .int .i64 p.v, .int .i64 p.s] 35 (0, 0))

theorem eq_ch (a b c x y z : Int) (W : World) : (binOp .eql 35 (.agg #[.int .i64 a, .int .i64 b, .int .i64 c]) (.agg #[.int .i64 x, .int .i64 y, .int .i64 z])).run Tryz.prog W = .ok (.bool (a == x && (b == y && c == z))) W := by
  have hp : Tryz.prog.stoodInHeld 35 = false := by kernel_rfl
  have hu := Tryz.underlying35
  simp [go_sem, hp, hu]
  repeat' split
  all_goals simp_all

def takes (fr : Int) (l : List Ti) (p c : Pt) : Bool := (p.t == -1 && (p.v == fr && p.s == fr)) || decide ((l[p.t.toNat]?.map Ti.w).getD 0 < (l[c.t.toNat]?.map Ti.w).getD 0)

end Go.Proofs.YtokllgdbmnmieaaGreat

/-! plan.Best. -/

namespace Go.Proofs.YtokllgdbmnmieaaGreat
open Go.RowKit Go.Sort Go.Lib

def bestStep (fr : Int) (l : List Ti) (p c : Pt) : Pt := if takes fr l p c = true then c else p
def bestOf (fr : Int) (l : List Ti) (cs : List Pt) : Pt := cs.foldl (bestStep fr l) ⟨-1, fr, fr⟩

theorem chFrom_mem (fr to wd st off low : Int) : ∀ (l : List Ti) (i : Nat) (c : Pt), c ∈ chFrom fr to wd st off low l i → ∃ (k : Nat) (t : Ti), c = ⟨(k : Int), spanA fr low t, spanB to t⟩ ∧ i ≤ k ∧ k < i + l.length ∧ l[k - i]? = some t ∧ tierIn wd st off t = true ∧ spanA fr low t < spanB to t
  | [], i, c, h => by simp [chFrom] at h
  | t :: l, i, c, h => by
    rw [chFrom, List.mem_append] at h
    rcases h with h | h
    · unfold oneCh at h
      split at h
      · rename_i hc
        simp at h hc
        exact ⟨i, t, h, Nat.le_refl _, by simp, by simp, hc.1, hc.2⟩
      · simp at h
    · obtain ⟨k, t', rfl, h1, h2, h3, h4, h5⟩ := chFrom_mem fr to wd st off low l (i + 1) c h
      refine ⟨k, t', rfl, by omega, by simp; omega, ?_, h4, h5⟩
      rw [show k - i = (k - (i + 1)) + 1 by omega]
      simpa using h3

/-- What the best one is so far: that of no tier, or a tier's. -/
theorem best_kind (fr : Int) (l : List Ti) (n : Nat) (cs : List Pt) (h : ∀ c ∈ cs, ∃ k : Nat, c.t = k ∧ k < n) :
    bestOf fr l cs = ⟨-1, fr, fr⟩ ∨ ∃ k : Nat, (bestOf fr l cs).t = k ∧ k < n := by
  unfold bestOf
  have : ∀ (cs : List Pt) (p : Pt), (p = ⟨-1, fr, fr⟩ ∨ ∃ k : Nat, p.t = k ∧ k < n) → (∀ c ∈ cs, ∃ k : Nat, c.t = k ∧ k < n) → (cs.foldl (bestStep fr l) p = ⟨-1, fr, fr⟩ ∨ ∃ k : Nat, (cs.foldl (bestStep fr l) p).t = k ∧ k < n) := by
    intro cs
    induction cs with
    | nil => intro p hp _; exact hp
    | cons c cs ih =>
      intro p hp hc
      refine ih _ ?_ (fun x hx => hc x (List.mem_cons_of_mem _ hx))
      unfold bestStep
      split
      · exact .inr (hc c List.mem_cons_self)
      · exact hp
  exact this cs _ (.inl rfl) h

theorem set3 {w : World} {b : Nat} {p : Pt} (h : chBlk w b p) (x y z : Int) : chBlk (((w.setCell ⟨b, 0, none⟩ (.int .i64 x)).setCell ⟨b, 1, none⟩ (.int .i64 y)).setCell ⟨b, 2, none⟩ (.int .i64 z)) b ⟨x, y, z⟩ := by
  unfold chBlk at *
  rw [setCell_block (setCell_block (setCell_block h _) _)]
  simp
theorem set3_ext {w0 w : World} {b : Nat} (h : Ext w0 w) (hb : w0.heap.size ≤ b) (x y z : Int) : Ext w0 (((w.setCell ⟨b, 0, none⟩ (.int .i64 x)).setCell ⟨b, 1, none⟩ (.int .i64 y)).setCell ⟨b, 2, none⟩ (.int .i64 z)) :=
  ((h.setCell hb _).setCell hb _).setCell hb _
theorem ch_cells {w : World} {b : Nat} {p : Pt} (h : chBlk w b p) : w.cell? ⟨b, 0, none⟩ = some (.int .i64 p.t) ∧ w.cell? ⟨b, 1, none⟩ = some (.int .i64 p.v) ∧ w.cell? ⟨b, 2, none⟩ = some (.int .i64 p.s) :=
  ⟨by have := cell_of_block h 0; simpa using this, by have := cell_of_block h 1; simpa using this, by have := cell_of_block h 2; simpa using this⟩
theorem ch_free {w : World} {b : Nat} {p : Pt} (h : chBlk w b p) : w.frozen? ⟨b, 0, none⟩ = false ∧ w.frozen? ⟨b, 1, none⟩ = false ∧ w.frozen? ⟨b, 2, none⟩ = false :=
  ⟨free_of_block h 0, free_of_block h 1, free_of_block h 2⟩
theorem ch_ext {w w' : World} {b : Nat} {p : Pt} (h : chBlk w b p) (hx : Ext w w') : chBlk w' b p := (hx.block (block_lt h)).trans h

end Go.Proofs.YtokllgdbmnmieaaGreat

/-! PlanEdges, the plain law: what the choices and the best of them are like. -/

namespace Go.Proofs.YtokllgdbmnmieaaGreat

def wAt (l : List Ti) (i : Int) : Int := (l[i.toNat]?.map Ti.w).getD 0

theorem takes_eq (fr : Int) (l : List Ti) (p c : Pt) : takes fr l p c = ((p.t == -1 && (p.v == fr && p.s == fr)) || decide (wAt l p.t < wAt l c.t)) := rfl

/-- The best one is that of no tier, if there is no other; else it is a tier's, one of these, of which none is wider. -/
theorem best_facts (fr : Int) (l : List Ti) : ∀ (cs : List Pt) (p : Pt), (∀ c ∈ cs, 0 ≤ c.t) →
    ((cs.foldl (bestStep fr l) p = p ∨ cs.foldl (bestStep fr l) p ∈ cs) ∧ (p = ⟨-1, fr, fr⟩ ∨ 0 ≤ p.t → cs ≠ [] → 0 ≤ (cs.foldl (bestStep fr l) p).t) ∧
     (0 ≤ p.t → 0 ≤ (cs.foldl (bestStep fr l) p).t ∧ wAt l p.t ≤ wAt l (cs.foldl (bestStep fr l) p).t) ∧ (p = ⟨-1, fr, fr⟩ ∨ 0 ≤ p.t → ∀ c ∈ cs, wAt l c.t ≤ wAt l (cs.foldl (bestStep fr l) p).t)) := by
  intro cs
  induction cs with
  | nil => intro p _; simp
  | cons c cs ih =>
    intro p hc
    have hc0 : 0 ≤ c.t := hc c List.mem_cons_self
    have hcs : ∀ x ∈ cs, 0 ≤ x.t := fun x hx => hc x (List.mem_cons_of_mem _ hx)
    simp only [List.foldl_cons]
    cases htk : takes fr l p c with
    | true =>
      have e : bestStep fr l p c = c := by simp [bestStep, htk]
      rw [e]
      obtain ⟨i1, i2, i3, i4⟩ := ih c hcs
      have j3 := i3 hc0
      refine ⟨?_, fun _ _ => j3.1, fun hp => ⟨j3.1, ?_⟩, fun _ x hx => ?_⟩
      · rcases i1 with h | h
        · rw [h]; right; exact List.mem_cons_self
        · right; exact List.mem_cons_of_mem _ h
      · have : wAt l p.t < wAt l c.t := by
          rw [takes_eq] at htk
          have hn : (p.t == -1) = false := by simp; omega
          simpa [hn] using htk
        omega
      · rcases List.mem_cons.1 hx with rfl | hx
        · exact j3.2
        · exact i4 (.inr hc0) x hx
    | false =>
      have e : bestStep fr l p c = p := by simp [bestStep, htk]
      rw [e]
      obtain ⟨i1, i2, i3, i4⟩ := ih p hcs
      have hnr : p ≠ ⟨-1, fr, fr⟩ := by rintro rfl; simp [takes] at htk
      have hle : wAt l c.t ≤ wAt l p.t := by
        rw [takes_eq] at htk
        have := (Bool.or_eq_false_iff.1 htk).2
        simpa using this
      refine ⟨?_, fun hp _ => ?_, i3, fun hp x hx => ?_⟩
      · rcases i1 with h | h
        · left; exact h
        · right; exact List.mem_cons_of_mem _ h
      · rcases hp with h | h
        · exact absurd h hnr
        · exact (i3 h).1
      · rcases hp with h | h
        · exact absurd h hnr
        · rcases List.mem_cons.1 hx with rfl | hx
          · exact Int.le_trans hle (i3 h).2
          · exact i4 (.inr h) x hx

/-- The best one is one of the choices. -/
theorem best_mem (fr to wd st off low : Int) (l : List Ti) : bestOf fr l (chFrom fr to wd st off low l 0) ∈ choices fr to wd st off low l := by
  have h0 : ∀ c ∈ chFrom fr to wd st off low l 0, 0 ≤ c.t := fun c hc => by
    obtain ⟨k, t, rfl, _⟩ := chFrom_mem _ _ _ _ _ _ _ _ _ hc
    exact Int.natCast_nonneg _
  have := (best_facts fr l (chFrom fr to wd st off low l 0) ⟨-1, fr, fr⟩ h0).1
  unfold bestOf choices
  rcases this with h | h
  · rw [h]; exact List.mem_cons_self
  · exact List.mem_cons_of_mem _ h

structure EdgeOk (fr to low : Int) (l : List Ti) (c bp : Pt) (k bi : Nat) (t bt : Ti) : Prop where
  ct : c = ⟨k, c.v, c.s⟩
  at_ : l[k]? = some t
  made : t.m = true
  a1 : fr ≤ c.v
  a2 : low ≤ c.v
  b1 : c.s ≤ to
  b2 : c.s ≤ t.u
  ab : c.v < c.s
  ma : (c.v - t.o).tmod t.w = 0
  mb : (c.s - t.o).tmod t.w = 0
  na : c.v - t.w < max fr low
  nb : min to t.u < c.s + t.w
  bpt : bp = ⟨bi, bp.v, bp.s⟩
  bat : l[bi]? = some bt
  bw : t.w ≤ bt.w

theorem tmod_zero_of {a b : Int} (h : a % b = 0) : a.tmod b = 0 := Int.tmod_eq_zero_of_dvd (Int.dvd_of_emod_eq_zero h)

theorem edge_ok (fr to wd st off low : Int) (l : List Ti) (hfine : ∀ t ∈ l, TiFine t) (c : Pt) (hc : c ∈ chFrom fr to wd st off low l 0) :
    ∃ k bi t bt, EdgeOk fr to low l c (bestOf fr l (chFrom fr to wd st off low l 0)) k bi t bt := by
  have h0 : ∀ c ∈ chFrom fr to wd st off low l 0, 0 ≤ c.t := fun c hc => by
    obtain ⟨k, t, rfl, _⟩ := chFrom_mem _ _ _ _ _ _ _ _ _ hc
    exact Int.natCast_nonneg _
  obtain ⟨i1, i2, _, i4⟩ := best_facts fr l (chFrom fr to wd st off low l 0) ⟨-1, fr, fr⟩ h0
  have hb0 := i2 (.inl rfl) (List.ne_nil_of_mem hc)
  have hbw := i4 (.inl rfl) c hc
  have hbm : bestOf fr l (chFrom fr to wd st off low l 0) ∈ chFrom fr to wd st off low l 0 := by
    rcases i1 with h | h
    · rw [h] at hb0; simp at hb0
    · exact h
  change 0 ≤ (bestOf fr l (chFrom fr to wd st off low l 0)).t at hb0
  change wAt l c.t ≤ wAt l (bestOf fr l (chFrom fr to wd st off low l 0)).t at hbw
  generalize bestOf fr l (chFrom fr to wd st off low l 0) = bp at *
  obtain ⟨k, t, rfl, _, _, hk, hti, hab⟩ := chFrom_mem _ _ _ _ _ _ _ _ _ hc
  obtain ⟨bi, bt, rfl, _, _, hbi, _, _⟩ := chFrom_mem _ _ _ _ _ _ _ _ _ hbm
  rw [Nat.sub_zero] at hk hbi
  obtain ⟨f1, f2, f3, f4, f5, f6⟩ := hfine t (List.mem_of_getElem? hk)
  refine ⟨k, bi, t, bt, ?_⟩
  have hw : t.w ≤ bt.w := by simpa [wAt, hk, hbi] using hbw
  have hm : t.m = true := by simp [tierIn] at hti; exact hti.1
  have r1 := Int.emod_nonneg (t.o - max fr low) (show t.w ≠ 0 by omega)
  have r2 := Int.emod_lt_of_pos (t.o - max fr low) (show 0 < t.w by omega)
  have s1 := Int.emod_nonneg (min to t.u - t.o) (show t.w ≠ 0 by omega)
  have s2 := Int.emod_lt_of_pos (min to t.u - t.o) (show 0 < t.w by omega)
  refine ⟨rfl, hk, hm, ?_, ?_, ?_, ?_, hab, ?_, ?_, ?_, ?_, rfl, hbi, hw⟩
  · simp only [spanA]; omega
  · simp only [spanA]; omega
  · simp only [spanB]; omega
  · simp only [spanB]; omega
  · apply tmod_zero_of
    simp only [spanA]
    have hd := Int.emod_def (t.o - max fr low) t.w
    rw [show max fr low + (t.o - max fr low) % t.w - t.o = t.w * (-((t.o - max fr low) / t.w)) by rw [Int.mul_neg]; omega]
    exact Int.mul_emod_right _ _
  · apply tmod_zero_of
    simp only [spanB]
    have hd := Int.emod_def (min to t.u - t.o) t.w
    rw [show min to t.u - (min to t.u - t.o) % t.w - t.o = t.w * ((min to t.u - t.o) / t.w) by omega]
    exact Int.mul_emod_right _ _
  · simp only [spanA]; omega
  · simp only [spanB]; omega

end Go.Proofs.YtokllgdbmnmieaaGreat

/-! PlanEdges: the walk. -/

namespace Go.Proofs.YtokllgdbmnmieaaGreat
open Go.RowKit Go.Sort Go.Lib

theorem planCheck_bounds {op fn : Int} {ser oth : ByteArray} {fr to wd st off gap tol fill : Int} (h : planCheckB op fn ser oth fr to wd st off gap tol fill = true) :
    (-1152921504606846976 ≤ fr ∧ fr ≤ 1152921504606846976) ∧ (-1152921504606846976 ≤ to ∧ to ≤ 1152921504606846976) := by
  unfold planCheckB checkB withinB at h
  simp only [Bool.and_eq_true, decide_eq_true_eq] at h
  omega

theorem fineB_le {n : Nat} {l : List Ti} (h : fineB n l = true) : n ≤ 4 ∧ ∀ t ∈ l, TiFine t := by
  unfold fineB at h
  simp only [Bool.and_eq_true, decide_eq_true_eq, List.all_eq_true] at h
  exact ⟨h.1, fun t ht => tierOk_fine (h.2 t ht)⟩

theorem allErr_bad {op fn : Int} {ser oth : ByteArray} {fr to wd st off gap tol fill low : Int} (h : planCheckB op fn ser oth fr to wd st off gap tol fill = false) : allErr op fn ser oth fr to wd st off gap tol fill low = 23 := by
  unfold allErr; rw [if_pos h]

end Go.Proofs.YtokllgdbmnmieaaGreat

/-! PlanEdges: the walk, where there are choices. -/

namespace Go.Proofs.YtokllgdbmnmieaaGreat
open Go.RowKit Go.Sort Go.Lib

theorem in_next (bp x : Pt) (cs : List Pt) (j : Nat) (h : cs[j]? = some x) (hn : decide (bp ∈ cs.take j) = false) : (x.t == bp.t && (x.v == bp.v && x.s == bp.s)) = decide (bp ∈ cs.take (j + 1)) := by
  rw [take_snoc5 h]
  simp only [decide_eq_false_iff_not] at hn
  obtain ⟨xt, xv, xs⟩ := x
  obtain ⟨bt, bv, bs⟩ := bp
  simp [hn, Pt.mk.injEq]
  rw [Bool.eq_iff_iff]
  simp
  constructor
  · rintro ⟨rfl, rfl, rfl⟩; exact ⟨rfl, rfl, rfl⟩
  · rintro ⟨rfl, rfl, rfl⟩; exact ⟨rfl, rfl, rfl⟩
theorem in_stays (bp x : Pt) (cs : List Pt) (j : Nat) (h : cs[j]? = some x) (hn : decide (bp ∈ cs.take j) = true) : decide (bp ∈ cs.take (j + 1)) = true := by
  rw [take_snoc5 h]
  simp only [decide_eq_true_eq] at hn ⊢
  exact List.mem_append_left _ hn

end Go.Proofs.YtokllgdbmnmieaaGreat
