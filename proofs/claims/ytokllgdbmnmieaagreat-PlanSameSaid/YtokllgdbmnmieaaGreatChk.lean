/- Contracts of package query's checks: within, kindOf, fits, bare, Check; and window.Valid. -/
import Derived.Test.YtokllgdbmnmieaaGreatSer
import Derived.Test.YtokllgdbmnmieaaGreatWin
import Derived.Test.YtokllgdbmnmieaaGreatGpp
import Derived.Below
import Derived.Lib.QuietBelow
import Derived.BigQuiet
import Derived.Laws.StructEq
namespace Go.Proofs.YtokllgdbmnmieaaGreat
open Go.RowKit Go.Lib Go.Sort

def withinB (n a b : Int) : Bool := decide (a ≤ n) && decide (n ≤ b)

set_option maxHeartbeats 1000000 in
theorem within_any (n a b : Int) (w : World) :
    Calls Tryz.prog 64 #[.int .i64 n, .int .i64 a, .int .i64 b] w fun e w' => e = .returned (.bool (withinB n a b)) ∧ w = w' := by
  by_cases h1 : a ≤ n <;> by_cases h2 : n ≤ b
  all_goals
    have Hf : Hid (withinB n a b = (decide (a ≤ n) && decide (n ≤ b))) := rfl
    go_enter Tryz.func64, Tryz.ntmps64
    go_wp2
    go_ret
    exact ⟨by rw [Hf.out]; simp [*], rfl⟩

set_option maxHeartbeats 1000000 in
theorem kindOf_any (op fn : Int) (ser oth : ByteArray) (fr to wd st off gap tol fill : Int) (w : World) :
    Calls Tryz.prog 103 #[.agg #[.int .i64 op, .int .i64 fn, .string ser, .string oth, .int .i64 fr, .int .i64 to, .int .i64 wd, .int .i64 st, .int .i64 off, .int .i64 gap, .int .i64 tol, .int .i64 fill]] w fun e w' =>
      e = .returned (.agg #[.int .i64 wd, .int .i64 st, .int .i64 off]) ∧ Ext w w' := by
  go_enter Tryz.func103, Tryz.ntmps103
  go_wp2
  exact bodyPost_ret (v := .agg #[.int .i64 wd, .int .i64 st, .int .i64 off]) (by simp [results, Tryz.results103, go_sem]) rfl ⟨rfl, ((Ext.refl _).alloc _).alloc _⟩

/-- A query's twelve fields, as a value. -/
abbrev qV (op fn : Int) (ser oth : ByteArray) (fr to wd st off gap tol fill : Int) : Value :=
  .agg #[.int .i64 op, .int .i64 fn, .string ser, .string oth, .int .i64 fr, .int .i64 to, .int .i64 wd, .int .i64 st, .int .i64 off, .int .i64 gap, .int .i64 tol, .int .i64 fill]

def fitsB (op fn : Int) (oth : ByteArray) (wd st off gap tol fill : Int) : Bool :=
  if op = 1 then withinB fill 0 3 && windowB wd st off && (fill != 3 || fn != 0) && withinB fn 0 6
  else if op = 2 then withinB fn 0 6 && withinB gap 1 1152921504606846976
  else if op = 3 then validL oth.data.toList && withinB tol 0 1152921504606846976
  else op == 0

set_option maxHeartbeats 4000000 in
theorem fits_any (op fn : Int) (ser oth : ByteArray) (fr to wd st off gap tol fill : Int) (ho : oth.size ≤ maxLen) (w : World) :
    Calls Tryz.prog 62 #[qV op fn ser oth fr to wd st off gap tol fill] w fun e w' => e = .returned (.bool (fitsB op fn oth wd st off gap tol fill)) ∧ Ext w w' := by
  unfold qV
  by_cases h1 : op = 1
  · subst h1
    have Hf : Hid (fitsB 1 fn oth wd st off gap tol fill = (withinB fill 0 3 && windowB wd st off && (fill != 3 || fn != 0) && withinB fn 0 6)) := rfl
    go_enter Tryz.func62, Tryz.ntmps62
    go_wp2_with (first
      | (go_at_call 64; refine (within_any _ _ _ _).mono ?_; rintro e w' ⟨rfl, rfl⟩)
      | (go_at_call 103; refine (kindOf_any _ _ _ _ _ _ _ _ _ _ _ _ _).mono ?_; rintro e w1 ⟨rfl, hb1⟩; have hc1 := hb1.cells; have hz1 : w.heap.size < w1.heap.size := by (have := hb1.size; simp at this; omega))
      | (go_at_call 29; refine (windowValid_any _ _ _ _).mono ?_; rintro e w2 ⟨rfl, hb2⟩; have hc2 := hb2.cells))
    all_goals
      go_ret
      refine ⟨by rw [Hf.out]; first | (simp [*]; done) | (simp [*]; rfl), ?_⟩
      repeat (first | exact Ext.refl _ | refine Ext.alloc ?_ _ | refine Ext.trans ?_ (by assumption))
  · by_cases h2 : op = 2
    · subst h2
      have Hf : Hid (fitsB 2 fn oth wd st off gap tol fill = (withinB fn 0 6 && withinB gap 1 1152921504606846976)) := rfl
      go_enter Tryz.func62, Tryz.ntmps62
      go_wp2_with (first
        | (go_at_call 64; refine (within_any _ _ _ _).mono ?_; rintro e w' ⟨rfl, rfl⟩))
      all_goals
        go_ret
        refine ⟨by rw [Hf.out]; simp [*], ?_⟩
        repeat (first | exact Ext.refl _ | refine Ext.alloc ?_ _ | refine Ext.trans ?_ (by assumption))
    · by_cases h3 : op = 3
      · subst h3
        have Hf : Hid (fitsB 3 fn oth wd st off gap tol fill = (validL oth.data.toList && withinB tol 0 1152921504606846976)) := rfl
        go_enter Tryz.func62, Tryz.ntmps62
        go_wp2_with (first
          | (go_at_call 63; refine (valid_any _ _ ho).mono ?_; rintro e w' ⟨rfl, rfl⟩)
          | (go_at_call 64; refine (within_any _ _ _ _).mono ?_; rintro e w' ⟨rfl, rfl⟩))
        all_goals
          go_ret
          refine ⟨by rw [Hf.out]; simp [*], ?_⟩
          repeat (first | exact Ext.refl _ | refine Ext.alloc ?_ _ | refine Ext.trans ?_ (by assumption))
      · have Hf : Hid (fitsB op fn oth wd st off gap tol fill = (op == 0)) := by
          show _ = _
          simp [fitsB, h1, h2, h3]
        have g1 : (op == 1) = false := by simp [h1]
        have g2 : (op == 2) = false := by simp [h2]
        have g3 : (op == 3) = false := by simp [h3]
        go_enter Tryz.func62, Tryz.ntmps62
        go_wp2_with fail
        all_goals
          go_ret
          refine ⟨by rw [Hf.out]; rfl, ?_⟩
          repeat (first | exact Ext.refl _ | refine Ext.alloc ?_ _ | refine Ext.trans ?_ (by assumption))

/-- What 'bare' leaves of a query. -/
def bareV (op fn : Int) (ser oth : ByteArray) (fr to wd st off gap tol fill : Int) : Value :=
  qV op (if op = 1 ∨ op = 2 then fn else 0) ser (if op = 3 then oth else ⟨#[]⟩) fr to (if op = 1 then wd else 0) (if op = 1 then st else 0) (if op = 1 then off else 0) (if op = 2 then gap else 0) (if op = 3 then tol else 0) (if op = 1 then fill else 0)

set_option maxHeartbeats 4000000 in
theorem bare_any (op fn : Int) (ser oth : ByteArray) (fr to wd st off gap tol fill : Int) (w : World) :
    Calls Tryz.prog 65 #[qV op fn ser oth fr to wd st off gap tol fill] w fun e w' => e = .returned (bareV op fn ser oth fr to wd st off gap tol fill) ∧ Ext w w' := by
  unfold qV
  by_cases h1 : op = 1
  · subst h1
    go_enter Tryz.func65, Tryz.ntmps65
    go_wp2
    refine bodyPost_ret (v := qV 1 fn ser ⟨#[]⟩ fr to wd st off 0 0 fill) (by simp [results, Tryz.results65, go_sem]) rfl ⟨rfl, ?_⟩
    repeat (first | exact Ext.refl _ | refine Ext.alloc ?_ _)
  · by_cases h2 : op = 2
    · subst h2
      go_enter Tryz.func65, Tryz.ntmps65
      go_wp2
      refine bodyPost_ret (v := qV 2 fn ser ⟨#[]⟩ fr to 0 0 0 gap 0 0) (by simp [results, Tryz.results65, go_sem]) rfl ⟨rfl, ?_⟩
      repeat (first | exact Ext.refl _ | refine Ext.alloc ?_ _)
    · by_cases h3 : op = 3
      · subst h3
        go_enter Tryz.func65, Tryz.ntmps65
        go_wp2
        refine bodyPost_ret (v := qV 3 0 ser oth fr to 0 0 0 0 tol 0) (by simp [results, Tryz.results65, go_sem]) rfl ⟨rfl, ?_⟩
        repeat (first | exact Ext.refl _ | refine Ext.alloc ?_ _)
      · have Hf : Hid (bareV op fn ser oth fr to wd st off gap tol fill = qV op 0 ser ⟨#[]⟩ fr to 0 0 0 0 0 0) := by
          show _ = _
          simp [bareV, h1, h2, h3]
        have g1 : (op != 1) = true := by simp [h1]
        have g2 : (op != 2) = true := by simp [h2]
        have g3 : (op != 3) = true := by simp [h3]
        go_enter Tryz.func65, Tryz.ntmps65
        go_wp2
        refine bodyPost_ret (v := qV op 0 ser ⟨#[]⟩ fr to 0 0 0 0 0 0) (by simp [results, Tryz.results65, go_sem]) rfl ⟨by rw [Hf.out], ?_⟩
        repeat (first | exact Ext.refl _ | refine Ext.alloc ?_ _)


end Go.Proofs.YtokllgdbmnmieaaGreat

/-! The contract of query.Check. -/

namespace Go.Proofs.YtokllgdbmnmieaaGreat
open Go.RowKit Go.Lib Go.Sort

/-- A query has nothing that its operation has not. -/
def bareB (op fn : Int) (oth : ByteArray) (wd st off gap tol fill : Int) : Bool :=
  (op == 1 || (wd == 0 && st == 0 && off == 0 && fill == 0)) && (op == 2 || gap == 0) && (op == 3 || (oth.size == 0 && tol == 0)) && (op == 1 || op == 2 || fn == 0)

def checkB (op fn : Int) (ser oth : ByteArray) (fr to wd st off gap tol fill : Int) : Bool :=
  fitsB op fn oth wd st off gap tol fill && validL ser.data.toList && withinB fr (-1152921504606846976) 1152921504606846976 && withinB to fr 1152921504606846976 && bareB op fn oth wd st off gap tol fill

set_option maxHeartbeats 1000000 in
theorem neq_q (op fn : Int) (ser oth : ByteArray) (fr to wd st off gap tol fill : Int) (fn' : Int) (oth' : ByteArray) (wd' st' off' gap' tol' fill' : Int) (W : World) :
  (binOp .neq 23 (qV op fn ser oth fr to wd st off gap tol fill) (qV op fn' ser oth' fr to wd' st' off' gap' tol' fill')).run Tryz.prog W =
    .ok (.bool (!(fn == fn' && (oth.toList == oth'.toList && (wd == wd' && (st == st' && (off == off' && (gap == gap' && (tol == tol' && fill == fill'))))))))) W := by
  have hp : Tryz.prog.stoodInHeld 23 = false := by kernel_rfl
  have hu := Tryz.underlying23
  unfold qV
  simp [go_sem, hp, hu]
  repeat' split
  all_goals simp_all

set_option maxHeartbeats 4000000 in
set_option maxRecDepth 100000 in
theorem check_core (b1 b2 b3 b4 : Bool) (op fn : Int) (ser oth : ByteArray) (fr to wd st off gap tol fill : Int) (fn' : Int) (oth' : ByteArray) (wd' st' off' gap' tol' fill' : Int) (w : World)
    (HF : Hid (∀ (d : Nat) (os : Array Obj) (w : World), Calls Tryz.prog 62 #[qV op fn ser oth fr to wd st off gap tol fill] (grow (redrawn w d) os) fun e w'' => e = .returned (.bool b1) ∧ ∃ p : Regrown, w'' = grow (redrawn w p.d) p.os))
    (HV : Hid (∀ (d : Nat) (os : Array Obj) (w : World), Calls Tryz.prog 63 #[.string ser] (grow (redrawn w d) os) fun e w'' => e = .returned (.bool b2) ∧ ∃ p : Regrown, w'' = grow (redrawn w p.d) p.os))
    (HW1 : Hid (∀ (d : Nat) (os : Array Obj) (w : World), Calls Tryz.prog 64 #[.int .i64 fr, .int .i64 (-1152921504606846976), .int .i64 1152921504606846976] (grow (redrawn w d) os) fun e w'' => e = .returned (.bool b3) ∧ ∃ p : Regrown, w'' = grow (redrawn w p.d) p.os))
    (HW2 : Hid (∀ (d : Nat) (os : Array Obj) (w : World), Calls Tryz.prog 64 #[.int .i64 to, .int .i64 fr, .int .i64 1152921504606846976] (grow (redrawn w d) os) fun e w'' => e = .returned (.bool b4) ∧ ∃ p : Regrown, w'' = grow (redrawn w p.d) p.os))
    (HB : Hid (∀ (d : Nat) (os : Array Obj) (w : World), Calls Tryz.prog 65 #[qV op fn ser oth fr to wd st off gap tol fill] (grow (redrawn w d) os) fun e w'' => e = .returned (qV op fn' ser oth' fr to wd' st' off' gap' tol' fill') ∧ ∃ p : Regrown, w'' = grow (redrawn w p.d) p.os)) :
    Calls Tryz.prog 36 #[qV op fn ser oth fr to wd st off gap tol fill] w fun e w' => e = .returned (.int .i64 (if b1 && b2 && b3 && b4 && (fn == fn' && (oth.toList == oth'.toList && (wd == wd' && (st == st' && (off == off' && (gap == gap' && (tol == tol' && fill == fill'))))))) then 0 else 23)) ∧ Ext w w' := by
  by_cases hb : (b1 && b2 && b3 && b4) = true
  · simp only [Bool.and_eq_true] at hb
    obtain ⟨⟨⟨rfl, rfl⟩, rfl⟩, rfl⟩ := hb
    have hne := neq_q op fn ser oth fr to wd st off gap tol fill fn' oth' wd' st' off' gap' tol' fill'
    have hg : Tryz.prog.eqGuardType Tryz.prog.depth 23 = false := by kernel_rfl
    simp only [Bool.true_and]
    generalize (fn == fn' && (oth.toList == oth'.toList && (wd == wd' && (st == st' && (off == off' && (gap == gap' && (tol == tol' && fill == fill'))))))) = b5 at *
    go_enter Tryz.func36, Tryz.ntmps36
    go_wp2_with fail
    generalize hw1 : w.alloc _ = w1
    have k0 := cell_regrown (show w1.cell? ⟨w.heap.size, 0, none⟩ = some (.int .i64 op) by subst hw1; simp [go_sem])
    have k1 := cell_regrown (show w1.cell? ⟨w.heap.size, 1, none⟩ = some (.int .i64 fn) by subst hw1; simp [go_sem])
    have k2 := cell_regrown (show w1.cell? ⟨w.heap.size, 2, none⟩ = some (.string ser) by subst hw1; simp [go_sem])
    have k3 := cell_regrown (show w1.cell? ⟨w.heap.size, 3, none⟩ = some (.string oth) by subst hw1; simp [go_sem])
    have k4 := cell_regrown (show w1.cell? ⟨w.heap.size, 4, none⟩ = some (.int .i64 fr) by subst hw1; simp [go_sem])
    have k5 := cell_regrown (show w1.cell? ⟨w.heap.size, 5, none⟩ = some (.int .i64 to) by subst hw1; simp [go_sem])
    have k6 := cell_regrown (show w1.cell? ⟨w.heap.size, 6, none⟩ = some (.int .i64 wd) by subst hw1; simp [go_sem])
    have k7 := cell_regrown (show w1.cell? ⟨w.heap.size, 7, none⟩ = some (.int .i64 st) by subst hw1; simp [go_sem])
    have k8 := cell_regrown (show w1.cell? ⟨w.heap.size, 8, none⟩ = some (.int .i64 off) by subst hw1; simp [go_sem])
    have k9 := cell_regrown (show w1.cell? ⟨w.heap.size, 9, none⟩ = some (.int .i64 gap) by subst hw1; simp [go_sem])
    have k10 := cell_regrown (show w1.cell? ⟨w.heap.size, 10, none⟩ = some (.int .i64 tol) by subst hw1; simp [go_sem])
    have k11 := cell_regrown (show w1.cell? ⟨w.heap.size, 11, none⟩ = some (.int .i64 fill) by subst hw1; simp [go_sem])
    have Hw1 : Ext w w1 := by subst hw1; exact (Ext.refl _).alloc _
    clear hw1
    refine wp_region_quiet_below (by kernel_rfl) (by kernel_rfl) ?_
    repeat (go_big_quiet_step (first
      | (go_at_call 62; exact HF.out _ _ _)
      | (go_at_call 63; exact HV.out _ _ _)
      | (go_at_call 64; first | (with_reducible exact HW1.out _ _ _) | (with_reducible exact HW2.out _ _ _))
      | (go_at_call 65; exact HB.out _ _ _)))
    refine wpQuiet_nil ?_
    intro _ hw'
    obtain ⟨pr, rfl⟩ := hw'
    cases b5
    all_goals
      go_wp2
      go_ret
      exact ⟨rfl, Hw1.trans (Ext.regrown _ _ _)⟩
  · have hr : (if b1 && b2 && b3 && b4 && (fn == fn' && (oth.toList == oth'.toList && (wd == wd' && (st == st' && (off == off' && (gap == gap' && (tol == tol' && fill == fill'))))))) then (0 : Int) else 23) = 23 := by
      rw [Bool.not_eq_true] at hb
      rw [hb]; rfl
    rw [hr]
    clear hr
    cases b1
    · skip
      go_enter Tryz.func36, Tryz.ntmps36
      go_wp2_with fail
      generalize hw1 : w.alloc _ = w1
      have k0 := cell_regrown (show w1.cell? ⟨w.heap.size, 0, none⟩ = some (.int .i64 op) by subst hw1; simp [go_sem])
      have k1 := cell_regrown (show w1.cell? ⟨w.heap.size, 1, none⟩ = some (.int .i64 fn) by subst hw1; simp [go_sem])
      have k2 := cell_regrown (show w1.cell? ⟨w.heap.size, 2, none⟩ = some (.string ser) by subst hw1; simp [go_sem])
      have k3 := cell_regrown (show w1.cell? ⟨w.heap.size, 3, none⟩ = some (.string oth) by subst hw1; simp [go_sem])
      have k4 := cell_regrown (show w1.cell? ⟨w.heap.size, 4, none⟩ = some (.int .i64 fr) by subst hw1; simp [go_sem])
      have k5 := cell_regrown (show w1.cell? ⟨w.heap.size, 5, none⟩ = some (.int .i64 to) by subst hw1; simp [go_sem])
      have k6 := cell_regrown (show w1.cell? ⟨w.heap.size, 6, none⟩ = some (.int .i64 wd) by subst hw1; simp [go_sem])
      have k7 := cell_regrown (show w1.cell? ⟨w.heap.size, 7, none⟩ = some (.int .i64 st) by subst hw1; simp [go_sem])
      have k8 := cell_regrown (show w1.cell? ⟨w.heap.size, 8, none⟩ = some (.int .i64 off) by subst hw1; simp [go_sem])
      have k9 := cell_regrown (show w1.cell? ⟨w.heap.size, 9, none⟩ = some (.int .i64 gap) by subst hw1; simp [go_sem])
      have k10 := cell_regrown (show w1.cell? ⟨w.heap.size, 10, none⟩ = some (.int .i64 tol) by subst hw1; simp [go_sem])
      have k11 := cell_regrown (show w1.cell? ⟨w.heap.size, 11, none⟩ = some (.int .i64 fill) by subst hw1; simp [go_sem])
      have Hw1 : Ext w w1 := by subst hw1; exact (Ext.refl _).alloc _
      clear hw1
      refine wp_region_quiet_below (by kernel_rfl) (by kernel_rfl) ?_
      repeat (go_big_quiet_step (first
        | (go_at_call 62; exact HF.out _ _ _)
        | (go_at_call 63; exact HV.out _ _ _)
        | (go_at_call 64; first | (with_reducible exact HW1.out _ _ _) | (with_reducible exact HW2.out _ _ _))
        | (go_at_call 65; exact HB.out _ _ _)))
      refine wpQuiet_nil ?_
      intro _ hw'
      obtain ⟨pr, rfl⟩ := hw'
      go_wp2
      go_ret
      exact ⟨rfl, Hw1.trans (Ext.regrown _ _ _)⟩
    cases b2
    · skip
      go_enter Tryz.func36, Tryz.ntmps36
      go_wp2_with fail
      generalize hw1 : w.alloc _ = w1
      have k0 := cell_regrown (show w1.cell? ⟨w.heap.size, 0, none⟩ = some (.int .i64 op) by subst hw1; simp [go_sem])
      have k1 := cell_regrown (show w1.cell? ⟨w.heap.size, 1, none⟩ = some (.int .i64 fn) by subst hw1; simp [go_sem])
      have k2 := cell_regrown (show w1.cell? ⟨w.heap.size, 2, none⟩ = some (.string ser) by subst hw1; simp [go_sem])
      have k3 := cell_regrown (show w1.cell? ⟨w.heap.size, 3, none⟩ = some (.string oth) by subst hw1; simp [go_sem])
      have k4 := cell_regrown (show w1.cell? ⟨w.heap.size, 4, none⟩ = some (.int .i64 fr) by subst hw1; simp [go_sem])
      have k5 := cell_regrown (show w1.cell? ⟨w.heap.size, 5, none⟩ = some (.int .i64 to) by subst hw1; simp [go_sem])
      have k6 := cell_regrown (show w1.cell? ⟨w.heap.size, 6, none⟩ = some (.int .i64 wd) by subst hw1; simp [go_sem])
      have k7 := cell_regrown (show w1.cell? ⟨w.heap.size, 7, none⟩ = some (.int .i64 st) by subst hw1; simp [go_sem])
      have k8 := cell_regrown (show w1.cell? ⟨w.heap.size, 8, none⟩ = some (.int .i64 off) by subst hw1; simp [go_sem])
      have k9 := cell_regrown (show w1.cell? ⟨w.heap.size, 9, none⟩ = some (.int .i64 gap) by subst hw1; simp [go_sem])
      have k10 := cell_regrown (show w1.cell? ⟨w.heap.size, 10, none⟩ = some (.int .i64 tol) by subst hw1; simp [go_sem])
      have k11 := cell_regrown (show w1.cell? ⟨w.heap.size, 11, none⟩ = some (.int .i64 fill) by subst hw1; simp [go_sem])
      have Hw1 : Ext w w1 := by subst hw1; exact (Ext.refl _).alloc _
      clear hw1
      refine wp_region_quiet_below (by kernel_rfl) (by kernel_rfl) ?_
      repeat (go_big_quiet_step (first
        | (go_at_call 62; exact HF.out _ _ _)
        | (go_at_call 63; exact HV.out _ _ _)
        | (go_at_call 64; first | (with_reducible exact HW1.out _ _ _) | (with_reducible exact HW2.out _ _ _))
        | (go_at_call 65; exact HB.out _ _ _)))
      refine wpQuiet_nil ?_
      intro _ hw'
      obtain ⟨pr, rfl⟩ := hw'
      go_wp2
      go_ret
      exact ⟨rfl, Hw1.trans (Ext.regrown _ _ _)⟩
    cases b3
    · skip
      go_enter Tryz.func36, Tryz.ntmps36
      go_wp2_with fail
      generalize hw1 : w.alloc _ = w1
      have k0 := cell_regrown (show w1.cell? ⟨w.heap.size, 0, none⟩ = some (.int .i64 op) by subst hw1; simp [go_sem])
      have k1 := cell_regrown (show w1.cell? ⟨w.heap.size, 1, none⟩ = some (.int .i64 fn) by subst hw1; simp [go_sem])
      have k2 := cell_regrown (show w1.cell? ⟨w.heap.size, 2, none⟩ = some (.string ser) by subst hw1; simp [go_sem])
      have k3 := cell_regrown (show w1.cell? ⟨w.heap.size, 3, none⟩ = some (.string oth) by subst hw1; simp [go_sem])
      have k4 := cell_regrown (show w1.cell? ⟨w.heap.size, 4, none⟩ = some (.int .i64 fr) by subst hw1; simp [go_sem])
      have k5 := cell_regrown (show w1.cell? ⟨w.heap.size, 5, none⟩ = some (.int .i64 to) by subst hw1; simp [go_sem])
      have k6 := cell_regrown (show w1.cell? ⟨w.heap.size, 6, none⟩ = some (.int .i64 wd) by subst hw1; simp [go_sem])
      have k7 := cell_regrown (show w1.cell? ⟨w.heap.size, 7, none⟩ = some (.int .i64 st) by subst hw1; simp [go_sem])
      have k8 := cell_regrown (show w1.cell? ⟨w.heap.size, 8, none⟩ = some (.int .i64 off) by subst hw1; simp [go_sem])
      have k9 := cell_regrown (show w1.cell? ⟨w.heap.size, 9, none⟩ = some (.int .i64 gap) by subst hw1; simp [go_sem])
      have k10 := cell_regrown (show w1.cell? ⟨w.heap.size, 10, none⟩ = some (.int .i64 tol) by subst hw1; simp [go_sem])
      have k11 := cell_regrown (show w1.cell? ⟨w.heap.size, 11, none⟩ = some (.int .i64 fill) by subst hw1; simp [go_sem])
      have Hw1 : Ext w w1 := by subst hw1; exact (Ext.refl _).alloc _
      clear hw1
      refine wp_region_quiet_below (by kernel_rfl) (by kernel_rfl) ?_
      repeat (go_big_quiet_step (first
        | (go_at_call 62; exact HF.out _ _ _)
        | (go_at_call 63; exact HV.out _ _ _)
        | (go_at_call 64; first | (with_reducible exact HW1.out _ _ _) | (with_reducible exact HW2.out _ _ _))
        | (go_at_call 65; exact HB.out _ _ _)))
      refine wpQuiet_nil ?_
      intro _ hw'
      obtain ⟨pr, rfl⟩ := hw'
      go_wp2
      go_ret
      exact ⟨rfl, Hw1.trans (Ext.regrown _ _ _)⟩
    cases b4
    · skip
      go_enter Tryz.func36, Tryz.ntmps36
      go_wp2_with fail
      generalize hw1 : w.alloc _ = w1
      have k0 := cell_regrown (show w1.cell? ⟨w.heap.size, 0, none⟩ = some (.int .i64 op) by subst hw1; simp [go_sem])
      have k1 := cell_regrown (show w1.cell? ⟨w.heap.size, 1, none⟩ = some (.int .i64 fn) by subst hw1; simp [go_sem])
      have k2 := cell_regrown (show w1.cell? ⟨w.heap.size, 2, none⟩ = some (.string ser) by subst hw1; simp [go_sem])
      have k3 := cell_regrown (show w1.cell? ⟨w.heap.size, 3, none⟩ = some (.string oth) by subst hw1; simp [go_sem])
      have k4 := cell_regrown (show w1.cell? ⟨w.heap.size, 4, none⟩ = some (.int .i64 fr) by subst hw1; simp [go_sem])
      have k5 := cell_regrown (show w1.cell? ⟨w.heap.size, 5, none⟩ = some (.int .i64 to) by subst hw1; simp [go_sem])
      have k6 := cell_regrown (show w1.cell? ⟨w.heap.size, 6, none⟩ = some (.int .i64 wd) by subst hw1; simp [go_sem])
      have k7 := cell_regrown (show w1.cell? ⟨w.heap.size, 7, none⟩ = some (.int .i64 st) by subst hw1; simp [go_sem])
      have k8 := cell_regrown (show w1.cell? ⟨w.heap.size, 8, none⟩ = some (.int .i64 off) by subst hw1; simp [go_sem])
      have k9 := cell_regrown (show w1.cell? ⟨w.heap.size, 9, none⟩ = some (.int .i64 gap) by subst hw1; simp [go_sem])
      have k10 := cell_regrown (show w1.cell? ⟨w.heap.size, 10, none⟩ = some (.int .i64 tol) by subst hw1; simp [go_sem])
      have k11 := cell_regrown (show w1.cell? ⟨w.heap.size, 11, none⟩ = some (.int .i64 fill) by subst hw1; simp [go_sem])
      have Hw1 : Ext w w1 := by subst hw1; exact (Ext.refl _).alloc _
      clear hw1
      refine wp_region_quiet_below (by kernel_rfl) (by kernel_rfl) ?_
      repeat (go_big_quiet_step (first
        | (go_at_call 62; exact HF.out _ _ _)
        | (go_at_call 63; exact HV.out _ _ _)
        | (go_at_call 64; first | (with_reducible exact HW1.out _ _ _) | (with_reducible exact HW2.out _ _ _))
        | (go_at_call 65; exact HB.out _ _ _)))
      refine wpQuiet_nil ?_
      intro _ hw'
      obtain ⟨pr, rfl⟩ := hw'
      go_wp2
      go_ret
      exact ⟨rfl, Hw1.trans (Ext.regrown _ _ _)⟩
    exact (hb rfl).elim

theorem bare_eq (op fn : Int) (oth : ByteArray) (wd st off gap tol fill : Int) :
    (fn == (if op = 1 ∨ op = 2 then fn else 0) && (oth.toList == (if op = 3 then oth else ⟨#[]⟩ : ByteArray).toList && (wd == (if op = 1 then wd else 0) && (st == (if op = 1 then st else 0) && (off == (if op = 1 then off else 0) && (gap == (if op = 2 then gap else 0) && (tol == (if op = 3 then tol else 0) && fill == (if op = 1 then fill else 0)))))))) = bareB op fn oth wd st off gap tol fill := by
  unfold bareB
  by_cases h1 : op = 1
  · subst h1; simp [toList_nil, Bool.and_assoc, Bool.and_comm, Bool.and_left_comm]
  · by_cases h2 : op = 2
    · subst h2; simp [toList_nil, Bool.and_assoc, Bool.and_comm, Bool.and_left_comm]
    · by_cases h3 : op = 3
      · subst h3; simp [Bool.and_assoc, Bool.and_comm, Bool.and_left_comm]
      · have g1 : (op == 1) = false := by simp [h1]
        have g2 : (op == 2) = false := by simp [h2]
        have g3 : (op == 3) = false := by simp [h3]
        simp [h1, h2, h3, g1, g2, g3, toList_nil, Bool.and_assoc, Bool.and_comm, Bool.and_left_comm]

theorem check_any (op fn : Int) (ser oth : ByteArray) (fr to wd st off gap tol fill : Int) (hs : ser.size ≤ maxLen) (ho : oth.size ≤ maxLen) (w : World) :
    Calls Tryz.prog 36 #[qV op fn ser oth fr to wd st off gap tol fill] w fun e w' => e = .returned (.int .i64 (if checkB op fn ser oth fr to wd st off gap tol fill then 0 else 23)) ∧ Ext w w' := by
  have h := check_core (fitsB op fn oth wd st off gap tol fill) (validL ser.data.toList) (withinB fr (-1152921504606846976) 1152921504606846976) (withinB to fr 1152921504606846976) op fn ser oth fr to wd st off gap tol fill _ _ _ _ _ _ _ _ w
    (fun d os w => Calls.grown_of (fits_any op fn ser oth fr to wd st off gap tol fill ho (grow (redrawn w d) os)))
    (fun d os w => Calls.grown_of_same (valid_any ser (grow (redrawn w d) os) hs))
    (fun d os w => Calls.grown_of_same (within_any _ _ _ (grow (redrawn w d) os)))
    (fun d os w => Calls.grown_of_same (within_any _ _ _ (grow (redrawn w d) os)))
    (fun d os w => Calls.grown_of (bare_any op fn ser oth fr to wd st off gap tol fill (grow (redrawn w d) os)))
  rw [bare_eq] at h
  exact h

/-- As it is asked where the answer is known. -/
theorem check_is (b : Bool) (op fn : Int) (ser oth : ByteArray) (fr to wd st off gap tol fill : Int) (hb : checkB op fn ser oth fr to wd st off gap tol fill = b) (hs : ser.size ≤ maxLen) (ho : oth.size ≤ maxLen) (w : World) :
    Calls Tryz.prog 36 #[qV op fn ser oth fr to wd st off gap tol fill] w fun e w' => e = .returned (.int .i64 (if b then 0 else 23)) ∧ Ext w w' := by
  subst hb
  exact check_any op fn ser oth fr to wd st off gap tol fill hs ho w

end Go.Proofs.YtokllgdbmnmieaaGreat
