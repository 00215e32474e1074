/- The contract of query.Check. -/
import Derived.Test.YtfndeocebpoeeaaDoorQry
import Derived.Laws.StructEq
namespace Go.Proofs.YtfndeocebpoeeaaDoor
open Go.RowKit Go.Lib Go.Sort

/-- A query has nothing that its operation has not. -/
def bareB (op fn : Int) (oth : ByteArray) (wd st off gap tol fill : Int) : Bool :=
  (op == 1 || (wd == 0 && st == 0 && off == 0 && fill == 0)) && (op == 2 || gap == 0) && (op == 3 || (oth.size == 0 && tol == 0)) && (op == 1 || op == 2 || fn == 0)

def checkB (op fn : Int) (ser oth : ByteArray) (fr to wd st off gap tol fill : Int) : Bool :=
  fitsB op fn oth wd st off gap tol fill && validL ser.data.toList && withinB fr (-1152921504606846976) 1152921504606846976 && withinB to fr 1152921504606846976 && bareB op fn oth wd st off gap tol fill

set_option maxHeartbeats 1000000 in
theorem neq_q (op fn : Int) (ser oth : ByteArray) (fr to wd st off gap tol fill : Int) (fn' : Int) (oth' : ByteArray) (wd' st' off' gap' tol' fill' : Int) (W : World) :
  (binOp .neq 23 (qV op fn ser oth fr to wd st off gap tol fill) (qV op fn' ser oth' fr to wd' st' off' gap' tol' fill')).run Tryd.prog W =
    .ok (.bool (!(fn == fn' && (oth.toList == oth'.toList && (wd == wd' && (st == st' && (off == off' && (gap == gap' && (tol == tol' && fill == fill'))))))))) W := by
  have hp : Tryd.prog.stoodInHeld 23 = false := by kernel_rfl
  have hu := Tryd.underlying23
  unfold qV
  simp [go_sem, hp, hu]
  repeat' split
  all_goals simp_all

set_option maxHeartbeats 4000000 in
set_option maxRecDepth 100000 in
theorem check_core (b1 b2 b3 b4 : Bool) (op fn : Int) (ser oth : ByteArray) (fr to wd st off gap tol fill : Int) (fn' : Int) (oth' : ByteArray) (wd' st' off' gap' tol' fill' : Int) (w : World)
    (HF : Hid (∀ (d : Nat) (os : Array Obj) (w : World), Calls Tryd.prog 18 #[qV op fn ser oth fr to wd st off gap tol fill] (grow (redrawn w d) os) fun e w'' => e = .returned (.bool b1) ∧ ∃ p : Regrown, w'' = grow (redrawn w p.d) p.os))
    (HV : Hid (∀ (d : Nat) (os : Array Obj) (w : World), Calls Tryd.prog 19 #[.string ser] (grow (redrawn w d) os) fun e w'' => e = .returned (.bool b2) ∧ ∃ p : Regrown, w'' = grow (redrawn w p.d) p.os))
    (HW1 : Hid (∀ (d : Nat) (os : Array Obj) (w : World), Calls Tryd.prog 20 #[.int .i64 fr, .int .i64 (-1152921504606846976), .int .i64 1152921504606846976] (grow (redrawn w d) os) fun e w'' => e = .returned (.bool b3) ∧ ∃ p : Regrown, w'' = grow (redrawn w p.d) p.os))
    (HW2 : Hid (∀ (d : Nat) (os : Array Obj) (w : World), Calls Tryd.prog 20 #[.int .i64 to, .int .i64 fr, .int .i64 1152921504606846976] (grow (redrawn w d) os) fun e w'' => e = .returned (.bool b4) ∧ ∃ p : Regrown, w'' = grow (redrawn w p.d) p.os))
    (HB : Hid (∀ (d : Nat) (os : Array Obj) (w : World), Calls Tryd.prog 21 #[qV op fn ser oth fr to wd st off gap tol fill] (grow (redrawn w d) os) fun e w'' => e = .returned (qV op fn' ser oth' fr to wd' st' off' gap' tol' fill') ∧ ∃ p : Regrown, w'' = grow (redrawn w p.d) p.os)) :
    Calls Tryd.prog 6 #[qV op fn ser oth fr to wd st off gap tol fill] w fun e w' => e = .returned (.int .i64 (if b1 && b2 && b3 && b4 && (fn == fn' && (oth.toList == oth'.toList && (wd == wd' && (st == st' && (off == off' && (gap == gap' && (tol == tol' && fill == fill'))))))) then 0 else 23)) ∧ Ext w w' := by
  by_cases hb : (b1 && b2 && b3 && b4) = true
  · simp only [Bool.and_eq_true] at hb
    obtain ⟨⟨⟨rfl, rfl⟩, rfl⟩, rfl⟩ := hb
    have hne := neq_q op fn ser oth fr to wd st off gap tol fill fn' oth' wd' st' off' gap' tol' fill'
    have hg : Tryd.prog.eqGuardType Tryd.prog.depth 23 = false := by kernel_rfl
    simp only [Bool.true_and]
    generalize (fn == fn' && (oth.toList == oth'.toList && (wd == wd' && (st == st' && (off == off' && (gap == gap' && (tol == tol' && fill == fill'))))))) = b5 at *
    go_enter Tryd.func6, Tryd.ntmps6
    go_wp2_with fail
    generalize hw1 : w.alloc _ = w1
    have k0 := cell_regrown (show w1.cell? ⟨w.heap.size, 0, none⟩ = some (.int .i64 op) by subst hw1; simp [go_sem])
    have k1 := cell_regrown (show w1.cell? ⟨w.heap.size, 1, none⟩ = some (.int .i64 fn) by subst hw1; simp [go_sem])
    have k2 := cell_regrown (show w1.cell? ⟨w.heap.size, 2, none⟩ = some (.string ser) by subst hw1; simp [go_sem])
    have k3 := cell_regrown (show w1.cell? ⟨w.heap.size, 3, none⟩ = some (.string oth) by subst hw1; simp [go_sem])
    have k4 := cell_regrown (show w1.cell? ⟨w.heap.size, 4, none⟩ = some (.int .i64 fr) by subst hw1; simp [go_sem])
    have k5 := cell_regrown (show w1.cell? ⟨w.heap.size, 5, none⟩ = some (.int .i64 to) by subst hw1; simp [go_sem])
    have k6 := cell_regrown (show w1.cell? ⟨w.heap.size, 6, none⟩ = some (.int .i64 wd) by subst hw1; simp [go_sem])
    have k7 := cell_regrown (show w1.cell? ⟨w.heap.size, 7, none⟩ = some (.int .i64 st) by subst hw1; simp [go_sem])
    have k8 := cell_regrown (show w1.cell? ⟨w.heap.size, 8, none⟩ = some (.int .i64 off) by subst hw1; simp [go_sem])
    have k9 := cell_regrown (show w1.cell? ⟨w.heap.size, 9, none⟩ = some (.int .i64 gap) by subst hw1; simp [go_sem])
    have k10 := cell_regrown (show w1.cell? ⟨w.heap.size, 10, none⟩ = some (.int .i64 tol) by subst hw1; simp [go_sem])
    have k11 := cell_regrown (show w1.cell? ⟨w.heap.size, 11, none⟩ = some (.int .i64 fill) by subst hw1; simp [go_sem])
    have Hw1 : Ext w w1 := by subst hw1; exact (Ext.refl _).alloc _
    clear hw1
    refine wp_region_quiet_below (by kernel_rfl) (by kernel_rfl) ?_
    repeat (go_big_quiet_step (first
      | (go_at_call 18; exact HF.out _ _ _)
      | (go_at_call 19; exact HV.out _ _ _)
      | (go_at_call 20; first | (with_reducible exact HW1.out _ _ _) | (with_reducible exact HW2.out _ _ _))
      | (go_at_call 21; exact HB.out _ _ _)))
    refine wpQuiet_nil ?_
    intro _ hw'
    obtain ⟨pr, rfl⟩ := hw'
    cases b5
    all_goals
      go_wp2
      go_ret
      exact ⟨rfl, Hw1.trans (Ext.regrown _ _ _)⟩
  · have hr : (if b1 && b2 && b3 && b4 && (fn == fn' && (oth.toList == oth'.toList && (wd == wd' && (st == st' && (off == off' && (gap == gap' && (tol == tol' && fill == fill'))))))) then (0 : Int) else 23) = 23 := by
      rw [Bool.not_eq_true] at hb
      rw [hb]; rfl
    rw [hr]
    clear hr
    cases b1
    · skip
      go_enter Tryd.func6, Tryd.ntmps6
      go_wp2_with fail
      generalize hw1 : w.alloc _ = w1
      have k0 := cell_regrown (show w1.cell? ⟨w.heap.size, 0, none⟩ = some (.int .i64 op) by subst hw1; simp [go_sem])
      have k1 := cell_regrown (show w1.cell? ⟨w.heap.size, 1, none⟩ = some (.int .i64 fn) by subst hw1; simp [go_sem])
      have k2 := cell_regrown (show w1.cell? ⟨w.heap.size, 2, none⟩ = some (.string ser) by subst hw1; simp [go_sem])
      have k3 := cell_regrown (show w1.cell? ⟨w.heap.size, 3, none⟩ = some (.string oth) by subst hw1; simp [go_sem])
      have k4 := cell_regrown (show w1.cell? ⟨w.heap.size, 4, none⟩ = some (.int .i64 fr) by subst hw1; simp [go_sem])
      have k5 := cell_regrown (show w1.cell? ⟨w.heap.size, 5, none⟩ = some (.int .i64 to) by subst hw1; simp [go_sem])
      have k6 := cell_regrown (show w1.cell? ⟨w.heap.size, 6, none⟩ = some (.int .i64 wd) by subst hw1; simp [go_sem])
      have k7 := cell_regrown (show w1.cell? ⟨w.heap.size, 7, none⟩ = some (.int .i64 st) by subst hw1; simp [go_sem])
      have k8 := cell_regrown (show w1.cell? ⟨w.heap.size, 8, none⟩ = some (.int .i64 off) by subst hw1; simp [go_sem])
      have k9 := cell_regrown (show w1.cell? ⟨w.heap.size, 9, none⟩ = some (.int .i64 gap) by subst hw1; simp [go_sem])
      have k10 := cell_regrown (show w1.cell? ⟨w.heap.size, 10, none⟩ = some (.int .i64 tol) by subst hw1; simp [go_sem])
      have k11 := cell_regrown (show w1.cell? ⟨w.heap.size, 11, none⟩ = some (.int .i64 fill) by subst hw1; simp [go_sem])
      have Hw1 : Ext w w1 := by subst hw1; exact (Ext.refl _).alloc _
      clear hw1
      refine wp_region_quiet_below (by kernel_rfl) (by kernel_rfl) ?_
      repeat (go_big_quiet_step (first
        | (go_at_call 18; exact HF.out _ _ _)
        | (go_at_call 19; exact HV.out _ _ _)
        | (go_at_call 20; first | (with_reducible exact HW1.out _ _ _) | (with_reducible exact HW2.out _ _ _))
        | (go_at_call 21; exact HB.out _ _ _)))
      refine wpQuiet_nil ?_
      intro _ hw'
      obtain ⟨pr, rfl⟩ := hw'
      go_wp2
      go_ret
      exact ⟨rfl, Hw1.trans (Ext.regrown _ _ _)⟩
    cases b2
    · skip
      go_enter Tryd.func6, Tryd.ntmps6
      go_wp2_with fail
      generalize hw1 : w.alloc _ = w1
      have k0 := cell_regrown (show w1.cell? ⟨w.heap.size, 0, none⟩ = some (.int .i64 op) by subst hw1; simp [go_sem])
      have k1 := cell_regrown (show w1.cell? ⟨w.heap.size, 1, none⟩ = some (.int .i64 fn) by subst hw1; simp [go_sem])
      have k2 := cell_regrown (show w1.cell? ⟨w.heap.size, 2, none⟩ = some (.string ser) by subst hw1; simp [go_sem])
      have k3 := cell_regrown (show w1.cell? ⟨w.heap.size, 3, none⟩ = some (.string oth) by subst hw1; simp [go_sem])
      have k4 := cell_regrown (show w1.cell? ⟨w.heap.size, 4, none⟩ = some (.int .i64 fr) by subst hw1; simp [go_sem])
      have k5 := cell_regrown (show w1.cell? ⟨w.heap.size, 5, none⟩ = some (.int .i64 to) by subst hw1; simp [go_sem])
      have k6 := cell_regrown (show w1.cell? ⟨w.heap.size, 6, none⟩ = some (.int .i64 wd) by subst hw1; simp [go_sem])
      have k7 := cell_regrown (show w1.cell? ⟨w.heap.size, 7, none⟩ = some (.int .i64 st) by subst hw1; simp [go_sem])
      have k8 := cell_regrown (show w1.cell? ⟨w.heap.size, 8, none⟩ = some (.int .i64 off) by subst hw1; simp [go_sem])
      have k9 := cell_regrown (show w1.cell? ⟨w.heap.size, 9, none⟩ = some (.int .i64 gap) by subst hw1; simp [go_sem])
      have k10 := cell_regrown (show w1.cell? ⟨w.heap.size, 10, none⟩ = some (.int .i64 tol) by subst hw1; simp [go_sem])
      have k11 := cell_regrown (show w1.cell? ⟨w.heap.size, 11, none⟩ = some (.int .i64 fill) by subst hw1; simp [go_sem])
      have Hw1 : Ext w w1 := by subst hw1; exact (Ext.refl _).alloc _
      clear hw1
      refine wp_region_quiet_below (by kernel_rfl) (by kernel_rfl) ?_
      repeat (go_big_quiet_step (first
        | (go_at_call 18; exact HF.out _ _ _)
        | (go_at_call 19; exact HV.out _ _ _)
        | (go_at_call 20; first | (with_reducible exact HW1.out _ _ _) | (with_reducible exact HW2.out _ _ _))
        | (go_at_call 21; exact HB.out _ _ _)))
      refine wpQuiet_nil ?_
      intro _ hw'
      obtain ⟨pr, rfl⟩ := hw'
      go_wp2
      go_ret
      exact ⟨rfl, Hw1.trans (Ext.regrown _ _ _)⟩
    cases b3
    · skip
      go_enter Tryd.func6, Tryd.ntmps6
      go_wp2_with fail
      generalize hw1 : w.alloc _ = w1
      have k0 := cell_regrown (show w1.cell? ⟨w.heap.size, 0, none⟩ = some (.int .i64 op) by subst hw1; simp [go_sem])
      have k1 := cell_regrown (show w1.cell? ⟨w.heap.size, 1, none⟩ = some (.int .i64 fn) by subst hw1; simp [go_sem])
      have k2 := cell_regrown (show w1.cell? ⟨w.heap.size, 2, none⟩ = some (.string ser) by subst hw1; simp [go_sem])
      have k3 := cell_regrown (show w1.cell? ⟨w.heap.size, 3, none⟩ = some (.string oth) by subst hw1; simp [go_sem])
      have k4 := cell_regrown (show w1.cell? ⟨w.heap.size, 4, none⟩ = some (.int .i64 fr) by subst hw1; simp [go_sem])
      have k5 := cell_regrown (show w1.cell? ⟨w.heap.size, 5, none⟩ = some (.int .i64 to) by subst hw1; simp [go_sem])
      have k6 := cell_regrown (show w1.cell? ⟨w.heap.size, 6, none⟩ = some (.int .i64 wd) by subst hw1; simp [go_sem])
      have k7 := cell_regrown (show w1.cell? ⟨w.heap.size, 7, none⟩ = some (.int .i64 st) by subst hw1; simp [go_sem])
      have k8 := cell_regrown (show w1.cell? ⟨w.heap.size, 8, none⟩ = some (.int .i64 off) by subst hw1; simp [go_sem])
      have k9 := cell_regrown (show w1.cell? ⟨w.heap.size, 9, none⟩ = some (.int .i64 gap) by subst hw1; simp [go_sem])
      have k10 := cell_regrown (show w1.cell? ⟨w.heap.size, 10, none⟩ = some (.int .i64 tol) by subst hw1; simp [go_sem])
      have k11 := cell_regrown (show w1.cell? ⟨w.heap.size, 11, none⟩ = some (.int .i64 fill) by subst hw1; simp [go_sem])
      have Hw1 : Ext w w1 := by subst hw1; exact (Ext.refl _).alloc _
      clear hw1
      refine wp_region_quiet_below (by kernel_rfl) (by kernel_rfl) ?_
      repeat (go_big_quiet_step (first
        | (go_at_call 18; exact HF.out _ _ _)
        | (go_at_call 19; exact HV.out _ _ _)
        | (go_at_call 20; first | (with_reducible exact HW1.out _ _ _) | (with_reducible exact HW2.out _ _ _))
        | (go_at_call 21; exact HB.out _ _ _)))
      refine wpQuiet_nil ?_
      intro _ hw'
      obtain ⟨pr, rfl⟩ := hw'
      go_wp2
      go_ret
      exact ⟨rfl, Hw1.trans (Ext.regrown _ _ _)⟩
    cases b4
    · skip
      go_enter Tryd.func6, Tryd.ntmps6
      go_wp2_with fail
      generalize hw1 : w.alloc _ = w1
      have k0 := cell_regrown (show w1.cell? ⟨w.heap.size, 0, none⟩ = some (.int .i64 op) by subst hw1; simp [go_sem])
      have k1 := cell_regrown (show w1.cell? ⟨w.heap.size, 1, none⟩ = some (.int .i64 fn) by subst hw1; simp [go_sem])
      have k2 := cell_regrown (show w1.cell? ⟨w.heap.size, 2, none⟩ = some (.string ser) by subst hw1; simp [go_sem])
      have k3 := cell_regrown (show w1.cell? ⟨w.heap.size, 3, none⟩ = some (.string oth) by subst hw1; simp [go_sem])
      have k4 := cell_regrown (show w1.cell? ⟨w.heap.size, 4, none⟩ = some (.int .i64 fr) by subst hw1; simp [go_sem])
      have k5 := cell_regrown (show w1.cell? ⟨w.heap.size, 5, none⟩ = some (.int .i64 to) by subst hw1; simp [go_sem])
      have k6 := cell_regrown (show w1.cell? ⟨w.heap.size, 6, none⟩ = some (.int .i64 wd) by subst hw1; simp [go_sem])
      have k7 := cell_regrown (show w1.cell? ⟨w.heap.size, 7, none⟩ = some (.int .i64 st) by subst hw1; simp [go_sem])
      have k8 := cell_regrown (show w1.cell? ⟨w.heap.size, 8, none⟩ = some (.int .i64 off) by subst hw1; simp [go_sem])
      have k9 := cell_regrown (show w1.cell? ⟨w.heap.size, 9, none⟩ = some (.int .i64 gap) by subst hw1; simp [go_sem])
      have k10 := cell_regrown (show w1.cell? ⟨w.heap.size, 10, none⟩ = some (.int .i64 tol) by subst hw1; simp [go_sem])
      have k11 := cell_regrown (show w1.cell? ⟨w.heap.size, 11, none⟩ = some (.int .i64 fill) by subst hw1; simp [go_sem])
      have Hw1 : Ext w w1 := by subst hw1; exact (Ext.refl _).alloc _
      clear hw1
      refine wp_region_quiet_below (by kernel_rfl) (by kernel_rfl) ?_
      repeat (go_big_quiet_step (first
        | (go_at_call 18; exact HF.out _ _ _)
        | (go_at_call 19; exact HV.out _ _ _)
        | (go_at_call 20; first | (with_reducible exact HW1.out _ _ _) | (with_reducible exact HW2.out _ _ _))
        | (go_at_call 21; exact HB.out _ _ _)))
      refine wpQuiet_nil ?_
      intro _ hw'
      obtain ⟨pr, rfl⟩ := hw'
      go_wp2
      go_ret
      exact ⟨rfl, Hw1.trans (Ext.regrown _ _ _)⟩
    exact (hb rfl).elim

theorem bare_eq (op fn : Int) (oth : ByteArray) (wd st off gap tol fill : Int) :
    (fn == (if op = 1 ∨ op = 2 then fn else 0) && (oth.toList == (if op = 3 then oth else ⟨#[]⟩ : ByteArray).toList && (wd == (if op = 1 then wd else 0) && (st == (if op = 1 then st else 0) && (off == (if op = 1 then off else 0) && (gap == (if op = 2 then gap else 0) && (tol == (if op = 3 then tol else 0) && fill == (if op = 1 then fill else 0)))))))) = bareB op fn oth wd st off gap tol fill := by
  unfold bareB
  by_cases h1 : op = 1
  · subst h1; simp [toList_nil, Bool.and_assoc, Bool.and_comm, Bool.and_left_comm]
  · by_cases h2 : op = 2
    · subst h2; simp [toList_nil, Bool.and_assoc, Bool.and_comm, Bool.and_left_comm]
    · by_cases h3 : op = 3
      · subst h3; simp [Bool.and_assoc, Bool.and_comm, Bool.and_left_comm]
      · have g1 : (op == 1) = false := by simp [h1]
        have g2 : (op == 2) = false := by simp [h2]
        have g3 : (op == 3) = false := by simp [h3]
        simp [h1, h2, h3, g1, g2, g3, toList_nil, Bool.and_assoc, Bool.and_comm, Bool.and_left_comm]

theorem check_any (op fn : Int) (ser oth : ByteArray) (fr to wd st off gap tol fill : Int) (hs : ser.size ≤ maxLen) (ho : oth.size ≤ maxLen) (w : World) :
    Calls Tryd.prog 6 #[qV op fn ser oth fr to wd st off gap tol fill] w fun e w' => e = .returned (.int .i64 (if checkB op fn ser oth fr to wd st off gap tol fill then 0 else 23)) ∧ Ext w w' := by
  have h := check_core (fitsB op fn oth wd st off gap tol fill) (validL ser.data.toList) (withinB fr (-1152921504606846976) 1152921504606846976) (withinB to fr 1152921504606846976) op fn ser oth fr to wd st off gap tol fill _ _ _ _ _ _ _ _ w
    (fun d os w => Calls.grown_of (fits_any op fn ser oth fr to wd st off gap tol fill ho (grow (redrawn w d) os)))
    (fun d os w => Calls.grown_of_same (valid_any ser (grow (redrawn w d) os) hs))
    (fun d os w => Calls.grown_of_same (within_any _ _ _ (grow (redrawn w d) os)))
    (fun d os w => Calls.grown_of_same (within_any _ _ _ (grow (redrawn w d) os)))
    (fun d os w => Calls.grown_of (bare_any op fn ser oth fr to wd st off gap tol fill (grow (redrawn w d) os)))
  rw [bare_eq] at h
  exact h

/-- As it is asked where the answer is known. -/
theorem check_is (b : Bool) (op fn : Int) (ser oth : ByteArray) (fr to wd st off gap tol fill : Int) (hb : checkB op fn ser oth fr to wd st off gap tol fill = b) (hs : ser.size ≤ maxLen) (ho : oth.size ≤ maxLen) (w : World) :
    Calls Tryd.prog 6 #[qV op fn ser oth fr to wd st off gap tol fill] w fun e w' => e = .returned (.int .i64 (if b then 0 else 23)) ∧ Ext w w' := by
  subst hb
  exact check_any op fn ser oth fr to wd st off gap tol fill hs ho w

end Go.Proofs.YtfndeocebpoeeaaDoor
