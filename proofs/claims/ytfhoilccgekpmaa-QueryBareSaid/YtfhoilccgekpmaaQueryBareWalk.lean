/- The walk of tidemilllaw19.QueryBare, case by case. -/
import Derived.Test.YtfhoilccgekpmaaChk
namespace Go.Proofs.Ytfhoilccgekpmaa
open Go.RowKit Go.Lib Go.Sort

set_option maxHeartbeats 4000000 in
set_option maxRecDepth 100000 in
theorem queryBare_op0 (op way : Int) (w : World) (h : bits BinOp.and IntKind.i64 op 3 = 0) (k : bits BinOp.and IntKind.i64 way 7 = 0 ∨ bits BinOp.and IntKind.i64 way 7 = 1 ∨ bits BinOp.and IntKind.i64 way 7 = 2 ∨ bits BinOp.and IntKind.i64 way 7 = 3 ∨ bits BinOp.and IntKind.i64 way 7 = 4 ∨ bits BinOp.and IntKind.i64 way 7 = 5 ∨ bits BinOp.and IntKind.i64 way 7 = 6 ∨ bits BinOp.and IntKind.i64 way 7 = 7) :
    Calls Try.prog 4 #[.int .i64 op, .int .i64 way] w fun e w' => e = .returned (.bool true) ∧ Ext w w' := by
  rcases k with k | k | k | k | k | k | k | k
  all_goals
    go_enter Try.func4, Try.ntmps4
    go_wp2_with fail
    refine (check_is true _ _ _ _ _ _ _ _ _ _ _ _ (by decide +kernel) (by decide +kernel) (by decide +kernel) _).mono ?_
    rintro e w1 ⟨rfl, hb1⟩
    have hc1 := hb1.cells
    go_wp2_with fail
    refine (check_any _ _ _ _ _ _ _ _ _ _ _ _ (by decide +kernel) (by decide +kernel) _).mono ?_
    rintro e w2 ⟨rfl, hb2⟩
    first | rw [if_pos (by decide +kernel)] | rw [if_neg (by decide +kernel)]
    go_wp2
    go_ret
    refine ⟨rfl, ?_⟩
    repeat (first | exact Ext.refl _ | refine Ext.alloc ?_ _ | refine Ext.trans ?_ (by assumption))

set_option maxHeartbeats 4000000 in
set_option maxRecDepth 100000 in
theorem queryBare_op1 (op way : Int) (w : World) (h : bits BinOp.and IntKind.i64 op 3 = 1) (k : bits BinOp.and IntKind.i64 way 7 = 0 ∨ bits BinOp.and IntKind.i64 way 7 = 1 ∨ bits BinOp.and IntKind.i64 way 7 = 2 ∨ bits BinOp.and IntKind.i64 way 7 = 3 ∨ bits BinOp.and IntKind.i64 way 7 = 4 ∨ bits BinOp.and IntKind.i64 way 7 = 5 ∨ bits BinOp.and IntKind.i64 way 7 = 6 ∨ bits BinOp.and IntKind.i64 way 7 = 7) :
    Calls Try.prog 4 #[.int .i64 op, .int .i64 way] w fun e w' => e = .returned (.bool true) ∧ Ext w w' := by
  rcases k with k | k | k | k | k | k | k | k
  all_goals
    go_enter Try.func4, Try.ntmps4
    go_wp2_with fail
    refine (check_is true _ _ _ _ _ _ _ _ _ _ _ _ (by decide +kernel) (by decide +kernel) (by decide +kernel) _).mono ?_
    rintro e w1 ⟨rfl, hb1⟩
    have hc1 := hb1.cells
    go_wp2_with fail
    refine (check_any _ _ _ _ _ _ _ _ _ _ _ _ (by decide +kernel) (by decide +kernel) _).mono ?_
    rintro e w2 ⟨rfl, hb2⟩
    first | rw [if_pos (by decide +kernel)] | rw [if_neg (by decide +kernel)]
    go_wp2
    go_ret
    refine ⟨rfl, ?_⟩
    repeat (first | exact Ext.refl _ | refine Ext.alloc ?_ _ | refine Ext.trans ?_ (by assumption))

set_option maxHeartbeats 4000000 in
set_option maxRecDepth 100000 in
theorem queryBare_op2 (op way : Int) (w : World) (h : bits BinOp.and IntKind.i64 op 3 = 2) (k : bits BinOp.and IntKind.i64 way 7 = 0 ∨ bits BinOp.and IntKind.i64 way 7 = 1 ∨ bits BinOp.and IntKind.i64 way 7 = 2 ∨ bits BinOp.and IntKind.i64 way 7 = 3 ∨ bits BinOp.and IntKind.i64 way 7 = 4 ∨ bits BinOp.and IntKind.i64 way 7 = 5 ∨ bits BinOp.and IntKind.i64 way 7 = 6 ∨ bits BinOp.and IntKind.i64 way 7 = 7) :
    Calls Try.prog 4 #[.int .i64 op, .int .i64 way] w fun e w' => e = .returned (.bool true) ∧ Ext w w' := by
  rcases k with k | k | k | k | k | k | k | k
  all_goals
    go_enter Try.func4, Try.ntmps4
    go_wp2_with fail
    refine (check_is true _ _ _ _ _ _ _ _ _ _ _ _ (by decide +kernel) (by decide +kernel) (by decide +kernel) _).mono ?_
    rintro e w1 ⟨rfl, hb1⟩
    have hc1 := hb1.cells
    go_wp2_with fail
    refine (check_any _ _ _ _ _ _ _ _ _ _ _ _ (by decide +kernel) (by decide +kernel) _).mono ?_
    rintro e w2 ⟨rfl, hb2⟩
    first | rw [if_pos (by decide +kernel)] | rw [if_neg (by decide +kernel)]
    go_wp2
    go_ret
    refine ⟨rfl, ?_⟩
    repeat (first | exact Ext.refl _ | refine Ext.alloc ?_ _ | refine Ext.trans ?_ (by assumption))

set_option maxHeartbeats 4000000 in
set_option maxRecDepth 100000 in
theorem queryBare_op3 (op way : Int) (w : World) (h : bits BinOp.and IntKind.i64 op 3 = 3) (k : bits BinOp.and IntKind.i64 way 7 = 0 ∨ bits BinOp.and IntKind.i64 way 7 = 1 ∨ bits BinOp.and IntKind.i64 way 7 = 2 ∨ bits BinOp.and IntKind.i64 way 7 = 3 ∨ bits BinOp.and IntKind.i64 way 7 = 4 ∨ bits BinOp.and IntKind.i64 way 7 = 5 ∨ bits BinOp.and IntKind.i64 way 7 = 6 ∨ bits BinOp.and IntKind.i64 way 7 = 7) :
    Calls Try.prog 4 #[.int .i64 op, .int .i64 way] w fun e w' => e = .returned (.bool true) ∧ Ext w w' := by
  rcases k with k | k | k | k | k | k | k | k
  all_goals
    go_enter Try.func4, Try.ntmps4
    go_wp2_with fail
    refine (check_is true _ _ _ _ _ _ _ _ _ _ _ _ (by decide +kernel) (by decide +kernel) (by decide +kernel) _).mono ?_
    rintro e w1 ⟨rfl, hb1⟩
    have hc1 := hb1.cells
    go_wp2_with fail
    refine (check_any _ _ _ _ _ _ _ _ _ _ _ _ (by decide +kernel) (by decide +kernel) _).mono ?_
    rintro e w2 ⟨rfl, hb2⟩
    first | rw [if_pos (by decide +kernel)] | rw [if_neg (by decide +kernel)]
    go_wp2
    go_ret
    refine ⟨rfl, ?_⟩
    repeat (first | exact Ext.refl _ | refine Ext.alloc ?_ _ | refine Ext.trans ?_ (by assumption))

theorem queryBare_any (op way : Int) (w : World) :
    Calls Try.prog 4 #[.int .i64 op, .int .i64 way] w fun e w' => e = .returned (.bool true) ∧ Ext w w' := by
  have h : bits BinOp.and IntKind.i64 op 3 = 0 ∨ bits BinOp.and IntKind.i64 op 3 = 1 ∨ bits BinOp.and IntKind.i64 op 3 = 2 ∨ bits BinOp.and IntKind.i64 op 3 = 3 := by rw [i64_and3]; omega
  have k : bits BinOp.and IntKind.i64 way 7 = 0 ∨ bits BinOp.and IntKind.i64 way 7 = 1 ∨ bits BinOp.and IntKind.i64 way 7 = 2 ∨ bits BinOp.and IntKind.i64 way 7 = 3 ∨ bits BinOp.and IntKind.i64 way 7 = 4 ∨ bits BinOp.and IntKind.i64 way 7 = 5 ∨ bits BinOp.and IntKind.i64 way 7 = 6 ∨ bits BinOp.and IntKind.i64 way 7 = 7 := by rw [i64_and7]; omega
  rcases h with h | h | h | h
  · exact queryBare_op0 op way w h k
  · exact queryBare_op1 op way w h k
  · exact queryBare_op2 op way w h k
  · exact queryBare_op3 op way w h k

end Go.Proofs.Ytfhoilccgekpmaa
