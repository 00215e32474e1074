/- Contracts of package query's checks: within, kindOf, fits, bare, Check; and window.Valid. -/
import Derived.Test.YtfndeocebpoeeaaDoorSer
import Derived.Test.YtfndeocebpoeeaaDoorWin
import Derived.Test.YtfndeocebpoeeaaDoorBase
import Derived.Below
import Derived.Lib.QuietBelow
import Derived.BigQuiet
namespace Go.Proofs.YtfndeocebpoeeaaDoor
open Go.RowKit Go.Lib Go.Sort

def withinB (n a b : Int) : Bool := decide (a ≤ n) && decide (n ≤ b)

set_option maxHeartbeats 1000000 in
theorem within_any (n a b : Int) (w : World) :
    Calls Tryd.prog 20 #[.int .i64 n, .int .i64 a, .int .i64 b] w fun e w' => e = .returned (.bool (withinB n a b)) ∧ w = w' := by
  by_cases h1 : a ≤ n <;> by_cases h2 : n ≤ b
  all_goals
    have Hf : Hid (withinB n a b = (decide (a ≤ n) && decide (n ≤ b))) := rfl
    go_enter Tryd.func20, Tryd.ntmps20
    go_wp2
    go_ret
    exact ⟨by rw [Hf.out]; simp [*], rfl⟩

set_option maxHeartbeats 1000000 in
theorem kindOf_any (op fn : Int) (ser oth : ByteArray) (fr to wd st off gap tol fill : Int) (w : World) :
    Calls Tryd.prog 29 #[.agg #[.int .i64 op, .int .i64 fn, .string ser, .string oth, .int .i64 fr, .int .i64 to, .int .i64 wd, .int .i64 st, .int .i64 off, .int .i64 gap, .int .i64 tol, .int .i64 fill]] w fun e w' =>
      e = .returned (.agg #[.int .i64 wd, .int .i64 st, .int .i64 off]) ∧ Ext w w' := by
  go_enter Tryd.func29, Tryd.ntmps29
  go_wp2
  exact bodyPost_ret (v := .agg #[.int .i64 wd, .int .i64 st, .int .i64 off]) (by simp [results, Tryd.results29, go_sem]) rfl ⟨rfl, ((Ext.refl _).alloc _).alloc _⟩

/-- A query's twelve fields, as a value. -/
abbrev qV (op fn : Int) (ser oth : ByteArray) (fr to wd st off gap tol fill : Int) : Value :=
  .agg #[.int .i64 op, .int .i64 fn, .string ser, .string oth, .int .i64 fr, .int .i64 to, .int .i64 wd, .int .i64 st, .int .i64 off, .int .i64 gap, .int .i64 tol, .int .i64 fill]

def fitsB (op fn : Int) (oth : ByteArray) (wd st off gap tol fill : Int) : Bool :=
  if op = 1 then withinB fill 0 3 && windowB wd st off && (fill != 3 || fn != 0) && withinB fn 0 6
  else if op = 2 then withinB fn 0 6 && withinB gap 1 1152921504606846976
  else if op = 3 then validL oth.data.toList && withinB tol 0 1152921504606846976
  else op == 0

set_option maxHeartbeats 4000000 in
theorem fits_any (op fn : Int) (ser oth : ByteArray) (fr to wd st off gap tol fill : Int) (ho : oth.size ≤ maxLen) (w : World) :
    Calls Tryd.prog 18 #[qV op fn ser oth fr to wd st off gap tol fill] w fun e w' => e = .returned (.bool (fitsB op fn oth wd st off gap tol fill)) ∧ Ext w w' := by
  unfold qV
  by_cases h1 : op = 1
  · subst h1
    have Hf : Hid (fitsB 1 fn oth wd st off gap tol fill = (withinB fill 0 3 && windowB wd st off && (fill != 3 || fn != 0) && withinB fn 0 6)) := rfl
    go_enter Tryd.func18, Tryd.ntmps18
    go_wp2_with (first
      | (go_at_call 20; refine (within_any _ _ _ _).mono ?_; rintro e w' ⟨rfl, rfl⟩)
      | (go_at_call 29; refine (kindOf_any _ _ _ _ _ _ _ _ _ _ _ _ _).mono ?_; rintro e w1 ⟨rfl, hb1⟩; have hc1 := hb1.cells; have hz1 : w.heap.size < w1.heap.size := by (have := hb1.size; simp at this; omega))
      | (go_at_call 28; refine (windowValid_any _ _ _ _).mono ?_; rintro e w2 ⟨rfl, hb2⟩; have hc2 := hb2.cells))
    all_goals
      go_ret
      refine ⟨by rw [Hf.out]; first | (simp [*]; done) | (simp [*]; rfl), ?_⟩
      repeat (first | exact Ext.refl _ | refine Ext.alloc ?_ _ | refine Ext.trans ?_ (by assumption))
  · by_cases h2 : op = 2
    · subst h2
      have Hf : Hid (fitsB 2 fn oth wd st off gap tol fill = (withinB fn 0 6 && withinB gap 1 1152921504606846976)) := rfl
      go_enter Tryd.func18, Tryd.ntmps18
      go_wp2_with (first
        | (go_at_call 20; refine (within_any _ _ _ _).mono ?_; rintro e w' ⟨rfl, rfl⟩))
      all_goals
        go_ret
        refine ⟨by rw [Hf.out]; simp [*], ?_⟩
        repeat (first | exact Ext.refl _ | refine Ext.alloc ?_ _ | refine Ext.trans ?_ (by assumption))
    · by_cases h3 : op = 3
      · subst h3
        have Hf : Hid (fitsB 3 fn oth wd st off gap tol fill = (validL oth.data.toList && withinB tol 0 1152921504606846976)) := rfl
        go_enter Tryd.func18, Tryd.ntmps18
        go_wp2_with (first
          | (go_at_call 19; refine (valid_any _ _ ho).mono ?_; rintro e w' ⟨rfl, rfl⟩)
          | (go_at_call 20; refine (within_any _ _ _ _).mono ?_; rintro e w' ⟨rfl, rfl⟩))
        all_goals
          go_ret
          refine ⟨by rw [Hf.out]; simp [*], ?_⟩
          repeat (first | exact Ext.refl _ | refine Ext.alloc ?_ _ | refine Ext.trans ?_ (by assumption))
      · have Hf : Hid (fitsB op fn oth wd st off gap tol fill = (op == 0)) := by
          show _ = _
          simp [fitsB, h1, h2, h3]
        have g1 : (op == 1) = false := by simp [h1]
        have g2 : (op == 2) = false := by simp [h2]
        have g3 : (op == 3) = false := by simp [h3]
        go_enter Tryd.func18, Tryd.ntmps18
        go_wp2_with fail
        all_goals
          go_ret
          refine ⟨by rw [Hf.out]; rfl, ?_⟩
          repeat (first | exact Ext.refl _ | refine Ext.alloc ?_ _ | refine Ext.trans ?_ (by assumption))

/-- What 'bare' leaves of a query. -/
def bareV (op fn : Int) (ser oth : ByteArray) (fr to wd st off gap tol fill : Int) : Value :=
  qV op (if op = 1 ∨ op = 2 then fn else 0) ser (if op = 3 then oth else ⟨#[]⟩) fr to (if op = 1 then wd else 0) (if op = 1 then st else 0) (if op = 1 then off else 0) (if op = 2 then gap else 0) (if op = 3 then tol else 0) (if op = 1 then fill else 0)

set_option maxHeartbeats 4000000 in
theorem bare_any (op fn : Int) (ser oth : ByteArray) (fr to wd st off gap tol fill : Int) (w : World) :
    Calls Tryd.prog 21 #[qV op fn ser oth fr to wd st off gap tol fill] w fun e w' => e = .returned (bareV op fn ser oth fr to wd st off gap tol fill) ∧ Ext w w' := by
  unfold qV
  by_cases h1 : op = 1
  · subst h1
    go_enter Tryd.func21, Tryd.ntmps21
    go_wp2
    refine bodyPost_ret (v := qV 1 fn ser ⟨#[]⟩ fr to wd st off 0 0 fill) (by simp [results, Tryd.results21, go_sem]) rfl ⟨rfl, ?_⟩
    repeat (first | exact Ext.refl _ | refine Ext.alloc ?_ _)
  · by_cases h2 : op = 2
    · subst h2
      go_enter Tryd.func21, Tryd.ntmps21
      go_wp2
      refine bodyPost_ret (v := qV 2 fn ser ⟨#[]⟩ fr to 0 0 0 gap 0 0) (by simp [results, Tryd.results21, go_sem]) rfl ⟨rfl, ?_⟩
      repeat (first | exact Ext.refl _ | refine Ext.alloc ?_ _)
    · by_cases h3 : op = 3
      · subst h3
        go_enter Tryd.func21, Tryd.ntmps21
        go_wp2
        refine bodyPost_ret (v := qV 3 0 ser oth fr to 0 0 0 0 tol 0) (by simp [results, Tryd.results21, go_sem]) rfl ⟨rfl, ?_⟩
        repeat (first | exact Ext.refl _ | refine Ext.alloc ?_ _)
      · have Hf : Hid (bareV op fn ser oth fr to wd st off gap tol fill = qV op 0 ser ⟨#[]⟩ fr to 0 0 0 0 0 0) := by
          show _ = _
          simp [bareV, h1, h2, h3]
        have g1 : (op != 1) = true := by simp [h1]
        have g2 : (op != 2) = true := by simp [h2]
        have g3 : (op != 3) = true := by simp [h3]
        go_enter Tryd.func21, Tryd.ntmps21
        go_wp2
        refine bodyPost_ret (v := qV op 0 ser ⟨#[]⟩ fr to 0 0 0 0 0 0) (by simp [results, Tryd.results21, go_sem]) rfl ⟨by rw [Hf.out], ?_⟩
        repeat (first | exact Ext.refl _ | refine Ext.alloc ?_ _)


end Go.Proofs.YtfndeocebpoeeaaDoor
