/- plan.raw, plan.kindOf, plan.check, plan.span. -/
import Derived.Test.YtpgnkknelaajdaaWrd
import Derived.Test.YtpgnkknelaajdaaTie
namespace Go.Proofs.Ytpgnkknelaajdaa
open Go.RowKit Go.Sort Go.Lib

set_option maxHeartbeats 1000000 in
theorem planRaw_any (op fn : Int) (ser oth : ByteArray) (fr to wd st off gap tol fill : Int) (w : World) :
    Calls Try.prog 13 #[qV op fn ser oth fr to wd st off gap tol fill] w fun e w' => e = .returned (.agg #[.int .i64 (-1), .int .i64 fr, .int .i64 fr]) ∧ Ext w w' := by
  unfold qV
  go_enter Try.func13, Try.ntmps13
  go_wp2
  exact bodyPost_ret (v := .agg #[.int .i64 (-1), .int .i64 fr, .int .i64 fr]) (by simp [results, Try.results13, go_sem]) rfl ⟨rfl, ((Ext.refl _).alloc _).alloc _⟩

set_option maxHeartbeats 1000000 in
theorem planKind_any (op fn : Int) (ser oth : ByteArray) (fr to wd st off gap tol fill : Int) (w : World) :
    Calls Try.prog 15 #[qV op fn ser oth fr to wd st off gap tol fill] w fun e w' => e = .returned (.agg #[.int .i64 wd, .int .i64 st, .int .i64 off]) ∧ Ext w w' := by
  unfold qV
  go_enter Try.func15, Try.ntmps15
  go_wp2
  exact bodyPost_ret (v := .agg #[.int .i64 wd, .int .i64 st, .int .i64 off]) (by simp [results, Try.results15, go_sem]) rfl ⟨rfl, ((Ext.refl _).alloc _).alloc _⟩

def planCheckB (op fn : Int) (ser oth : ByteArray) (fr to wd st off gap tol fill : Int) : Bool := checkB op fn ser oth fr to wd st off gap tol fill && decide (op = 1)

set_option maxHeartbeats 2000000 in
theorem planCheck_any (op fn : Int) (ser oth : ByteArray) (fr to wd st off gap tol fill : Int) (hs : ser.size ≤ maxLen) (ho : oth.size ≤ maxLen) (w : World) :
    Calls Try.prog 12 #[qV op fn ser oth fr to wd st off gap tol fill] w fun e w' => e = .returned (.int .i64 (if planCheckB op fn ser oth fr to wd st off gap tol fill then 0 else 23)) ∧ Ext w w' := by
  have HF : Hid (planCheckB op fn ser oth fr to wd st off gap tol fill = (checkB op fn ser oth fr to wd st off gap tol fill && decide (op = 1))) := rfl
  have HC := Lib.hid (fun w => check_any op fn ser oth fr to wd st off gap tol fill hs ho w)
  clear hs ho
  generalize checkB op fn ser oth fr to wd st off gap tol fill = b at *
  cases b
  · rw [show planCheckB op fn ser oth fr to wd st off gap tol fill = false by rw [HF.out]; simp]
    simp only [Bool.false_eq_true, if_false] at HC ⊢
    clear HF
    go_enter Try.func12, Try.ntmps12
    go_wp2_with fail
    generalize hW : World.alloc _ _ = W
    have HX : Hid (Ext w W) := Lib.hid (by subst hW; exact (Ext.refl w).alloc _)
    have e0 : W.cell? ⟨w.heap.size, 0, none⟩ = some (.int .i64 op) := by subst hW; simp [go_sem]
    have hlt := World.block_lt_of_cell? W _ e0
    clear hW
    refine (HC.out W).mono ?_
    rintro e w1 ⟨rfl, hb1⟩
    have e1 : w1.cell? ⟨w.heap.size, 0, none⟩ = some (.int .i64 op) := (hb1.cell (p := ⟨w.heap.size, 0, none⟩) hlt).trans e0
    have HX1 := Lib.hid (HX.out.trans hb1)
    clear HC e0 hlt hb1
    go_wp2_with fail
    go_ret
    exact ⟨rfl, HX1.out⟩
  · simp only [if_true] at HC
    by_cases h1 : op = 1
    · rw [show planCheckB op fn ser oth fr to wd st off gap tol fill = true by rw [HF.out]; simp [h1]]
      simp only [if_true]
      clear HF
      subst h1
      go_enter Try.func12, Try.ntmps12
      go_wp2_with fail
      generalize hW : World.alloc _ _ = W
      have HX : Hid (Ext w W) := Lib.hid (by subst hW; exact (Ext.refl w).alloc _)
      have e0 : W.cell? ⟨w.heap.size, 0, none⟩ = some (.int .i64 1) := by subst hW; simp [go_sem]
      have hlt := World.block_lt_of_cell? W _ e0
      clear hW
      refine (HC.out W).mono ?_
      rintro e w1 ⟨rfl, hb1⟩
      have e1 : w1.cell? ⟨w.heap.size, 0, none⟩ = some (.int .i64 1) := (hb1.cell (p := ⟨w.heap.size, 0, none⟩) hlt).trans e0
      have HX1 := Lib.hid (HX.out.trans hb1)
      clear HC e0 hlt hb1
      go_wp2_with fail
      go_ret
      exact ⟨rfl, HX1.out⟩
    · rw [show planCheckB op fn ser oth fr to wd st off gap tol fill = false by rw [HF.out]; simp [h1]]
      simp only [Bool.false_eq_true, if_false]
      clear HF
      go_enter Try.func12, Try.ntmps12
      go_wp2_with fail
      generalize hW : World.alloc _ _ = W
      have HX : Hid (Ext w W) := Lib.hid (by subst hW; exact (Ext.refl w).alloc _)
      have e0 : W.cell? ⟨w.heap.size, 0, none⟩ = some (.int .i64 op) := by subst hW; simp [go_sem]
      have hlt := World.block_lt_of_cell? W _ e0
      clear hW
      refine (HC.out W).mono ?_
      rintro e w1 ⟨rfl, hb1⟩
      have e1 : w1.cell? ⟨w.heap.size, 0, none⟩ = some (.int .i64 op) := (hb1.cell (p := ⟨w.heap.size, 0, none⟩) hlt).trans e0
      have HX1 := Lib.hid (HX.out.trans hb1)
      clear HC e0 hlt hb1
      go_wp2_with fail
      go_ret
      exact ⟨rfl, HX1.out⟩

end Go.Proofs.Ytpgnkknelaajdaa
