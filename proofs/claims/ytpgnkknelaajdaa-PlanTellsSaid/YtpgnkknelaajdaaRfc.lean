/- The document's answer: tidemillref19.Check. -/
import Derived.Test.YtpgnkknelaajdaaRfn
namespace Go.Proofs.Ytpgnkknelaajdaa
open Go.RowKit Go.Sort Go.Lib

set_option maxHeartbeats 1000000 in
theorem in19_any (n a b : Int) (w : World) :
    Calls Try.prog 27 #[.int .i64 n, .int .i64 a, .int .i64 b] w fun e w' => e = .returned (.bool (withinB n a b)) ∧ w = w' := by
  by_cases h1 : a ≤ n <;> by_cases h2 : n ≤ b
  all_goals
    have Hf : Hid (withinB n a b = (decide (a ≤ n) && decide (n ≤ b))) := rfl
    go_enter Try.func27, Try.ntmps27
    go_wp2
    go_ret
    exact ⟨by rw [Hf.out]; simp [*], rfl⟩

theorem neq_bare (op fn : Int) (ser oth : ByteArray) (fr to wd st off gap tol fill : Int) (fn' : Int) (oth' : ByteArray) (wd' st' off' gap' tol' fill' : Int)
    (e0 : fn' = if op = 1 ∨ op = 2 then fn else 0) (e1 : oth' = if op = 3 then oth else ⟨#[]⟩) (e2 : wd' = if op = 1 then wd else 0) (e3 : st' = if op = 1 then st else 0) (e4 : off' = if op = 1 then off else 0) (e5 : gap' = if op = 2 then gap else 0) (e6 : tol' = if op = 3 then tol else 0) (e7 : fill' = if op = 1 then fill else 0) (b : Bool) (hb : bareB op fn oth wd st off gap tol fill = b) (W : World) :
    (binOp .neq 23 (.agg #[.int .i64 op, .int .i64 fn, .string ser, .string oth, .int .i64 fr, .int .i64 to, .int .i64 wd, .int .i64 st, .int .i64 off, .int .i64 gap, .int .i64 tol, .int .i64 fill]) (.agg #[.int .i64 op, .int .i64 fn', .string ser, .string oth', .int .i64 fr, .int .i64 to, .int .i64 wd', .int .i64 st', .int .i64 off', .int .i64 gap', .int .i64 tol', .int .i64 fill'])).run Try.prog W =
    .ok (.bool (!b)) W := by
  subst e0 e1 e2 e3 e4 e5 e6 e7 hb
  have := neq_q op fn ser oth fr to wd st off gap tol fill (if op = 1 ∨ op = 2 then fn else 0) (if op = 3 then oth else ⟨#[]⟩) (if op = 1 then wd else 0) (if op = 1 then st else 0) (if op = 1 then off else 0) (if op = 2 then gap else 0) (if op = 3 then tol else 0) (if op = 1 then fill else 0) W
  rw [bare_eq] at this
  exact this

theorem fits_no {op fn : Int} {oth : ByteArray} {wd st off gap tol fill : Int} (h : withinB op 0 3 = false) : fitsB op fn oth wd st off gap tol fill = false := by
  unfold withinB at h
  simp at h
  have h1 : op ≠ 1 := by omega
  have h2 : op ≠ 2 := by omega
  have h3 : op ≠ 3 := by omega
  have h0 : op ≠ 0 := by omega
  simp [fitsB, h1, h2, h3, h0]
theorem to_no {fr to : Int} (h1 : withinB fr (-1152921504606846976) 1152921504606846976 = true) (h2 : withinB to (-1152921504606846976) 1152921504606846976 = false) : withinB to fr 1152921504606846976 = false := by
  unfold withinB at *
  simp at *
  omega
theorem to_no2 {fr to : Int} (h : to < fr) : withinB to fr 1152921504606846976 = false := by
  unfold withinB
  simp
  omega
theorem to_yes {fr to : Int} (h : ¬ to < fr) (h2 : withinB to (-1152921504606846976) 1152921504606846976 = true) : withinB to fr 1152921504606846976 = true := by
  unfold withinB at *
  simp at *
  omega
theorem op_is {op : Int} (h : withinB op 0 3 = true) : op = 0 ∨ op = 1 ∨ op = 2 ∨ op = 3 := by
  unfold withinB at h
  simp at h
  omega

def chkPost (cb : Bool) (w : World) (e : Ending) (w' : World) : Prop := e = .returned (.int .i64 (if cb = true then 0 else 23)) ∧ Ext w w'

set_option maxHeartbeats 8000000 in
set_option maxRecDepth 100000 in
theorem refCheck_post (op fn : Int) (ser oth : ByteArray) (fr to wd st off gap tol fill : Int) (hs : ser.size ≤ maxLen) (ho : oth.size ≤ maxLen) (w : World) :
    Calls Try.prog 17 #[qV op fn ser oth fr to wd st off gap tol fill] w (chkPost (checkB op fn ser oth fr to wd st off gap tol fill) w) := by
  have HF : Hid (checkB op fn ser oth fr to wd st off gap tol fill = (fitsB op fn oth wd st off gap tol fill && validL ser.data.toList && withinB fr (-1152921504606846976) 1152921504606846976 && withinB to fr 1152921504606846976 && bareB op fn oth wd st off gap tol fill)) := rfl
  have HW : Hid (∀ n a b, withinB n a b = (decide (a ≤ n) && decide (n ≤ b))) := Lib.hid (fun _ _ _ => rfl)
  have HFB : Hid (fitsB op fn oth wd st off gap tol fill = (if op = 1 then withinB fill 0 3 && windowB wd st off && (fill != 3 || fn != 0) && withinB fn 0 6 else if op = 2 then withinB fn 0 6 && withinB gap 1 1152921504606846976 else if op = 3 then validL oth.data.toList && withinB tol 0 1152921504606846976 else op == 0)) := rfl
  have HS := Lib.hid (fun W => refName_any ser W hs)
  have HO := Lib.hid (fun W => refName_any oth W ho)
  have HWI := Lib.hid (fun W => refWin_any wd st off W)
  have hg : Try.prog.eqGuardType Try.prog.depth 23 = false := by kernel_rfl
  clear hs ho
  unfold qV
  obtain ⟨cb, hcb⟩ : ∃ cb, checkB op fn ser oth fr to wd st off gap tol fill = cb := ⟨_, rfl⟩
  rw [hcb] at HF ⊢
  clear hcb
  go_enter Try.func17, Try.ntmps17
  go_wp2_with fail
  refine (in19_any _ _ _ _).mono ?_
  rintro e w' ⟨rfl, rfl⟩
  cases hop : withinB op 0 3
  case false =>
    go_wp2_with fail
    go_ret
    exact ⟨by rw [show cb = false by rw [HF.out, fits_no hop]; simp]; rfl, by repeat (first | exact Ext.refl _ | refine Ext.alloc ?_ _ | refine Ext.setCell ?_ (Nat.le_succ _) _)⟩
  go_wp2_with fail
  refine (HS.out _).mono ?_
  rintro e w' ⟨rfl, rfl⟩
  cases hse : validL ser.data.toList
  case false =>
    go_wp2_with fail
    go_ret
    exact ⟨by rw [show cb = false by rw [HF.out, hse]; simp]; rfl, by repeat (first | exact Ext.refl _ | refine Ext.alloc ?_ _ | refine Ext.setCell ?_ (Nat.le_succ _) _)⟩
  go_wp2_with fail
  refine (in19_any _ _ _ _).mono ?_
  rintro e w' ⟨rfl, rfl⟩
  cases hfr : withinB fr (-1152921504606846976) 1152921504606846976
  case false =>
    go_wp2_with fail
    go_ret
    exact ⟨by rw [show cb = false by rw [HF.out, hfr]; simp]; rfl, by repeat (first | exact Ext.refl _ | refine Ext.alloc ?_ _ | refine Ext.setCell ?_ (Nat.le_succ _) _)⟩
  go_wp2_with fail
  refine (in19_any _ _ _ _).mono ?_
  rintro e w' ⟨rfl, rfl⟩
  cases hto : withinB to (-1152921504606846976) 1152921504606846976
  case false =>
    go_wp2_with fail
    go_ret
    exact ⟨by rw [show cb = false by rw [HF.out, to_no hfr hto]; simp]; rfl, by repeat (first | exact Ext.refl _ | refine Ext.alloc ?_ _ | refine Ext.setCell ?_ (Nat.le_succ _) _)⟩
  by_cases hft : to < fr
  case pos =>
    go_wp2_with fail
    go_ret
    exact ⟨by rw [show cb = false by rw [HF.out, to_no2 hft]; simp]; rfl, by repeat (first | exact Ext.refl _ | refine Ext.alloc ?_ _ | refine Ext.setCell ?_ (Nat.le_succ _) _)⟩
  have HTF := Lib.hid (to_yes hft hto)
  have hop2 := op_is hop
  rw [hse, hfr, HTF.out] at HF
  simp only [Bool.and_true] at HF
  have hft2 : fr ≤ to := by omega
  clear hft hop hse hfr hto
  rcases hop2 with rfl | rfl | rfl | rfl
  · cases hbb : bareB 0 fn oth wd st off gap tol fill
    · have hne := neq_bare 0 fn ser oth fr to wd st off gap tol fill (0) ⟨#[]⟩ 0 0 0 0 0 0 (by simp) (by simp) (by simp) (by simp) (by simp) (by simp) (by simp) (by simp) false hbb
      have HBR := Lib.hid hbb
      clear hbb
      go_wp2_with fail
      go_ret
      exact ⟨by rw [show cb = false by rw [HF.out, HBR.out, HFB.out]; simp]; rfl, by repeat (first | exact Ext.refl _ | refine Ext.alloc ?_ _ | refine Ext.setCell ?_ (Nat.le_succ _) _)⟩
    · have hne := neq_bare 0 fn ser oth fr to wd st off gap tol fill (0) ⟨#[]⟩ 0 0 0 0 0 0 (by simp) (by simp) (by simp) (by simp) (by simp) (by simp) (by simp) (by simp) true hbb
      have HBR := Lib.hid hbb
      clear hbb
      go_wp2_with fail
      go_ret
      exact ⟨by rw [show cb = true by rw [HF.out, HBR.out, HFB.out]; simp]; rfl, by repeat (first | exact Ext.refl _ | refine Ext.alloc ?_ _ | refine Ext.setCell ?_ (Nat.le_succ _) _)⟩
  · go_wp2_with fail
    refine (in19_any _ _ _ _).mono ?_
    rintro e w' ⟨rfl, rfl⟩
    cases hfn : withinB fn 0 6
    case false =>
      go_wp2_with fail
      go_ret
      exact ⟨by rw [show cb = false by rw [HF.out, HFB.out]; simp [hfn]]; rfl, by repeat (first | exact Ext.refl _ | refine Ext.alloc ?_ _ | refine Ext.setCell ?_ (Nat.le_succ _) _)⟩
    go_wp2_with fail
    refine (in19_any _ _ _ _).mono ?_
    rintro e w' ⟨rfl, rfl⟩
    cases hfi : withinB fill 0 3
    case false =>
      go_wp2_with fail
      go_ret
      exact ⟨by rw [show cb = false by rw [HF.out, HFB.out]; simp [hfi]]; rfl, by repeat (first | exact Ext.refl _ | refine Ext.alloc ?_ _ | refine Ext.setCell ?_ (Nat.le_succ _) _)⟩
    by_cases hf3 : fill = 3
    · subst hf3
      by_cases hf0 : fn = 0
      case pos =>
        subst hf0
        go_wp2_with fail
        go_ret
        exact ⟨by rw [show cb = false by rw [HF.out, HFB.out]; simp]; rfl, by repeat (first | exact Ext.refl _ | refine Ext.alloc ?_ _ | refine Ext.setCell ?_ (Nat.le_succ _) _)⟩
      have HFF : Hid (((3 : Int) != 3 || fn != 0) = true) := Lib.hid (by simp [hf0])
      go_wp2_with fail
      refine (HWI.out _).mono ?_
      rintro e w' ⟨rfl, rfl⟩
      cases hwi : windowB wd st off
      case false =>
        go_wp2_with fail
        go_ret
        exact ⟨by rw [show cb = false by rw [HF.out, HFB.out]; simp [hwi]]; rfl, by repeat (first | exact Ext.refl _ | refine Ext.alloc ?_ _ | refine Ext.setCell ?_ (Nat.le_succ _) _)⟩
      cases hbb : bareB 1 fn oth wd st off gap tol 3
      · have hne := neq_bare 1 fn ser oth fr to wd st off gap tol 3 (fn) ⟨#[]⟩ wd st off 0 0 3 (by simp) (by simp) (by simp) (by simp) (by simp) (by simp) (by simp) (by simp) false hbb
        have HBR := Lib.hid hbb
        clear hbb
        go_wp2_with fail
        go_ret
        exact ⟨by rw [show cb = false by rw [HF.out, HBR.out, HFB.out]; simp]; rfl, by repeat (first | exact Ext.refl _ | refine Ext.alloc ?_ _ | refine Ext.setCell ?_ (Nat.le_succ _) _)⟩
      · have hne := neq_bare 1 fn ser oth fr to wd st off gap tol 3 (fn) ⟨#[]⟩ wd st off 0 0 3 (by simp) (by simp) (by simp) (by simp) (by simp) (by simp) (by simp) (by simp) true hbb
        have HBR := Lib.hid hbb
        clear hbb
        go_wp2_with fail
        go_ret
        exact ⟨by rw [show cb = true by rw [HF.out, HBR.out, HFB.out]; simp [hwi, hfi, hfn]; have := HFF.out; simpa using this]; rfl, by repeat (first | exact Ext.refl _ | refine Ext.alloc ?_ _ | refine Ext.setCell ?_ (Nat.le_succ _) _)⟩
    · have HFF : Hid ((fill != 3 || fn != 0) = true) := Lib.hid (by simp [hf3])
      go_wp2_with fail
      refine (HWI.out _).mono ?_
      rintro e w' ⟨rfl, rfl⟩
      cases hwi : windowB wd st off
      case false =>
        go_wp2_with fail
        go_ret
        exact ⟨by rw [show cb = false by rw [HF.out, HFB.out]; simp [hwi]]; rfl, by repeat (first | exact Ext.refl _ | refine Ext.alloc ?_ _ | refine Ext.setCell ?_ (Nat.le_succ _) _)⟩
      cases hbb : bareB 1 fn oth wd st off gap tol fill
      · have hne := neq_bare 1 fn ser oth fr to wd st off gap tol fill (fn) ⟨#[]⟩ wd st off 0 0 fill (by simp) (by simp) (by simp) (by simp) (by simp) (by simp) (by simp) (by simp) false hbb
        have HBR := Lib.hid hbb
        clear hbb
        go_wp2_with fail
        go_ret
        exact ⟨by rw [show cb = false by rw [HF.out, HBR.out, HFB.out]; simp]; rfl, by repeat (first | exact Ext.refl _ | refine Ext.alloc ?_ _ | refine Ext.setCell ?_ (Nat.le_succ _) _)⟩
      · have hne := neq_bare 1 fn ser oth fr to wd st off gap tol fill (fn) ⟨#[]⟩ wd st off 0 0 fill (by simp) (by simp) (by simp) (by simp) (by simp) (by simp) (by simp) (by simp) true hbb
        have HBR := Lib.hid hbb
        clear hbb
        go_wp2_with fail
        go_ret
        exact ⟨by rw [show cb = true by rw [HF.out, HBR.out, HFB.out]; simp [hwi, hfi, hfn]; have := HFF.out; simpa using this]; rfl, by repeat (first | exact Ext.refl _ | refine Ext.alloc ?_ _ | refine Ext.setCell ?_ (Nat.le_succ _) _)⟩
  · go_wp2_with fail
    refine (in19_any _ _ _ _).mono ?_
    rintro e w' ⟨rfl, rfl⟩
    cases hfn : withinB fn 0 6
    case false =>
      go_wp2_with fail
      go_ret
      exact ⟨by rw [show cb = false by rw [HF.out, HFB.out]; simp [hfn]]; rfl, by repeat (first | exact Ext.refl _ | refine Ext.alloc ?_ _ | refine Ext.setCell ?_ (Nat.le_succ _) _)⟩
    go_wp2_with fail
    refine (in19_any _ _ _ _).mono ?_
    rintro e w' ⟨rfl, rfl⟩
    cases hga : withinB gap 1 1152921504606846976
    case false =>
      go_wp2_with fail
      go_ret
      exact ⟨by rw [show cb = false by rw [HF.out, HFB.out]; simp [hga]]; rfl, by repeat (first | exact Ext.refl _ | refine Ext.alloc ?_ _ | refine Ext.setCell ?_ (Nat.le_succ _) _)⟩
    cases hbb : bareB 2 fn oth wd st off gap tol fill
    · have hne := neq_bare 2 fn ser oth fr to wd st off gap tol fill (fn) ⟨#[]⟩ 0 0 0 gap 0 0 (by simp) (by simp) (by simp) (by simp) (by simp) (by simp) (by simp) (by simp) false hbb
      have HBR := Lib.hid hbb
      clear hbb
      go_wp2_with fail
      go_ret
      exact ⟨by rw [show cb = false by rw [HF.out, HBR.out, HFB.out]; simp]; rfl, by repeat (first | exact Ext.refl _ | refine Ext.alloc ?_ _ | refine Ext.setCell ?_ (Nat.le_succ _) _)⟩
    · have hne := neq_bare 2 fn ser oth fr to wd st off gap tol fill (fn) ⟨#[]⟩ 0 0 0 gap 0 0 (by simp) (by simp) (by simp) (by simp) (by simp) (by simp) (by simp) (by simp) true hbb
      have HBR := Lib.hid hbb
      clear hbb
      go_wp2_with fail
      go_ret
      exact ⟨by rw [show cb = true by rw [HF.out, HBR.out, HFB.out]; simp [hfn, hga]]; rfl, by repeat (first | exact Ext.refl _ | refine Ext.alloc ?_ _ | refine Ext.setCell ?_ (Nat.le_succ _) _)⟩
  · go_wp2_with fail
    refine (HO.out _).mono ?_
    rintro e w' ⟨rfl, rfl⟩
    cases hot : validL oth.data.toList
    case false =>
      go_wp2_with fail
      go_ret
      exact ⟨by rw [show cb = false by rw [HF.out, HFB.out]; simp [hot]]; rfl, by repeat (first | exact Ext.refl _ | refine Ext.alloc ?_ _ | refine Ext.setCell ?_ (Nat.le_succ _) _)⟩
    go_wp2_with fail
    refine (in19_any _ _ _ _).mono ?_
    rintro e w' ⟨rfl, rfl⟩
    cases hto2 : withinB tol 0 1152921504606846976
    case false =>
      go_wp2_with fail
      go_ret
      exact ⟨by rw [show cb = false by rw [HF.out, HFB.out]; simp [hto2]]; rfl, by repeat (first | exact Ext.refl _ | refine Ext.alloc ?_ _ | refine Ext.setCell ?_ (Nat.le_succ _) _)⟩
    cases hbb : bareB 3 fn oth wd st off gap tol fill
    · have hne := neq_bare 3 fn ser oth fr to wd st off gap tol fill (0) oth 0 0 0 0 tol 0 (by simp) (by simp) (by simp) (by simp) (by simp) (by simp) (by simp) (by simp) false hbb
      have HBR := Lib.hid hbb
      clear hbb
      go_wp2_with fail
      go_ret
      exact ⟨by rw [show cb = false by rw [HF.out, HBR.out, HFB.out]; simp]; rfl, by repeat (first | exact Ext.refl _ | refine Ext.alloc ?_ _ | refine Ext.setCell ?_ (Nat.le_succ _) _)⟩
    · have hne := neq_bare 3 fn ser oth fr to wd st off gap tol fill (0) oth 0 0 0 0 tol 0 (by simp) (by simp) (by simp) (by simp) (by simp) (by simp) (by simp) (by simp) true hbb
      have HBR := Lib.hid hbb
      clear hbb
      go_wp2_with fail
      go_ret
      exact ⟨by rw [show cb = true by rw [HF.out, HBR.out, HFB.out]; simp [hot, hto2]]; rfl, by repeat (first | exact Ext.refl _ | refine Ext.alloc ?_ _ | refine Ext.setCell ?_ (Nat.le_succ _) _)⟩

theorem refCheck_any (op fn : Int) (ser oth : ByteArray) (fr to wd st off gap tol fill : Int) (hs : ser.size ≤ maxLen) (ho : oth.size ≤ maxLen) (w : World) :
    Calls Try.prog 17 #[qV op fn ser oth fr to wd st off gap tol fill] w fun e w' => e = .returned (.int .i64 (if checkB op fn ser oth fr to wd st off gap tol fill then 0 else 23)) ∧ Ext w w' :=
  refCheck_post op fn ser oth fr to wd st off gap tol fill hs ho w

end Go.Proofs.Ytpgnkknelaajdaa
