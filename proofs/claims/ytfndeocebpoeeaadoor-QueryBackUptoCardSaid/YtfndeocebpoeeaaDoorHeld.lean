/- A region that draws its order, with effects over which loads may float: what reads alike in every world of a class S is taken first; each effect comes up alone, and keeps S. -/
import Derived.Test.YtfndeocebpoeeaaDoorLex
import Derived.Test.YtfndeocebpoeeaaDoorMap
import Derived.OrdersHeld
import Derived.Lib.QuietBelow
namespace Go.Proofs.YtfndeocebpoeeaaDoor
open Go Go.Sort Go.RowKit

section
variable {P : Program} {md : Region.Mode} {S : World → Prop} {Q : Exit → Act → World → Prop}

/-- What follows an effect: S anew, then the rest. -/
def thenHeld (S : World → Prop) (Q : Exit → Act → World → Prop) (K : Act → World → Prop) : Exit → Act → World → Prop
  | .normal, a, w => S w ∧ K a w
  | e, a, w => Q e a w

/-- Parts: some operations that read, then an effect. -/
def wpHeld (P : Program) (l : List Oper) (S : World → Prop) (Q : Exit → Act → World → Prop) : List (List Nat × Option Nat) → Act → World → Prop
  | [], a, w => Q .normal a w
  | (ps, none) :: s, a, w => wpQuiet P l.toArray S (fun a1 => wpHeld P l S Q s a1 w) (pickOps l ps) a
  | (ps, some i) :: s, a, w => wpQuiet P l.toArray S (fun a1 => wpList P l.toArray (thenHeld S Q (wpHeld P l S Q s)) (pickOps l [i]) a1 w) (pickOps l ps) a

def isLen (o : Op) : Bool := match o with
  | .call c => (match c.callee with | .builtin .len => true | _ => false)
  | _ => false

theorem run_isLen {o : Oper} (h : isLen o.op = true) (ρ : Operand → Value) (w w' : World) (n : Next) (hr : (execOp ρ o).run P w = .ok n w') : ∃ v, n = .value v := by
  unfold isLen at h
  split at h
  · rename_i c hc
    split at h
    · rename_i hb
      unfold execOp at hr
      rw [hc] at hr
      simp only [resolve, hb, invoke, builtin, Sem.run_bind, Sem.run_pure, Result.andThen_ok] at hr
      generalize hx : Sem.run P (Builtin.len_ _ _ _) w = r at hr
      cases r with
      | ok x w1 => simp [Result.andThen] at hr; exact ⟨x, hr.1.symm⟩
      | halt x w1 => simp [Result.andThen] at hr
    · simp at h
  · simp at h

def readsB (o : Op) : Bool := isVal o || isLen o
theorem run_reads {o : Oper} (h : readsB o.op = true) (ρ : Operand → Value) (w w' : World) (n : Next) (hr : (execOp ρ o).run P w = .ok n w') : ∃ v, n = .value v := by
  simp only [readsB, Bool.or_eq_true] at h
  rcases h with h | h
  · exact run_isVal h ρ w w' n hr
  · exact run_isLen h ρ w w' n hr

/-- May all of these be taken first, one behind the other? What is listed then. -/
def takesB (md : Region.Mode) (ops : Array Oper) : List Nat → Array Bool → Option (Array Bool)
  | [], listed => some listed
  | i :: ps, listed => if ((Region.ready md ops listed).contains i && Region.free md ops listed i && (match ops[i]? with | some o => readsB o.op | none => false)) = true then takesB md ops ps (listed.setIfInBounds i true) else none

def heldB (md : Region.Mode) (ops : Array Oper) : List (List Nat × Option Nat) → Array Bool → Bool
  | [], listed => (Region.ready md ops listed).isEmpty
  | (ps, e) :: s, listed => match takesB md ops ps listed with
    | none => false
    | some l1 => match e with
      | none => heldB md ops s l1
      | some i => decide (Region.ready md ops l1 = [i]) && heldB md ops s (l1.setIfInBounds i true)

/-- How many operations there are in all. -/
def countOf : List (List Nat × Option Nat) → Nat
  | [] => 0
  | (ps, none) :: s => ps.length + countOf s
  | (ps, some _) :: s => ps.length + (countOf s + 1)

theorem wpAnyH_takes {l : List Oper} {K : Act → Prop} {w : World} {g : Nat} (hs : Region.noSelect l.toArray = true) (hQ : ∀ c a d v w, Q (.panic c) (a.put d v) w → Q (.panic c) a w) (hS : S w) :
    ∀ (ps : List Nat) (listed l1 : Array Bool) (a : Act), takesB md l.toArray ps listed = some l1 → (∀ a1, K a1 → wpAnyH P md l.toArray Q S g l1 a1 w) →
      wpQuiet P l.toArray S K (pickOps l ps) a → wpAnyH P md l.toArray Q S (ps.length + g) listed a w
  | [], listed, l1, a, hB, hK, h => by
    simp [takesB] at hB; subst hB
    rw [List.length_nil, Nat.zero_add]; exact hK a h
  | i :: ps, listed, l1, a, hB, hK, h => by
    simp only [takesB] at hB
    by_cases hc : ((Region.ready md l.toArray listed).contains i && Region.free md l.toArray listed i && (match l.toArray[i]? with | some o => readsB o.op | none => false)) = true
    · rw [if_pos hc] at hB
      simp only [Bool.and_eq_true] at hc
      obtain ⟨⟨hr, hf⟩, hv⟩ := hc
      have hr' : i ∈ Region.ready md l.toArray listed := by simpa using hr
      obtain ⟨_, o, ho, _⟩ := mem_ready.1 hr'
      rw [ho] at hv
      have ho' : l[i]? = some o := by simpa using ho
      rw [pickOps_cons ho'] at h
      have hst : qOp P l.toArray S i (wpQuiet P l.toArray S K (pickOps l ps)) a := by unfold qOp; simp only [ho]; exact h
      obtain ⟨v, hy, hK'⟩ := yieldsIn_of_qOp ho hst
      have hy' : YieldsIf P l.toArray S o v a := by
        rcases hy with ⟨hw, hh⟩ | hh
        · refine .inl ⟨hw, fun w hSw => ?_⟩
          have h1 := hh w hSw
          unfold Oper.quietAt at h1
          cases hrun : (execOp a.eval o).run P w with
          | halt x w' => rw [hrun] at h1; simp [Oper.quietUpon] at h1
          | ok n w' =>
            rw [hrun] at h1
            obtain ⟨u, rfl⟩ := run_reads hv _ _ _ _ hrun
            simp only [Oper.quietUpon] at h1
            rw [h1.1, h1.2]
        · exact .inr hh
      rw [show (i :: ps).length + g = (ps.length + g) + 1 by simp; omega]
      exact wpAnyH_take ho hs hf hr (fun c a w => hQ c a _ _ w) hy' hS (wpAnyH_takes hs hQ hS ps _ _ _ hB hK hK')
    · rw [if_neg hc] at hB; simp at hB

theorem wpAnyH_of_held {l : List Oper} (hs : Region.noSelect l.toArray = true) (hQ : ∀ c a d v w, Q (.panic c) (a.put d v) w → Q (.panic c) a w) :
    ∀ (s : List (List Nat × Option Nat)) (listed : Array Bool) (a : Act) (w : World), heldB md l.toArray s listed = true → S w → wpHeld P l S Q s a w → wpAnyH P md l.toArray Q S (countOf s) listed a w
  | [], listed, a, w, hB, _, h => ⟨by simpa [heldB] using hB, h⟩
  | (ps, none) :: s, listed, a, w, hB, hS, h => by
    simp only [heldB] at hB
    split at hB
    · simp at hB
    · rename_i l1 hl1
      exact wpAnyH_takes hs hQ hS ps listed l1 a hl1 (fun a1 h1 => wpAnyH_of_held hs hQ s l1 a1 w hB hS h1) h
  | (ps, some i) :: s, listed, a, w, hB, hS, h => by
    simp only [heldB] at hB
    split at hB
    · simp at hB
    · rename_i l1 hl1
      simp only [Bool.and_eq_true, decide_eq_true_eq] at hB
      refine wpAnyH_takes hs hQ hS ps listed l1 a hl1 (fun a1 h1 => ?_) h
      have hi : i ∈ Region.ready md l.toArray l1 := by rw [hB.1]; simp
      obtain ⟨_, o, ho, _⟩ := mem_ready.1 hi
      have ho' : l[i]? = some o := by simpa using ho
      rw [pickOps_cons ho'] at h1
      simp only [pickOps, wpList] at h1
      refine wpAnyH_all hB.1 (by simp) fun j hj => ?_
      simp at hj; subst hj
      unfold wpOp
      simp only [ho]
      split
      · rename_i hw
        simp only [hw, if_true] at h1
        rcases h1 with h1 | ⟨h1, a0, w0, h2⟩
        · refine .inl ?_
          unfold Oper.wp at h1 ⊢
          generalize (execOp a1.eval o).run P w = r at *
          cases r with
          | ok n w' =>
            cases n <;> simp only [Oper.upon] at h1 ⊢
            case value u => exact ⟨h1.1, wpAnyH_of_held hs hQ s _ _ _ hB.2 h1.1 h1.2⟩
            case skip => exact ⟨h1.1, wpAnyH_of_held hs hQ s _ _ _ hB.2 h1.1 h1.2⟩
            case defer d => exact ⟨h1.1, wpAnyH_of_held hs hQ s _ _ _ hB.2 h1.1 h1.2⟩
            case enter f args =>
              refine Calls.mono h1 fun e w'' he => ?_
              cases e with
              | returned u => exact ⟨he.1, wpAnyH_of_held hs hQ s _ _ _ hB.2 he.1 he.2⟩
              | panicked c => exact he
              | outgrown => obtain ⟨x, y, hxy⟩ := he; exact ⟨x, y, hxy⟩
            case row row args => exact Rows.mono h1 fun u w'' he => ⟨he.1, wpAnyH_of_held hs hQ s _ _ _ hB.2 he.1 he.2⟩
          | halt x w' =>
            cases x <;> simp only [Oper.upon] at h1 ⊢
            case panic u => exact h1
        · exact .inr ⟨h1, a0, w0, h2⟩
      · rename_i hw
        simp only [hw] at h1
        exact ⟨h1.1, wpAnyH_of_held hs hQ s _ _ _ hB.2 h1.1 h1.2⟩

/-- The region, in parts. -/
theorem wp_region_parts {id : Nat} {a : Act} {w : World} {l : List Oper} (S : World → Prop) (s : List (List Nat × Option Nat)) (hm : P.follows .mixedOrders = true)
    (hB : (Region.noSelect l.toArray && heldB .any l.toArray s (Array.replicate l.toArray.size false) && decide (countOf s = l.toArray.size)) = true)
    (hQ : ∀ c a d v w, Q (.panic c) (a.put d v) w → Q (.panic c) a w) (hS : S { w with drawn := w.drawn + 1 }) (h : wpHeld P l S Q s a { w with drawn := w.drawn + 1 }) :
    (Code.region id l.toArray true).wp P Q a w := by
  simp only [Bool.and_eq_true, decide_eq_true_eq] at hB
  obtain ⟨⟨h1, h2⟩, h3⟩ := hB
  refine wp_region_held (S := S) hm ?_
  rw [← h3]
  have := wpAnyH_of_held (P := P) (S := S) (Q := Q) h1 hQ s _ a _ h2 hS h
  rw [h3] at this ⊢
  exact this

end
end Go.Proofs.YtfndeocebpoeeaaDoor
