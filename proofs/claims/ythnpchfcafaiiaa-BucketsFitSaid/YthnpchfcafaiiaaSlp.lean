/- Plain: in windows that slide each point is as often as it lies in windows. -/
import Derived.Test.YthnpchfcafaiiaaWdp
namespace Go.Proofs.Ythnpchfcafaiiaa
open Go.RowKit Go.Lib Go.Sort

def sumN (m : List (Int × Ag)) : Int := (m.map (fun p => p.2.n)).sum
def sumS (m : List (Int × Ag)) : Int := (m.map (fun p => p.2.s)).sum
theorem sumN_perm {a b : List (Int × Ag)} (h : a.Perm b) : sumN a = sumN b := by
  induction h with
  | nil => rfl
  | cons x _ ih => simp only [sumN, List.map_cons, List.sum_cons] at ih ⊢; rw [ih]
  | swap x y l => simp only [sumN, List.map_cons, List.sum_cons]; omega
  | trans _ _ i1 i2 => rw [i1, i2]
theorem sumS_perm {a b : List (Int × Ag)} (h : a.Perm b) : sumS a = sumS b := by
  induction h with
  | nil => rfl
  | cons x _ ih => simp only [sumS, List.map_cons, List.sum_cons] at ih ⊢; rw [ih]
  | swap x y l => simp only [sumS, List.map_cons, List.sum_cons]; omega
  | trans _ _ i1 i2 => rw [i1, i2]
/-- All have points. -/
def allN (m : List (Int × Ag)) : Prop := ∀ p ∈ m, 1 ≤ p.2.n
theorem sum_aput {m : List (Int × Ag)} (z : Int) (g : Ag) : sumN (aput m z g) = sumN m - ((aget m z).getD Ag.zero).n + g.n ∧ sumS (aput m z g) = sumS m - ((aget m z).getD Ag.zero).s + g.s := by
  induction m with
  | nil => simp [aput, aget, sumN, sumS, Ag.zero]
  | cons q m ih =>
    obtain ⟨q1, q2⟩ := q
    simp only [aput, aget]
    split
    · simp [sumN, sumS]; omega
    · obtain ⟨i1, i2⟩ := ih
      simp only [sumN, sumS, List.map_cons, List.sum_cons] at i1 i2 ⊢
      omega
theorem agM_n (g a : Ag) : (agM g a).n = g.n + a.n := by unfold agM; split <;> simp_all
theorem agM_s {g a : Ag} (h : g.n = 0 → g.s = 0) : (agM g a).s = g.s + a.s := by
  unfold agM
  split
  · rename_i h0; rw [h h0]; omega
  · rfl
theorem sum_putG {m : List (Int × Ag)} (hm : allN m) (a : Ag) (z : Int) : sumN (putG m a z) = sumN m + a.n ∧ sumS (putG m a z) = sumS m + a.s := by
  have h := sum_aput (m := m) z (agM ((aget m z).getD Ag.zero) a)
  have hz : ((aget m z).getD Ag.zero).n = 0 → ((aget m z).getD Ag.zero).s = 0 := by
    cases hg : aget m z with
    | none => intro _; rfl
    | some g =>
      intro h0
      have := hm (z, g) (aget_mem hg)
      simp at h0 this
      omega
  rw [agM_n, agM_s hz] at h
  unfold putG
  omega
theorem allN_putL {a : Ag} (ha : 1 ≤ a.n) (l : List (Int × Int)) (m : List (Int × Ag)) (h : allN m) : allN (putL m a l) :=
  putL_all (R := fun _ g => 1 ≤ g.n) l m h (fun x _ g hg => by rw [agM_n]; rcases hg with rfl | hg <;> (try simp only [Ag.zero]) <;> omega)
theorem sum_putL {a : Ag} (ha : 1 ≤ a.n) : ∀ (l : List (Int × Int)) (m : List (Int × Ag)), allN m → sumN (putL m a l) = sumN m + l.length * a.n ∧ sumS (putL m a l) = sumS m + l.length * a.s
  | [], m, h => by simp [putL]
  | x :: l, m, h => by
    have h1 := sum_putG h a x.1
    have h2 : allN (putG m a x.1) := allN_putL ha [x] m h
    have h3 := sum_putL ha l (putG m a x.1) h2
    have e : putL m a (x :: l) = putL (putG m a x.1) a l := rfl
    rw [e, h3.1, h3.2, h1.1, h1.2]
    simp only [List.length_cons, Int.natCast_add, Int.natCast_one, Int.add_mul, Int.one_mul]
    omega
theorem gatL_allN {wd st off : Int} (l : List Pt) : allN (gatL wd st off l) :=
  gatL_all (R := fun _ g => 1 ≤ g.n) l (fun p _ x _ g hg => by rw [agM_n]; rcases hg with rfl | hg <;> (try simp only [Ag.zero, agOf]) <;> omega)
theorem sumN_take (m : List (Int × Ag)) (k : Nat) (h : ∀ p ∈ m, 0 ≤ p.2.n) : 0 ≤ sumN (m.take k) ∧ sumN (m.take k) ≤ sumN m := by
  induction m generalizing k with
  | nil => simp [sumN]
  | cons q m ih =>
    have h1 := h q List.mem_cons_self
    have h2 := fun k => ih k (fun p hp => h p (List.mem_cons_of_mem _ hp))
    cases k with
    | zero =>
      have := (h2 m.length)
      rw [List.take_length] at this
      simp only [sumN, List.take_zero, List.map_nil, List.sum_nil, List.map_cons, List.sum_cons] at this ⊢
      omega
    | succ k =>
      have := h2 k
      simp only [sumN, List.take_succ_cons, List.map_cons, List.sum_cons] at this ⊢
      omega
theorem sumS_take (m : List (Int × Ag)) (k : Nat) (h : ∀ p ∈ m, 0 ≤ p.2.s) : 0 ≤ sumS (m.take k) ∧ sumS (m.take k) ≤ sumS m := by
  induction m generalizing k with
  | nil => simp [sumS]
  | cons q m ih =>
    have h1 := h q List.mem_cons_self
    have h2 := fun k => ih k (fun p hp => h p (List.mem_cons_of_mem _ hp))
    cases k with
    | zero =>
      have := (h2 m.length)
      rw [List.take_length] at this
      simp only [sumS, List.take_zero, List.map_nil, List.sum_nil, List.map_cons, List.sum_cons] at this ⊢
      omega
    | succ k =>
      have := h2 k
      simp only [sumS, List.take_succ_cons, List.map_cons, List.sum_cons] at this ⊢
      omega
theorem sum_take_succ {m : List (Int × Ag)} {k : Nat} {q : Int × Ag} (h : m[k]? = some q) : sumN (m.take (k + 1)) = sumN (m.take k) + q.2.n ∧ sumS (m.take (k + 1)) = sumS (m.take k) + q.2.s := by
  rw [List.take_add_one, h]
  simp [sumN, sumS]

/-- Where each time is in N windows. -/
theorem sum_gatL {wd st off : Int} {N : Nat} (hN : ∀ t, winN wd st off t = N) (l : List Pt) : sumN (gatL wd st off l) = N * l.length ∧ sumS (gatL wd st off l) = N * (l.map (·.v)).sum := by
  refine snoc_ind (P := fun l => sumN (gatL wd st off l) = N * l.length ∧ sumS (gatL wd st off l) = N * (l.map (·.v)).sum) (by simp [gatL, sumN, sumS]) ?_ l
  intro l p ⟨i1, i2⟩
  rw [gatL_snoc]
  have h := sum_putL (a := agOf p) (by simp [agOf]) (winL wd st off p.t) (gatL wd st off l) (gatL_allN l)
  rw [winL_len, hN, i1, i2] at h
  rw [h.1, h.2]
  have e1 : (agOf p).n = 1 := rfl
  have e2 : (agOf p).s = p.v := rfl
  rw [e1, e2]
  simp only [List.map_append, List.map_cons, List.map_nil, List.sum_append, List.sum_cons, List.sum_nil, List.length_append, List.length_cons, List.length_nil, Int.natCast_add, Int.natCast_one, Int.mul_add]
  simp
end Go.Proofs.Ythnpchfcafaiiaa
