/- Plain: points in small buckets, and these in windows that fit them, are the points in the windows. -/
import Derived.Test.YthnpchfcafaiiaaWdp
import Derived.Test.YthnpchfcafaiiaaSsp
namespace Go.Proofs.Ythnpchfcafaiiaa
open Go.RowKit Go.Lib Go.Sort

theorem ordI_neg (p q : Pt) : ordI p q < 0 ↔ (p.t < q.t ∨ (p.t = q.t ∧ (p.s < q.s ∨ (p.s = q.s ∧ p.v < q.v)))) := by
  unfold ordI orL orL orL orL cmpI
  split <;> split <;> (try split) <;> (try split) <;> omega
theorem ordI_pos (p q : Pt) : 0 < ordI p q ↔ (q.t < p.t ∨ (p.t = q.t ∧ (q.s < p.s ∨ (p.s = q.s ∧ q.v < p.v)))) := by
  unfold ordI orL orL orL orL cmpI
  split <;> split <;> (try split) <;> (try split) <;> omega

/-- The first one of two, the last one. -/
def fstP (a b : Pt) : Pt := if ordI b a < 0 then b else a
def lstP (a b : Pt) : Pt := if 0 < ordI b a then b else a
theorem pt_ext {a b : Pt} (h1 : a.t = b.t) (h2 : a.v = b.v) (h3 : a.s = b.s) : a = b := by
  cases a; cases b; simp_all
theorem fstP_comm (a b : Pt) : fstP a b = fstP b a := by
  unfold fstP
  have h1 := ordI_neg a b
  have h2 := ordI_neg b a
  by_cases ha : ordI a b < 0
  · rw [if_pos ha, if_neg (by rw [h2]; have := h1.1 ha; omega)]
  · by_cases hb : ordI b a < 0
    · rw [if_pos hb, if_neg ha]
    · rw [if_neg ha, if_neg hb]
      rw [h1] at ha
      rw [h2] at hb
      exact pt_ext (by omega) (by omega) (by omega)
theorem lstP_comm (a b : Pt) : lstP a b = lstP b a := by
  unfold lstP
  have h1 := ordI_pos a b
  have h2 := ordI_pos b a
  by_cases ha : 0 < ordI a b
  · rw [if_pos ha, if_neg (by rw [h2]; have := h1.1 ha; omega)]
  · by_cases hb : 0 < ordI b a
    · rw [if_pos hb, if_neg ha]
    · rw [if_neg ha, if_neg hb]
      rw [h1] at ha
      rw [h2] at hb
      exact pt_ext (by omega) (by omega) (by omega)
theorem fstP_assoc (a b c : Pt) : fstP (fstP a b) c = fstP a (fstP b c) := by
  unfold fstP
  have e1 := ordI_neg b a
  have e2 := ordI_neg c a
  have e3 := ordI_neg c b
  by_cases h1 : ordI b a < 0 <;> by_cases h2 : ordI c b < 0 <;> by_cases h3 : ordI c a < 0 <;> simp [h1, h2, h3]
  all_goals (exfalso; simp only [h1, h2, h3] at e1 e2 e3; simp at e1 e2 e3; omega)
theorem lstP_assoc (a b c : Pt) : lstP (lstP a b) c = lstP a (lstP b c) := by
  unfold lstP
  have e1 := ordI_pos b a
  have e2 := ordI_pos c a
  have e3 := ordI_pos c b
  by_cases h1 : 0 < ordI b a <;> by_cases h2 : 0 < ordI c b <;> by_cases h3 : 0 < ordI c a <;> simp [h1, h2, h3]
  all_goals (exfalso; simp only [h1, h2, h3] at e1 e2 e3; simp at e1 e2 e3; omega)

/-- Two that both have points. -/
def agP (a b : Ag) : Ag := ⟨a.n + b.n, a.s + b.s, min a.mn b.mn, max a.mx b.mx, fstP a.f b.f, lstP a.l b.l⟩
theorem agM_pos {a b : Ag} (h : 1 ≤ a.n) : agM a b = agP a b := by unfold agM agP fstP lstP; rw [if_neg (by omega)]
theorem agM_nil {a b : Ag} (h : a.n = 0) : agM a b = b := by unfold agM; rw [if_pos h]
theorem agP_comm (a b : Ag) : agP a b = agP b a := by
  unfold agP
  rw [Int.add_comm a.n, Int.add_comm a.s, Int.min_comm a.mn, Int.max_comm a.mx, fstP_comm a.f, lstP_comm a.l]
theorem agP_assoc (a b c : Ag) : agP (agP a b) c = agP a (agP b c) := by
  unfold agP
  simp only [Int.add_assoc, fstP_assoc, lstP_assoc]
  congr 1
  · omega
  · omega

theorem agA_one (p : Pt) : agA [p] = agOf p := by simp [agA, agM, Ag.zero]
theorem agA_pos (l : List Pt) (h : l ≠ []) : 1 ≤ (agA l).n := by
  have := (agA_ends l h).1
  have h2 : 0 < l.length := List.length_pos_iff.2 h
  omega
theorem agA_append (x y : List Pt) (hy : y ≠ []) : agA (x ++ y) = agM (agA x) (agA y) := by
  revert hy
  refine snoc_ind (P := fun y => y ≠ [] → agA (x ++ y) = agM (agA x) (agA y)) (fun h => absurd rfl h) (fun y p ih _ => ?_) y
  rw [← List.append_assoc, agA_snoc, agA_snoc]
  by_cases hy : y = []
  · subst hy
    rw [List.append_nil]
    have e : agM (agA []) (agOf p) = agOf p := by simp [agA, agM, Ag.zero]
    rw [e]
  · rw [ih hy]
    have h2 := agA_pos y hy
    by_cases hx : x = []
    · subst hx
      have h0 : (agA []).n = 0 := rfl
      rw [agM_nil h0, agM_nil h0]
    · have h1 := agA_pos x hx
      rw [agM_pos h1, agM_pos h1, agM_pos h2, agM_pos (by unfold agP; simp only; omega), agP_assoc]
theorem agA_perm {x y : List Pt} (h : x.Perm y) : agA x = agA y := by
  induction h with
  | nil => rfl
  | cons a h ih =>
    rename_i l1 l2
    by_cases he : l1 = []
    · subst he; rw [h.nil_eq]
    · have he2 : l2 ≠ [] := fun e => he (by subst e; exact h.eq_nil)
      rw [show a :: l1 = [a] ++ l1 from rfl, show a :: l2 = [a] ++ l2 from rfl, agA_append _ _ he, agA_append _ _ he2, ih]
  | swap a b l =>
    have e : agA [b, a] = agA [a, b] := by
      rw [show [b, a] = [b] ++ [a] from rfl, show [a, b] = [a] ++ [b] from rfl, agA_append _ _ (by simp), agA_append _ _ (by simp), agA_one, agA_one, agM_pos (by simp [agOf]), agM_pos (by simp [agOf]), agP_comm]
    by_cases he : l = []
    · subst he; exact e
    · rw [show b :: a :: l = [b, a] ++ l from rfl, show a :: b :: l = [a, b] ++ l from rfl, agA_append _ _ he, agA_append _ _ he, e]
  | trans _ _ ih1 ih2 => exact ih1.trans ih2

/-! What is looked up in a map that was made so. -/
theorem putL_get {a : Ag} (z : Int) : ∀ (xs : List (Int × Int)) (m : List (Int × Ag)), (xs.map (·.1)).Nodup → aget (putL m a xs) z = if z ∈ xs.map (·.1) then some (agM ((aget m z).getD Ag.zero) a) else aget m z
  | [], m, _ => by simp [putL]
  | x :: xs, m, hn => by
    rw [List.map_cons, List.nodup_cons] at hn
    have e : putL m a (x :: xs) = putL (putG m a x.1) a xs := rfl
    rw [e, putL_get z xs _ hn.2]
    unfold putG
    by_cases hz : z = x.1
    · subst hz
      rw [if_neg hn.1, aget_put_same, if_pos (by simp)]
    · rw [aget_put_other _ _ hz]
      have e3 : (z ∈ (x :: xs).map (·.1)) ↔ z ∈ xs.map (·.1) := by rw [List.map_cons, List.mem_cons]; exact ⟨fun h => h.resolve_left hz, .inr⟩
      by_cases h4 : z ∈ xs.map (·.1)
      · rw [if_pos h4, if_pos (e3.2 h4)]
      · rw [if_neg h4, if_neg (fun h => h4 (e3.1 h))]
/-- Whatever is put: by what keys, with what. -/
def genL {α : Type} (K : α → List (Int × Int)) (A : α → Ag) (xs : List α) : List (Int × Ag) := xs.foldl (fun m x => putL m (A x) (K x)) []
theorem genL_snoc {α : Type} (K : α → List (Int × Int)) (A : α → Ag) (xs : List α) (x : α) : genL K A (xs ++ [x]) = putL (genL K A xs) (A x) (K x) := by simp [genL]
theorem genL_nodup {α : Type} (K : α → List (Int × Int)) (A : α → Ag) (xs : List α) : ((genL K A xs).map (·.1)).Nodup := by
  refine snoc_ind (P := fun xs => ((genL K A xs).map (·.1)).Nodup) (by simp [genL]) (fun xs x ih => ?_) xs
  rw [genL_snoc]
  exact putL_nodup _ _ ih
def foldA {α : Type} (A : α → Ag) (xs : List α) : Ag := xs.foldl (fun a x => agM a (A x)) Ag.zero
theorem genL_get {α : Type} (K : α → List (Int × Int)) (A : α → Ag) (hK : ∀ x, ((K x).map (·.1)).Nodup) (z : Int) (xs : List α) :
    aget (genL K A xs) z = if xs.filter (fun x => decide (z ∈ (K x).map (·.1))) = [] then none else some (foldA A (xs.filter (fun x => decide (z ∈ (K x).map (·.1))))) := by
  refine snoc_ind (P := fun xs => aget (genL K A xs) z = if xs.filter (fun x => decide (z ∈ (K x).map (·.1))) = [] then none else some (foldA A (xs.filter (fun x => decide (z ∈ (K x).map (·.1)))))) (by simp [genL, aget]) (fun xs x ih => ?_) xs
  rw [genL_snoc, putL_get z _ _ (hK x), List.filter_append]
  by_cases hz : z ∈ (K x).map (·.1)
  · rw [if_pos hz, List.filter_cons_of_pos (by simpa using hz), List.filter_nil, if_neg (by simp), ih]
    have e : foldA A (xs.filter (fun x => decide (z ∈ (K x).map (·.1))) ++ [x]) = agM (foldA A (xs.filter (fun x => decide (z ∈ (K x).map (·.1))))) (A x) := by simp [foldA]
    rw [e]
    split
    · rename_i h; rw [h]; rfl
    · rfl
  · rw [if_neg hz, List.filter_cons_of_neg (by simpa using hz), List.filter_nil, List.append_nil, ih]

theorem gatL_gen (wd st off : Int) (l : List Pt) : gatL wd st off l = genL (fun p : Pt => winL wd st off p.t) agOf l := rfl
def joinL (wd st off : Int) (B : List Bk) : List (Int × Ag) := genL (fun b : Bk => winL wd st off b.lo) (·.a) B
theorem foldA_agA (l : List Pt) : foldA agOf l = agA l := rfl

/-- Does a window from z on have a time? -/
def inW (wd st off z t : Int) : Bool := decide (z % st = off % st) && decide (t - wd < z) && decide (z ≤ t)
theorem inW_mem {wd st off z t : Int} (h1 : 1 ≤ st) (h2 : st ≤ wd) : decide (z ∈ (winL wd st off t).map (·.1)) = inW wd st off z t := by
  unfold inW
  rw [Bool.eq_iff_iff]
  simp only [decide_eq_true_eq, Bool.and_eq_true, List.mem_map]
  constructor
  · rintro ⟨x, hx, rfl⟩
    have := (mem_winL h1 h2).1 hx
    exact ⟨⟨this.1, this.2.1⟩, this.2.2.1⟩
  · rintro ⟨⟨h3, h4⟩, h5⟩
    exact ⟨(z, z + wd), (mem_winL h1 h2).2 ⟨h3, h4, h5, rfl⟩, rfl⟩

/-- The small buckets. -/
structure SmallB (wi : Int) (l : List Pt) (B : List Bk) : Prop where
  lo : ∀ b ∈ B, b.lo % wi = 0 ∧ b.hi = b.lo + wi ∧ b.a = agA (l.filter (fun p => inW wi wi 0 b.lo p.t)) ∧ l.filter (fun p => inW wi wi 0 b.lo p.t) ≠ []
  rise : B.Pairwise (fun a b => a.lo < b.lo)
  all : ∀ p ∈ l, ∃ b ∈ B, inW wi wi 0 b.lo p.t = true

theorem small_of {wi : Int} (hw : 1 ≤ wi) (l : List Pt) {ds : List (Int × Ag)} (hp : ds.Perm (gatL wi wi 0 l)) (hs : (ds.map (·.1)).Pairwise (· ≤ ·)) : SmallB wi l (ds.map (bkOf wi)) := by
  have hn : (ds.map (·.1)).Nodup := (hp.map _).nodup_iff.2 (gatL_nodup l)
  have hget : ∀ z, aget (gatL wi wi 0 l) z = if l.filter (fun p => inW wi wi 0 z p.t) = [] then none else some (agA (l.filter (fun p => inW wi wi 0 z p.t))) := fun z => by
    rw [gatL_gen, genL_get _ _ (fun p => winL_nodup (by omega))]
    have e : (fun x : Pt => decide (z ∈ (winL wi wi 0 x.t).map (·.1))) = fun p : Pt => inW wi wi 0 z p.t := by funext p; exact inW_mem hw (Int.le_refl _)
    rw [e, foldA_agA]
  refine ⟨fun b hb => ?_, ?_, fun p hp' => ?_⟩
  · obtain ⟨⟨z, g⟩, hq, rfl⟩ := List.mem_map.1 hb
    have hq' := hp.subset hq
    have h1 := aget_of_mem (gatL_nodup l) hq'
    rw [hget] at h1
    split at h1
    · cases h1
    · rename_i hne
      cases h1
      obtain ⟨p, hpl, x, hx, e⟩ := gatL_keys l _ hq'
      have h3 := (mem_winL hw (Int.le_refl _)).1 hx
      simp only at e
      refine ⟨?_, rfl, rfl, hne⟩
      simp only [bkOf]
      rw [← e]
      simpa using h3.1
  · have hlt : (ds.map (·.1)).Pairwise (· < ·) := (hs.and hn).imp (fun h => by omega)
    rw [List.pairwise_map] at hlt
    rw [List.pairwise_map]
    exact hlt
  · have h4 := Int.mul_ediv_self_le (x := p.t) (k := wi) (by omega)
    have h5 := Int.lt_mul_ediv_self_add (x := p.t) (k := wi) (by omega)
    have hin : inW wi wi 0 (wi * (p.t / wi)) p.t = true := by
      unfold inW
      simp only [Bool.and_eq_true, decide_eq_true_eq]
      refine ⟨⟨by simp, by omega⟩, by omega⟩
    have h6 := hget (wi * (p.t / wi))
    rw [if_neg (fun e => by
      have : p ∈ l.filter (fun p => inW wi wi 0 (wi * (p.t / wi)) p.t) := List.mem_filter.2 ⟨hp', hin⟩
      have h7 : p ∈ l.filter (fun q => inW wi wi 0 (wi * (p.t / wi)) q.t) := List.mem_filter.2 ⟨hp', hin⟩
      rw [e] at h7
      simp at h7)] at h6
    have h8 := hp.symm.subset (aget_mem h6)
    exact ⟨_, List.mem_map.2 ⟨_, h8, rfl⟩, hin⟩

theorem perm_or (P Q : Pt → Bool) : ∀ (l : List Pt), (∀ p ∈ l, P p = true → Q p = true → False) → (l.filter P ++ l.filter Q).Perm (l.filter (fun p => P p || Q p))
  | [], _ => by simp
  | p :: l, h => by
    have ih := perm_or P Q l (fun q hq => h q (List.mem_cons_of_mem _ hq))
    have hd := h p List.mem_cons_self
    by_cases h1 : P p = true
    · have h2 : ¬ Q p = true := fun e => hd h1 e
      rw [List.filter_cons_of_pos h1, List.filter_cons_of_neg h2, List.filter_cons_of_pos (by simp [h1])]
      exact ih.cons p
    · by_cases h2 : Q p = true
      · rw [List.filter_cons_of_neg h1, List.filter_cons_of_pos h2, List.filter_cons_of_pos (by simp [h2])]
        exact List.perm_middle.trans (ih.cons p)
      · rw [List.filter_cons_of_neg h1, List.filter_cons_of_neg h2, List.filter_cons_of_neg (by simp [h1, h2])]
        exact ih

/-- What the buckets of a window have together. -/
theorem fold_small {wi : Int} (l : List Pt) : ∀ (B : List Bk), (∀ b ∈ B, b.a = agA (l.filter (fun p => inW wi wi 0 b.lo p.t)) ∧ l.filter (fun p => inW wi wi 0 b.lo p.t) ≠ []) →
    B.Pairwise (fun a b => ∀ p ∈ l, inW wi wi 0 a.lo p.t = true → inW wi wi 0 b.lo p.t = true → False) →
    foldA (·.a) B = agA (l.filter (fun p => B.any (fun b => inW wi wi 0 b.lo p.t))) ∧ (B ≠ [] → l.filter (fun p => B.any (fun b => inW wi wi 0 b.lo p.t)) ≠ []) := by
  intro B
  refine snoc_ind (P := fun B => (∀ b ∈ B, b.a = agA (l.filter (fun p => inW wi wi 0 b.lo p.t)) ∧ l.filter (fun p => inW wi wi 0 b.lo p.t) ≠ []) →
    B.Pairwise (fun a b => ∀ p ∈ l, inW wi wi 0 a.lo p.t = true → inW wi wi 0 b.lo p.t = true → False) →
    foldA (·.a) B = agA (l.filter (fun p => B.any (fun b => inW wi wi 0 b.lo p.t))) ∧ (B ≠ [] → l.filter (fun p => B.any (fun b => inW wi wi 0 b.lo p.t)) ≠ [])) (fun _ _ => ⟨by rw [List.filter_eq_nil_iff.2 (by simp)]; rfl, fun h => absurd rfl h⟩) (fun B b ih h1 h2 => ?_) B
  rw [List.pairwise_append] at h2
  obtain ⟨i1, i2⟩ := ih (fun c hc => h1 c (by simp [hc])) h2.1
  obtain ⟨j1, j2⟩ := h1 b (by simp)
  have e : foldA (·.a) (B ++ [b]) = agM (foldA (·.a) B) b.a := by simp [foldA]
  have hper := perm_or (fun p => B.any (fun b => inW wi wi 0 b.lo p.t)) (fun p => inW wi wi 0 b.lo p.t) l (fun p hp k1 k2 => by
    rw [List.any_eq_true] at k1
    obtain ⟨c, hc, k1⟩ := k1
    exact h2.2.2 c hc b (by simp) p hp k1 k2)
  have ef : (fun p : Pt => (B ++ [b]).any (fun b => inW wi wi 0 b.lo p.t)) = fun p => (B.any (fun b => inW wi wi 0 b.lo p.t)) || inW wi wi 0 b.lo p.t := by funext p; simp
  rw [e, i1, j1, ef]
  refine ⟨?_, fun _ hn => ?_⟩
  · rw [← agA_append _ _ j2]
    exact agA_perm hper
  · rw [hn] at hper
    have := hper.eq_nil
    rw [List.append_eq_nil_iff] at this
    exact j2 this.2

theorem inW_mul {wi p st off z t : Int} (hw : 1 ≤ wi) (h1 : st % wi = 0) (h2 : off % wi = 0) (h3 : p % wi = 0) (hst : 1 ≤ st) {lo : Int} (hlo : lo % wi = 0) (hin : inW wi wi 0 lo t = true) : inW p st off z lo = inW p st off z t := by
  unfold inW at hin ⊢
  simp only [Bool.and_eq_true, decide_eq_true_eq] at hin
  rw [Bool.eq_iff_iff]
  simp only [Bool.and_eq_true, decide_eq_true_eq]
  have key : z % st = off % st → z % wi = 0 := fun h => by
    have e1 := Int.mul_ediv_add_emod z st
    have e2 := Int.mul_ediv_add_emod off st
    obtain ⟨c, hc⟩ := Int.dvd_of_emod_eq_zero h1
    obtain ⟨d, hd⟩ := Int.dvd_of_emod_eq_zero h2
    have hz : z = wi * (c * (z / st) - c * (off / st) + d) := by
      rw [Int.mul_add, Int.mul_sub, ← Int.mul_assoc, ← Int.mul_assoc, ← hc, ← hd]
      omega
    rw [hz]
    exact Int.mul_emod_right _ _
  obtain ⟨x, hx⟩ := Int.dvd_of_emod_eq_zero hlo
  obtain ⟨y, hy⟩ := Int.dvd_of_emod_eq_zero h3
  obtain ⟨⟨k1, k2⟩, k3⟩ := hin
  constructor
  · rintro ⟨⟨g1, g2⟩, g3⟩
    obtain ⟨u, hu⟩ := Int.dvd_of_emod_eq_zero (key g1)
    refine ⟨⟨g1, ?_⟩, by omega⟩
    have h5 : wi * x < wi * (u + y) := by rw [Int.mul_add, ← hx, ← hu, ← hy]; omega
    have h6 : x < u + y := Int.lt_of_mul_lt_mul_left h5 (by omega)
    have h7 : wi * (x + 1) ≤ wi * (u + y) := Int.mul_le_mul_of_nonneg_left (by omega) (by omega)
    rw [Int.mul_add, Int.mul_add, ← hx, ← hu, ← hy] at h7
    omega
  · rintro ⟨⟨g1, g2⟩, g3⟩
    obtain ⟨u, hu⟩ := Int.dvd_of_emod_eq_zero (key g1)
    refine ⟨⟨g1, by omega⟩, ?_⟩
    have h5 : wi * u < wi * (x + 1) := by rw [Int.mul_add, ← hx, ← hu]; omega
    have h6 : u < x + 1 := Int.lt_of_mul_lt_mul_left h5 (by omega)
    have h7 : wi * u ≤ wi * x := Int.mul_le_mul_of_nonneg_left (by omega) (by omega)
    rw [← hx, ← hu] at h7
    omega

/-- The law. -/
theorem join_same {wi wd st off : Int} (hw : 1 ≤ wi) (hv1 : 1 ≤ st) (hv2 : st ≤ wd) (h1 : st % wi = 0) (h2 : off % wi = 0) (h3 : wd % wi = 0) {l : List Pt} {B : List Bk} (H : SmallB wi l B) (z : Int) :
    aget (joinL wd st off B) z = aget (gatL wd st off l) z := by
  unfold joinL
  rw [gatL_gen, genL_get _ _ (fun p => winL_nodup (by omega)), genL_get _ _ (fun p => winL_nodup (by omega)), foldA_agA]
  have e1 : (fun x : Pt => decide (z ∈ (winL wd st off x.t).map (·.1))) = fun p : Pt => inW wd st off z p.t := by funext p; exact inW_mem hv1 hv2
  have e2 : (fun x : Bk => decide (z ∈ (winL wd st off x.lo).map (·.1))) = fun b : Bk => inW wd st off z b.lo := by funext p; exact inW_mem hv1 hv2
  rw [e1, e2]
  have hdis : ∀ a b : Bk, a ∈ B → b ∈ B → a.lo < b.lo → ∀ p ∈ l, inW wi wi 0 a.lo p.t = true → inW wi wi 0 b.lo p.t = true → False := fun a b ha hb hab p _ k1 k2 => by
    unfold inW at k1 k2
    simp only [Bool.and_eq_true, decide_eq_true_eq] at k1 k2
    obtain ⟨x, hx⟩ := Int.dvd_of_emod_eq_zero (H.lo a ha).1
    obtain ⟨y, hy⟩ := Int.dvd_of_emod_eq_zero (H.lo b hb).1
    have h5 : wi * x < wi * y := by rw [← hx, ← hy]; exact hab
    have h6 : x < y := Int.lt_of_mul_lt_mul_left h5 (by omega)
    have h7 : wi * (x + 1) ≤ wi * y := Int.mul_le_mul_of_nonneg_left (by omega) (by omega)
    rw [Int.mul_add, ← hx, ← hy] at h7
    omega
  obtain ⟨f1, f2⟩ := fold_small (wi := wi) l (B.filter (fun b => inW wd st off z b.lo)) (fun b hb => by have := H.lo b (List.mem_filter.1 hb).1; exact ⟨this.2.2.1, this.2.2.2⟩) (by
    have hpw : B.Pairwise (fun a b => a ∈ B ∧ b ∈ B ∧ a.lo < b.lo) := by
      refine (List.pairwise_iff_forall_sublist.2 fun {a b} hs => ?_)
      exact ⟨hs.subset (by simp), hs.subset (by simp), List.pairwise_iff_forall_sublist.1 H.rise hs⟩
    exact (hpw.filter _).imp (fun {a b} h => hdis a b h.1 h.2.1 h.2.2))
  have ef : l.filter (fun p => (B.filter (fun b => inW wd st off z b.lo)).any (fun b => inW wi wi 0 b.lo p.t)) = l.filter (fun p => inW wd st off z p.t) := by
    refine List.filter_congr (fun p hp => ?_)
    rw [Bool.eq_iff_iff, List.any_eq_true]
    constructor
    · rintro ⟨b, hb, hin⟩
      obtain ⟨hb1, hb2⟩ := List.mem_filter.1 hb
      rw [← inW_mul hw h1 h2 h3 hv1 (H.lo b hb1).1 hin]
      exact hb2
    · intro hz
      obtain ⟨b, hb, hin⟩ := H.all p hp
      refine ⟨b, List.mem_filter.2 ⟨hb, ?_⟩, hin⟩
      show inW wd st off z b.lo = true
      rw [inW_mul hw h1 h2 h3 hv1 (H.lo b hb).1 hin]
      exact hz
  rw [ef] at f1 f2
  rw [f1]
  by_cases hB : B.filter (fun b => inW wd st off z b.lo) = []
  · rw [if_pos hB, if_pos ?_]
    rw [← ef, hB]
    simp
  · rw [if_neg hB, if_neg (f2 hB)]
end Go.Proofs.Ythnpchfcafaiiaa
