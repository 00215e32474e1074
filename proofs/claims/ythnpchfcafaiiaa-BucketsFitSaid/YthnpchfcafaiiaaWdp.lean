/- Plain: which windows have a time; what is gathered of points. -/
import Derived.Test.YthnpchfcafaiiaaGat
namespace Go.Proofs.Ythnpchfcafaiiaa
open Go.RowKit Go.Lib Go.Sort

theorem snoc_ind {α : Type} {P : List α → Prop} (h0 : P []) (h1 : ∀ l a, P l → P (l ++ [a])) (l : List α) : P l := by
  have h : ∀ r : List α, P r.reverse := by
    intro r
    induction r with
    | nil => exact h0
    | cons a r ih => rw [List.reverse_cons]; exact h1 _ _ ih
  have := h l.reverse
  rwa [List.reverse_reverse] at this

/-- The windows that have a time. -/
theorem mem_winL {wd st off t : Int} (h1 : 1 ≤ st) (h2 : st ≤ wd) {x : Int × Int} : x ∈ winL wd st off t ↔ x.1 % st = off % st ∧ t - wd < x.1 ∧ x.1 ≤ t ∧ x.2 = x.1 + wd := by
  have e1 := lastF_eq st off t
  have e2 := firstF_eq wd st off t
  have q1 := Int.mul_ediv_self_le (x := t - off) (k := st) (by omega)
  have q2 := Int.lt_mul_ediv_self_add (x := t - off) (k := st) (by omega)
  have q3 := Int.mul_ediv_self_le (x := t - wd - off) (k := st) (by omega)
  have q4 := Int.lt_mul_ediv_self_add (x := t - wd - off) (k := st) (by omega)
  obtain ⟨B, hB⟩ : ∃ B, B = (t - off) / st := ⟨_, rfl⟩
  obtain ⟨A, hA⟩ : ∃ A, A = (t - wd - off) / st := ⟨_, rfl⟩
  rw [← hB] at e1 q1 q2
  rw [← hA] at e2 q3 q4
  have hAB : A + 1 ≤ B := by
    have : st * A + st < st * B + st := by omega
    have h3 : st * (A + 1) < st * (B + 1) := by rw [Int.mul_add, Int.mul_add]; omega
    have := Int.lt_of_mul_lt_mul_left h3 (by omega)
    omega
  have hN : winN wd st off t = (B - A - 1).toNat + 1 := by
    unfold winN
    rw [e1, e2]
    have : ((off + st * B - (off + st * A + st)) : Int) = (B - A - 1) * st := by rw [Int.sub_mul, Int.sub_mul, Int.mul_comm B, Int.mul_comm A]; omega
    rw [this, Int.mul_ediv_cancel _ (by omega)]
  unfold winL spansL
  rw [hN, e2]
  simp only [List.mem_map, List.mem_range]
  constructor
  · rintro ⟨i, hi, rfl⟩
    simp only
    have hi2 : (i : Int) ≤ B - A - 1 := by omega
    have e3 : off + st * A + st + (i : Int) * st = off + st * (A + 1 + i) := by rw [Int.mul_add, Int.mul_add, Int.mul_comm st (i : Int)]; omega
    have m1 : st * (A + 1) ≤ st * (A + 1 + i) := Int.mul_le_mul_of_nonneg_left (by omega) (by omega)
    have m2 : st * (A + 1 + i) ≤ st * B := Int.mul_le_mul_of_nonneg_left (by omega) (by omega)
    rw [Int.mul_add, Int.mul_one] at m1
    rw [e3]
    exact ⟨by rw [Int.add_mul_emod_self_left], by omega, by omega, trivial⟩
  · rintro ⟨g1, g2, g3, g4⟩
    have g5 : (x.1 - off) % st = 0 := Int.emod_eq_emod_iff_emod_sub_eq_zero.1 g1
    obtain ⟨c, hc⟩ : ∃ c, x.1 - off = st * c := Int.dvd_of_emod_eq_zero g5
    have c1 : A < c := Int.lt_of_mul_lt_mul_left (a := st) (by omega) (by omega)
    have c2 : c < B + 1 := Int.lt_of_mul_lt_mul_left (a := st) (by rw [Int.mul_add, Int.mul_one]; omega) (by omega)
    refine ⟨(c - A - 1).toNat, by omega, ?_⟩
    have e3 : (((c - A - 1).toNat : Nat) : Int) = c - A - 1 := by omega
    have e4 : off + st * A + st + (c - A - 1) * st = off + st * c := by rw [Int.sub_mul, Int.sub_mul, Int.mul_comm c, Int.mul_comm A]; omega
    rw [e3, e4, ← hc]
    apply Prod.ext
    · simp only; omega
    · simp only; omega
theorem winL_nodup {wd st off t : Int} (h1 : 1 ≤ st) : ((winL wd st off t).map (·.1)).Nodup := by
  unfold winL spansL
  rw [List.map_map]
  refine List.Pairwise.map _ ?_ List.nodup_range
  intro i j hij he
  simp only [Function.comp] at he
  have h3 : (i : Int) * st = (j : Int) * st := by omega
  have := Int.eq_of_mul_eq_mul_right (by omega) h3
  exact hij (by omega)
/-- Width is so many steps: each time is in so many windows. -/
theorem winN_parts {st off t : Int} {p : Nat} (h1 : 1 ≤ st) (hp : 1 ≤ p) : winN ((p : Int) * st) st off t = p := by
  have e1 := Int.mul_emod_left (p : Int) st
  have e2 : (t - (p : Int) * st - off) % st = (t - off) % st := by
    rw [show t - (p : Int) * st - off = (t - off) - (p : Int) * st by omega, Int.sub_mul_emod_self_right]
  unfold winN firstF lastF
  rw [e2]
  have e3 : t - (t - off) % st - (t - (p : Int) * st - (t - off) % st + st) = ((p : Int) - 1) * st := by
    rw [Int.sub_mul]; omega
  rw [e3, Int.mul_ediv_cancel _ (by omega)]
  omega

/-- What is gathered of points. -/
def gatL (wd st off : Int) (l : List Pt) : List (Int × Ag) := l.foldl (fun m p => putL m (agOf p) (winL wd st off p.t)) []
theorem gatL_snoc (wd st off : Int) (l : List Pt) (p : Pt) : gatL wd st off (l ++ [p]) = putL (gatL wd st off l) (agOf p) (winL wd st off p.t) := by simp [gatL]
theorem agOf_bnd {p : Pt} (h1 : -9223372036854775808 ≤ p.v) (h2 : p.v ≤ 9223372036854775807) : (agOf p).bnd 1 := by
  unfold Ag.bnd agOf
  simp only
  omega

/-- Everything that holds of a map into which is put. -/
theorem putL_all {R : Int → Ag → Prop} {a : Ag} : ∀ (l : List (Int × Int)) (m : List (Int × Ag)), (∀ p ∈ m, R p.1 p.2) → (∀ x ∈ l, ∀ g, (g = Ag.zero ∨ R x.1 g) → R x.1 (agM g a)) → ∀ p ∈ putL m a l, R p.1 p.2
  | [], m, h, _ => by simpa [putL] using h
  | x :: l, m, h, hs => by
    refine putL_all l (putG m a x.1) (fun p hp => ?_) (fun y hy g hg => hs y (List.mem_cons_of_mem _ hy) g hg)
    rcases mem_aput hp with h1 | h1
    · exact h p h1
    · rw [h1]
      refine hs x List.mem_cons_self _ ?_
      cases hg : aget m x.1 with
      | none => exact .inl rfl
      | some g => exact .inr (h (x.1, g) (aget_mem hg))
theorem gatL_all {wd st off : Int} {R : Int → Ag → Prop} : ∀ (l : List Pt) , (∀ p ∈ l, ∀ x ∈ winL wd st off p.t, ∀ g, (g = Ag.zero ∨ R x.1 g) → R x.1 (agM g (agOf p))) → ∀ q ∈ gatL wd st off l, R q.1 q.2 := by
  refine snoc_ind (by intro _ q hq; simp [gatL] at hq) ?_
  intro l p ih
  intro h q hq
  rw [gatL_snoc] at hq
  exact putL_all _ _ (ih (fun p' hp' => h p' (List.mem_append_left _ hp'))) (h p (by simp)) q hq

theorem gatL_bnd {wd st off : Int} (hv : windowB wd st off = true) : ∀ (l : List Pt), (∀ p ∈ l, -9223372036854775808 ≤ p.v ∧ p.v ≤ 9223372036854775807) → ∀ q ∈ gatL wd st off l, q.2.bnd (64 * l.length) := by
  refine snoc_ind (by intro _ q hq; simp [gatL] at hq) ?_
  intro l p ih
  intro h q hq
  rw [gatL_snoc] at hq
  have h1 := h p (by simp)
  have h2 := putL_bnd (agOf_bnd h1.1 h1.2) (winL wd st off p.t) _ (64 * l.length) (ih (fun p' hp' => h p' (List.mem_append_left _ hp'))) q hq
  have h3 := winN_le (t := p.t) hv
  rw [winL_len] at h2
  exact h2.mono (by simp; omega)
theorem gatL_len {wd st off : Int} (hv : windowB wd st off = true) : ∀ (l : List Pt), (gatL wd st off l).length ≤ 64 * l.length := by
  refine snoc_ind (by simp [gatL]) ?_
  intro l p ih
  rw [gatL_snoc]
  have h2 := putL_len (a := agOf p) (winL wd st off p.t) (gatL wd st off l)
  have h3 := winN_le (t := p.t) hv
  rw [winL_len] at h2
  simp
  omega
/-- Keys are Froms of windows that have a time of a point. -/
theorem gatL_keys {wd st off : Int} (l : List Pt) : ∀ q ∈ gatL wd st off l, ∃ p ∈ l, ∃ x ∈ winL wd st off p.t, x.1 = q.1 :=
  gatL_all (R := fun z _ => ∃ p ∈ l, ∃ x ∈ winL wd st off p.t, x.1 = z) l (fun p hp x hx _ _ => ⟨p, hp, x, hx, rfl⟩)
theorem aput_nodup {m : List (Int × Ag)} (h : (m.map (·.1)).Nodup) (z : Int) (g : Ag) : ((aput m z g).map (·.1)).Nodup := by
  by_cases he : aget m z = none
  · rw [aput_new g he, List.map_append]
    rw [List.nodup_append]
    refine ⟨h, by simp, ?_⟩
    intro a ha b hb
    simp at hb
    rw [hb]
    rintro rfl
    exact aget_none_iff.1 he ha
  · rw [aput_keys_old g he]; exact h
theorem putL_nodup {a : Ag} : ∀ (l : List (Int × Int)) (m : List (Int × Ag)), (m.map (·.1)).Nodup → ((putL m a l).map (·.1)).Nodup
  | [], m, h => by simpa [putL] using h
  | x :: l, m, h => putL_nodup l (putG m a x.1) (aput_nodup h _ _)
theorem gatL_nodup {wd st off : Int} : ∀ (l : List Pt), ((gatL wd st off l).map (·.1)).Nodup := by
  refine snoc_ind (by simp [gatL]) ?_
  intro l p ih
  rw [gatL_snoc]; exact putL_nodup _ _ ih
end Go.Proofs.Ythnpchfcafaiiaa
