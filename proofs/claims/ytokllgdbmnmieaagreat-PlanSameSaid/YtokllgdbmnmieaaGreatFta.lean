/- BucketsFit: what the small buckets are, plain. -/
import Derived.Test.YtokllgdbmnmieaaGreatFtp
import Derived.Test.YtokllgdbmnmieaaGreatVal
namespace Go.Proofs.YtokllgdbmnmieaaGreat
open Go.RowKit Go.Lib Go.Sort

theorem ptf_take (l : List Pt) (k : Nat) : (pts l).take (k * 3) = pts (l.take k) := by
  induction k generalizing l with
  | zero => simp [pts]
  | succ k ih =>
    cases l with
    | nil => simp [pts]
    | cons p l =>
      rw [show (k + 1) * 3 = k * 3 + 3 by omega]
      simpa [pts, Pt.cells] using ih l
theorem psrc_fit {w : World} {a : Option Addr} {n c k : Nat} {l : List Pt} (h : Src w 3 (.slice a n c) n (pts l)) (hk : k ≤ n) (h0 : 0 < n) : Src w 3 (.slice a k c) k (pts (l.take k)) := by
  have hl := src_len h
  rcases h with ⟨e, e0, _⟩ | ⟨ad, c', e, _, h2, h3⟩
  · omega
  · cases e
    refine .inr ⟨ad, c, rfl, by rw [pts_len]; simp; omega, fun j u hj => ?_, pts_one _⟩
    rw [← ptf_take, List.getElem?_take] at hj
    split at hj
    · exact h2 j u hj
    · cases hj

/-- What points have. -/
theorem agA_had (l : List Pt) (h0 : l ≠ []) (hl : l.length ≤ 1000000) (hp : ∀ p ∈ l, -9223372036854775808 ≤ p.v ∧ p.v ≤ 9223372036854775807) : Had (agA l) := by
  have key : ∀ l : List Pt, l ≠ [] → (∀ p ∈ l, -9223372036854775808 ≤ p.v ∧ p.v ≤ 9223372036854775807) →
      (agA l).n = l.length ∧ -9223372036854775808 ≤ (agA l).mn ∧ (agA l).mn ≤ (agA l).mx ∧ (agA l).mx ≤ 9223372036854775807 ∧ (agA l).mn ≤ (agA l).f.v ∧ (agA l).f.v ≤ (agA l).mx ∧ (agA l).mn ≤ (agA l).l.v ∧ (agA l).l.v ≤ (agA l).mx ∧
      ¬ ordI (agA l).l (agA l).f < 0 ∧ (agA l).mn * l.length ≤ (agA l).s ∧ (agA l).s ≤ (agA l).mx * l.length ∧ (1 < l.length ∨ ((agA l).f = (agA l).l ∧ (agA l).mn = (agA l).mx)) := by
    intro l
    refine snoc_ind (P := fun l => l ≠ [] → (∀ p ∈ l, -9223372036854775808 ≤ p.v ∧ p.v ≤ 9223372036854775807) →
      (agA l).n = l.length ∧ -9223372036854775808 ≤ (agA l).mn ∧ (agA l).mn ≤ (agA l).mx ∧ (agA l).mx ≤ 9223372036854775807 ∧ (agA l).mn ≤ (agA l).f.v ∧ (agA l).f.v ≤ (agA l).mx ∧ (agA l).mn ≤ (agA l).l.v ∧ (agA l).l.v ≤ (agA l).mx ∧
      ¬ ordI (agA l).l (agA l).f < 0 ∧ (agA l).mn * l.length ≤ (agA l).s ∧ (agA l).s ≤ (agA l).mx * l.length ∧ (1 < l.length ∨ ((agA l).f = (agA l).l ∧ (agA l).mn = (agA l).mx))) (fun h => absurd rfl h) (fun l p ih _ hp => ?_) l
    have hpp := hp p (by simp)
    by_cases he : l = []
    · subst he
      have e : agA ([] ++ [p]) = agOf p := agA_one p
      rw [e]
      have hn : ¬ ordI p p < 0 := by rw [ordI_neg]; omega
      simp [agOf]
      exact ⟨by omega, by omega, by omega⟩
    · obtain ⟨i0, i1, i2, i3, i4, i5, i6, i7, i8, i9, i10, _⟩ := ih he (fun q hq => hp q (by simp [hq]))
      have hlen : 1 ≤ l.length := List.length_pos_iff.2 he
      rw [agA_snoc, agM_pos (by rw [i0]; omega)]
      obtain ⟨G, hG⟩ : ∃ G, G = agA l := ⟨_, rfl⟩
      rw [← hG] at i0 i1 i2 i3 i4 i5 i6 i7 i8 i9 i10 ⊢
      have e1 : (agP G (agOf p)).n = G.n + 1 := rfl
      have e2 : (agP G (agOf p)).s = G.s + p.v := rfl
      have e3 : (agP G (agOf p)).mn = min G.mn p.v := rfl
      have e4 : (agP G (agOf p)).mx = max G.mx p.v := rfl
      have e5 : (agP G (agOf p)).f = fstP G.f p := rfl
      have e6 : (agP G (agOf p)).l = lstP G.l p := rfl
      rw [e1, e2, e3, e4, e5, e6]
      have hf : fstP G.f p = G.f ∨ fstP G.f p = p := by unfold fstP; split <;> simp
      have hl : lstP G.l p = G.l ∨ lstP G.l p = p := by unfold lstP; split <;> simp
      have hfv : (fstP G.f p).v = G.f.v ∨ (fstP G.f p).v = p.v := by rcases hf with h | h <;> rw [h] <;> simp
      have hlv : (lstP G.l p).v = G.l.v ∨ (lstP G.l p).v = p.v := by rcases hl with h | h <;> rw [h] <;> simp
      have m1 : min G.mn p.v * (l.length : Int) ≤ G.mn * (l.length : Int) := Int.mul_le_mul_of_nonneg_right (by omega) (by omega)
      have m2 : G.mx * (l.length : Int) ≤ max G.mx p.v * (l.length : Int) := Int.mul_le_mul_of_nonneg_right (by omega) (by omega)
      have hcast : ((l ++ [p]).length : Int) = (l.length : Int) + 1 := by simp
      rw [hcast, Int.mul_add, Int.mul_add, Int.mul_one, Int.mul_one]
      refine ⟨by omega, by omega, by omega, by omega, by omega, by omega, by omega, by omega, ?_, by omega, by omega, .inl (by simp; omega)⟩
      rw [ordI_neg] at i8 ⊢
      have a1 := ordI_neg p G.f
      have a2 := ordI_pos p G.l
      have hfc : (fstP G.f p = p ∧ ordI p G.f < 0) ∨ (fstP G.f p = G.f ∧ ¬ ordI p G.f < 0) := by
        unfold fstP; by_cases h : ordI p G.f < 0 <;> simp [h]
      have hlc : (lstP G.l p = p ∧ 0 < ordI p G.l) ∨ (lstP G.l p = G.l ∧ ¬ 0 < ordI p G.l) := by
        unfold lstP; by_cases h : 0 < ordI p G.l <;> simp [h]
      rcases hfc with ⟨h1, h2⟩ | ⟨h1, h2⟩ <;> rcases hlc with ⟨h3, h4⟩ | ⟨h3, h4⟩ <;> rw [h1, h3] <;> rw [a1] at h2 <;> rw [a2] at h4 <;> omega
  obtain ⟨i0, i1, i2, i3, i4, i5, i6, i7, i8, i9, i10, i11⟩ := key l h0 hp
  have h1 : 1 ≤ l.length := List.length_pos_iff.2 h0
  exact ⟨by omega, by omega, i1, i2, i3, i4, i5, i6, i7, i8, by rw [i0]; exact i9, by rw [i0]; exact i10, i11.elim (fun h => .inl (by omega)) .inr⟩

theorem gatL_len1 {wd st off : Int} (hN : ∀ t, winN wd st off t = 1) : ∀ (l : List Pt), (gatL wd st off l).length ≤ l.length := by
  intro l
  refine snoc_ind (P := fun l => (gatL wd st off l).length ≤ l.length) (by simp [gatL]) (fun l p ih => ?_) l
  rw [gatL_snoc]
  have h1 := putL_len (a := agOf p) (winL wd st off p.t) (gatL wd st off l)
  have h2 := winL_len wd st off p.t
  rw [hN] at h2
  rw [List.length_append]
  simp
  omega

/-- Pairs that rise and have the same ones are the same. -/
theorem pairs_unique {β : Type} : ∀ (A B : List (Int × β)), (A.map (·.1)).Pairwise (· < ·) → (B.map (·.1)).Pairwise (· < ·) → (∀ q, q ∈ A ↔ q ∈ B) → A = B
  | [], [], _, _, _ => rfl
  | [], b :: B, _, _, h => by have := (h b).2 List.mem_cons_self; simp at this
  | a :: A, [], _, _, h => by have := (h a).1 List.mem_cons_self; simp at this
  | a :: A, b :: B, hA, hB, h => by
    obtain ⟨a1, a2⟩ := List.pairwise_cons.1 hA
    obtain ⟨b1, b2⟩ := List.pairwise_cons.1 hB
    have a1' : ∀ q ∈ A, a.1 < q.1 := fun q hq => a1 q.1 (List.mem_map.2 ⟨q, hq, rfl⟩)
    have b1' : ∀ q ∈ B, b.1 < q.1 := fun q hq => b1 q.1 (List.mem_map.2 ⟨q, hq, rfl⟩)
    have hab : a = b := by
      rcases List.mem_cons.1 ((h a).1 List.mem_cons_self) with e | e
      · exact e
      · rcases List.mem_cons.1 ((h b).2 List.mem_cons_self) with e2 | e2
        · exact e2.symm
        · have := b1' _ e; have := a1' _ e2; omega
    subst hab
    rw [pairs_unique A B a2 b2 (fun c => ?_)]
    constructor
    · intro hc
      rcases List.mem_cons.1 ((h c).1 (List.mem_cons_of_mem _ hc)) with e | e
      · subst e; have := a1' _ hc; omega
      · exact e
    · intro hc
      rcases List.mem_cons.1 ((h c).2 (List.mem_cons_of_mem _ hc)) with e | e
      · subst e; have := b1' _ hc; omega
      · exact e
theorem wins_unique {m1 m2 d1 d2 : List (Int × Ag)} (n1 : (m1.map (·.1)).Nodup) (n2 : (m2.map (·.1)).Nodup) (p1 : d1.Perm m1) (p2 : d2.Perm m2) (s1 : (d1.map (·.1)).Pairwise (· ≤ ·)) (s2 : (d2.map (·.1)).Pairwise (· ≤ ·))
    (h : ∀ z, aget m1 z = aget m2 z) : d1 = d2 := by
  have t1 : (d1.map (·.1)).Pairwise (· < ·) := (s1.and ((p1.map _).nodup_iff.2 n1)).imp (fun h => by omega)
  have t2 : (d2.map (·.1)).Pairwise (· < ·) := (s2.and ((p2.map _).nodup_iff.2 n2)).imp (fun h => by omega)
  refine pairs_unique d1 d2 t1 t2 (fun q => ?_)
  obtain ⟨z, g⟩ := q
  rw [p1.mem_iff, p2.mem_iff]
  constructor
  · intro hq
    have := aget_of_mem n1 hq
    rw [h] at this
    exact aget_mem this
  · intro hq
    have := aget_of_mem n2 hq
    rw [← h] at this
    exact aget_mem this

/-- The windows that the law asks for. -/
structure Kinds (wi W S O : Int) : Prop where
  w1 : 1 ≤ wi
  w2 : wi ≤ 16
  win : windowB W S O = true
  mW : W % wi = 0
  mS : S % wi = 0
  mO : O % wi = 0

end Go.Proofs.YtokllgdbmnmieaaGreat
