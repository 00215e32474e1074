/- BucketsFit: the small buckets fit. -/
import Derived.Test.YthnpchfcafaiiaaJoi
import Derived.Test.YthnpchfcafaiiaaFta
import Derived.Test.YthnpchfcafaiiaaRfv
import Derived.Test.YthnpchfcafaiiaaSeb
namespace Go.Proofs.Ythnpchfcafaiiaa
open Go.RowKit Go.Lib Go.Sort

theorem spans_rise {st : Int} (h : 1 ≤ st) (n : Nat) (a wd : Int) : (spansL n a wd st).Pairwise (fun x y => x.1 < y.1) := by
  unfold spansL
  rw [List.pairwise_map]
  refine List.pairwise_lt_range.imp (fun {i j} hij => ?_)
  have h1 : ((i : Int) + 1) * st ≤ (j : Int) * st := Int.mul_le_mul_of_nonneg_right (by omega) (by omega)
  rw [Int.add_mul, Int.one_mul] at h1
  show a + (i : Int) * st < a + (j : Int) * st
  omega
theorem spans_unique (A B : List (Int × Int)) (h1 : A.Pairwise (fun x y => x.1 < y.1)) (h2 : B.Pairwise (fun x y => x.1 < y.1)) (h : ∀ q, q ∈ A ↔ q ∈ B) : A = B :=
  pairs_unique A B (List.pairwise_map.2 h1) (List.pairwise_map.2 h2) h

theorem small_fits {wi W S O : Int} (H : Kinds wi W S O) {l : List Pt} (hl : l.length ≤ 60) (hp : ∀ p ∈ l, -9223372036854775808 ≤ p.v ∧ p.v ≤ 9223372036854775807) (ht : ∀ p ∈ l, -1152921504606846912 ≤ p.t ∧ p.t ≤ 1152921504606846912) {B : List Bk} (hB : SmallB wi l B) :
    (∀ b ∈ B, FitsB W S O b ∧ b.a.bnd 60) ∧ B.Pairwise (fun a b => a.hi ≤ b.lo) := by
  have hv := window_nums H.win
  have hw1 := H.w1
  have hw2 := H.w2
  refine ⟨fun b hb => ?_, ?_⟩
  · obtain ⟨h1, h2, h3, h4⟩ := hB.lo b hb
    have hsub : ∀ p ∈ l.filter (fun p => inW wi wi 0 b.lo p.t), p ∈ l := fun p hp => (List.mem_filter.1 hp).1
    have hlen := List.length_filter_le (fun p : Pt => inW wi wi 0 b.lo p.t) l
    obtain ⟨p, hpm⟩ := List.exists_mem_of_ne_nil _ h4
    have hin := (List.mem_filter.1 hpm).2
    have hpt := ht p (hsub p hpm)
    unfold inW at hin
    simp only [Bool.and_eq_true, decide_eq_true_eq] at hin
    refine ⟨⟨by rw [h3]; exact agA_had _ h4 (by omega) (fun q hq => hp q (hsub q hq)), ?_, ?_, ?_, by omega, ?_⟩, by rw [h3]; exact (agA_bnd _ (fun q hq => hp q (hsub q hq))).mono (by omega)⟩
    · unfold timeB; simp only [Bool.and_eq_true, decide_eq_true_eq]; omega
    · unfold timeB; simp only [Bool.and_eq_true, decide_eq_true_eq]; omega
    · unfold timeB; simp only [Bool.and_eq_true, decide_eq_true_eq]; omega
    · have hsame : ∀ z, inW W S O z b.lo = inW W S O z (b.hi - 1) := fun z => inW_mul H.w1 H.mS H.mO H.mW hv.2.2.1 h1 (by unfold inW; simp only [Bool.and_eq_true, decide_eq_true_eq]; refine ⟨⟨by rw [h1]; simp, by omega⟩, by omega⟩)
      have hkeys : ∀ z, z ∈ (winL W S O b.lo).map (·.1) ↔ z ∈ (winL W S O (b.hi - 1)).map (·.1) := fun z => by
        have e1 := inW_mem (wd := W) (st := S) (off := O) (z := z) (t := b.lo) hv.2.2.1 hv.2.2.2.1
        have e2 := inW_mem (wd := W) (st := S) (off := O) (z := z) (t := b.hi - 1) hv.2.2.1 hv.2.2.2.1
        rw [hsame z, ← e2] at e1
        simpa using e1
      have hpw : ∀ t, (winL W S O t).Pairwise (fun a b => a.1 < b.1) := fun t => by
        have hst := hv.2.2.1
        unfold winL
        exact spans_rise hst _ _ _
      have hmem : ∀ t x, x ∈ winL W S O t → x.2 = x.1 + W := fun t x hx => ((mem_winL hv.2.2.1 hv.2.2.2.1).1 hx).2.2.2
      refine spans_unique _ _ (hpw _) (hpw _) (fun x => ?_)
      constructor
      · intro hx
        obtain ⟨y, hy, e⟩ := List.mem_map.1 ((hkeys x.1).1 (List.mem_map.2 ⟨x, hx, rfl⟩))
        have a1 := hmem _ _ hx
        have a2 := hmem _ _ hy
        have : y = x := Prod.ext e (by rw [a1, a2, e])
        rw [← this]; exact hy
      · intro hx
        obtain ⟨y, hy, e⟩ := List.mem_map.1 ((hkeys x.1).2 (List.mem_map.2 ⟨x, hx, rfl⟩))
        have a1 := hmem _ _ hx
        have a2 := hmem _ _ hy
        have : y = x := Prod.ext e (by rw [a1, a2, e])
        rw [← this]; exact hy
  · refine (List.pairwise_iff_forall_sublist.2 fun {a b} hs => ?_)
    have hr := List.pairwise_iff_forall_sublist.1 hB.rise hs
    obtain ⟨h1, h2, _⟩ := hB.lo a (hs.subset (by simp))
    obtain ⟨h3, _⟩ := hB.lo b (hs.subset (by simp))
    obtain ⟨x, hx⟩ := Int.dvd_of_emod_eq_zero h1
    obtain ⟨y, hy⟩ := Int.dvd_of_emod_eq_zero h3
    have h5 : wi * x < wi * y := by rw [← hx, ← hy]; exact hr
    have h6 : x < y := Int.lt_of_mul_lt_mul_left h5 (by omega)
    have h7 : wi * (x + 1) ≤ wi * y := Int.mul_le_mul_of_nonneg_left (by omega) (by omega)
    rw [Int.mul_add, ← hx, ← hy] at h7
    omega
end Go.Proofs.Ythnpchfcafaiiaa
