/- gathered.buckets: the windows of the map, sorted by their From. -/
import Derived.Test.YthnpchfcafaiiaaBcm
import Derived.Test.YthnpchfcafaiiaaShelf2
namespace Go.Proofs.Ythnpchfcafaiiaa
open Go.RowKit Go.Lib Go.Sort

/-- A row of the windows of a map, rising. -/
def WinsTo (w : World) (wd : Int) (m : List (Int × Ag)) (v : Value) (w' : World) : Prop :=
  ∃ ds : List (Int × Ag), ds.Perm m ∧ (ds.map (·.1)).Pairwise (· ≤ ·) ∧ MadeTo w 50 13 v ds.length (bks (ds.map (bkOf wd))) w'

theorem buckets_any {w : World} {g mb : Nat} {wd st off : Int} {m : List (Int × Ag)} (hg : GatAt w g mb wd st off m) (hv : windowB wd st off = true) (hm : ∀ p ∈ m, -2305843009213693952 ≤ p.1 ∧ p.1 ≤ 2305843009213693952) (hlen : m.length ≤ 70000) :
    Calls Try.prog 19 #[.pointer (some ⟨g, 0, none⟩)] w fun e w' => ∃ v, e = .returned v ∧ WinsTo w wd m v w' := by
  refine buckets_upto hg hv hm hlen (WinsTo w wd m) (fun dn v wr hp hmd => ?_)
  have hln : dn.length ≤ 70000 := by rw [hp.length_eq]; exact hlen
  rcases hmd.row.2 with ⟨rfl, h0⟩ | ⟨g', cap, cur, rfl, hbase, hb, h1, h2, h3, h4⟩
  · have hnil : dn = [] := List.length_eq_zero_iff.1 h0
    subst hnil
    refine (AnyF.slices_SortFunc_none Try.sortBk none 0 _ wr).mono ?_
    rintro e w' ⟨rfl, rfl⟩
    exact ⟨rfl, [], hp, List.Pairwise.nil, hmd⟩
  · have hsize : (dn.map (bkOf wd)).toArray.size = dn.length := by simp
    have hH : HoldsK bkc 13 wr g' 0 (dn.map (bkOf wd)).toArray := holds_row (cap := cap) bkc_len (by decide) hb (by simp) h4
    have eg : ∀ args w, (callFunc 34 args).run Try.prog w = .ok (.enter 34 args) w := fun args w => by simp [go_sem]
    have key := AnyQ.slices_SortFunc Try.sortBk 13 Try.isAgg50 Try.sizeOf50 bkc bkc_len bkc_one cmpB cmpB_swo 34 #[] g' 0 cap (dn.map (bkOf wd)).toArray wr eg (bcmp_lays _ _ _ _) hH (block_lt hb) (by rw [hsize]; omega)
    rw [hsize] at key
    refine Calls.mono key ?_
    rintro e w' ⟨rfl, d', m', os, hperm, hsorted, rfl⟩
    have hd : d'.size = dn.length := by rw [hperm.1, hsize]
    have hpl : d'.toList.Perm (dn.map (bkOf wd)) := by
      have h5 := hperm.2.2
      rw [show d'.extract 0 dn.length = d' by rw [← hd]; simp] at h5
      rw [show (dn.map (bkOf wd)).toArray.extract 0 dn.length = (dn.map (bkOf wd)).toArray by simp [List.take_of_length_le]] at h5
      exact h5
    have hmap : (d'.toList.map (fun b : Bk => (b.lo, b.a))).map (bkOf wd) = d'.toList := by
      rw [List.map_map]
      conv => rhs; rw [← List.map_id d'.toList]
      refine List.map_congr_left (fun b hb => ?_)
      obtain ⟨p, _, rfl⟩ := List.mem_map.1 (hpl.subset hb)
      rfl
    have hds : (d'.toList.map (fun b : Bk => (b.lo, b.a))).Perm m := by
      refine (hpl.map _).trans ?_
      rw [List.map_map]
      refine List.Perm.trans ?_ hp
      have : dn.map ((fun b : Bk => (b.lo, b.a)) ∘ bkOf wd) = dn := by
        conv => rhs; rw [← List.map_id dn]
        rfl
      rw [this]
    refine ⟨rfl, d'.toList.map (fun b : Bk => (b.lo, b.a)), hds, ?_, ?_⟩
    · rw [List.map_map]
      refine List.Pairwise.map _ (R := fun x y : Bk => x.lo ≤ y.lo) (fun _ _ h => h) ?_
      rw [List.pairwise_iff_getElem]
      intro i j hi hj hij
      have h5 := hsorted i j (Nat.zero_le _) hij (by rw [← hd]; simpa using hj)
      rw [ltOf_cmpB, getElem!_pos d' i (by simpa using hi), getElem!_pos d' j (by simpa using hj)] at h5
      simp only [decide_eq_false_iff_not, Int.not_lt] at h5
      simpa using h5
    · rw [hmap]
      simp only [List.length_map, Array.length_toList]
      rw [hd]
      have hrow := row_sortedK (enc := bkc) (m := m') (os := os) bkc_len (by decide) hd hb h1 h2 h3
      refine ⟨hrow, hmd.own, ?_⟩
      have hc := grown_sortedK (enc := bkc) (s := 13) (w := wr) (g := g') (n := m') (os := os) d'
      exact ((Chg.of_ext (S := fun _ => False) hmd.ext).trans hc (fun i hi e => by have := hmd.own g' rfl; omega)).ext (fun _ _ e => e)
end Go.Proofs.Ythnpchfcafaiiaa
