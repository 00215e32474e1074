/- slices.SortStableFunc, slices.Clone at buckets. -/
import Derived.Test.YtokllgdbmnmieaaGreatSy5
import Derived.Test.YtokllgdbmnmieaaGreatWdc
namespace Go.Proofs.YtokllgdbmnmieaaGreat
open Go.RowKit Go.Lib Go.Sort

/-- A bucket whose From is not too great. -/
abbrev BkS := { b : Bk // -2305843009213693952 ≤ b.lo ∧ b.lo ≤ 2305843009213693952 }
instance : Inhabited BkS := ⟨⟨⟨0, 0, Ag.zero⟩, by decide⟩⟩
def bksc (b : BkS) : List Value := bkc b.val
def cmpS (x y : BkS) : Int := x.val.lo - y.val.lo
theorem ltOf_cmpS (x y : BkS) : ltOf cmpS x y = decide (x.val.lo < y.val.lo) := by
  unfold ltOf cmpS
  rw [decide_eq_decide]
  omega
theorem cmpS_swo : SWO (ltOf cmpS) := by
  refine ⟨fun x => ?_, fun x y z h1 h2 => ?_, fun x y z h1 h2 => ?_⟩
  · rw [ltOf_cmpS]; simp
  · rw [ltOf_cmpS] at *
    simp only [decide_eq_true_eq] at *
    omega
  · rw [ltOf_cmpS] at *
    simp only [decide_eq_false_iff_not] at *
    omega

set_option maxHeartbeats 2000000 in
set_option maxRecDepth 100000 in
theorem scmp_any (x y : BkS) (w : World) : Calls Tryz.prog 22 #[.agg (bksc x).toArray, .agg (bksc y).toArray] w fun e w' => e = .returned (.int .i64 (cmpS x y)) ∧ ∃ q os', w' = grow (w.drewN q) os' := by
  obtain ⟨⟨xl, xh, xa⟩, hx⟩ := x
  obtain ⟨⟨yl, yh, ya⟩, hy⟩ := y
  unfold cmpS bksc bkc
  simp only at hx hy ⊢
  obtain ⟨x1, x2⟩ := hx
  obtain ⟨y1, y2⟩ := hy
  go_enter Tryz.func22, Tryz.ntmps22
  go_wp2_with fail
  go_ret
  exact ⟨rfl, 0, _, alloc2_grow w _ _⟩
theorem scmp_lays (w : World) (blk off size : Nat) : CmpLays Tryz.prog 22 #[] bksc 13 cmpS blk off size w := by
  intro m os dk _ x y
  exact scmp_any x y _

theorem bks_sub : ∀ L : List Bk, (∀ b ∈ L, -2305843009213693952 ≤ b.lo ∧ b.lo ≤ 2305843009213693952) → ∃ S : List BkS, S.map (·.val) = L
  | [], _ => ⟨[], rfl⟩
  | b :: L, h => by
    obtain ⟨S, hS⟩ := bks_sub L (fun c hc => h c (by simp [hc]))
    exact ⟨⟨b, h b (by simp)⟩ :: S, by simp [hS]⟩

/-- A nil slice is sorted. -/
theorem insNil_any (fv : Value) (w : World) : Calls Tryz.prog 67 #[.slice none 0 0, .int .i64 0, .int .i64 0, fv] w fun e w' => e = .returned (.tuple #[]) ∧ w = w' := by
  go_enter Tryz.func67, Tryz.ntmps67
  go_wp2_with fail
  go_loopw [8] (fun s8 wr => s8 = .int .i64 1 ∧ wr = w) (fun _ _ => 0)
  case atStart => exact ⟨rfl, rfl⟩
  case round =>
    obtain ⟨rfl, hwr⟩ := hrel
    subst hwr
    go_wp2_with fail
    go_end0
    exact ⟨rfl, rfl⟩

set_option maxHeartbeats 1000000 in
theorem stableNil_any (fv : Value) (w : World) : Calls Tryz.prog 39 #[.slice none 0 0, .int .i64 0, fv] w fun e w' => e = .returned (.tuple #[]) ∧ w = w' := by
  go_enter Tryz.func39, Tryz.ntmps39
  go_wp2_with fail
  go_loopw [7, 8] (fun s7 s8 wr => s7 = .int .i64 0 ∧ s8 = .int .i64 20 ∧ wr = w) (fun _ _ _ => 0)
  case atStart => exact ⟨rfl, rfl, rfl⟩
  case round =>
    obtain ⟨rfl, rfl, hwr⟩ := hrel
    subst hwr
    go_wp2_with fail
    refine (insNil_any _ _).mono ?_
    rintro e w1 ⟨rfl, rfl⟩
    go_wp2_with fail
    go_loopw [6] (fun s6 wr2 => s6 = .int .i64 20 ∧ wr2 = wr) (fun _ _ => 0)
    case atStart => exact ⟨rfl, rfl⟩
    case round =>
      obtain ⟨rfl, hwr2⟩ := hrel
      subst hwr2
      go_wp2_with fail
      go_end0
      exact ⟨rfl, rfl⟩

set_option maxHeartbeats 2000000 in
set_option maxRecDepth 100000 in
/-- Buckets, sorted by their From. -/
theorem bsort_any {w0 w : World} {v : Value} {L : List Bk} (hm : MadeTo w0 77 13 v L.length (bks L) w) (hb : ∀ b ∈ L, -2305843009213693952 ≤ b.lo ∧ b.lo ≤ 2305843009213693952) (hlen : L.length ≤ 1000000) :
    Calls Tryz.prog 21 #[v, .func (.func 22) #[] #[]] w fun e w' => e = .returned (.tuple #[]) ∧ ∃ M : List Bk, M.Perm L ∧ (M.map (·.lo)).Pairwise (· ≤ ·) ∧ MadeTo w0 77 13 v M.length (bks M) w' := by
  rcases hm.row.2 with ⟨rfl, h0⟩ | ⟨g', cap, cur, rfl, hbase, hbk, h1, h2, h3, h4⟩
  · have HM := Lib.hid hm
    have HL : Hid (L = []) := Lib.hid (List.length_eq_zero_iff.1 h0)
    clear hm hb
    go_enter Tryz.func21, Tryz.ntmps21
    go_wp2_with fail
    refine (stableNil_any _ _).mono ?_
    rintro e w1 ⟨rfl, rfl⟩
    go_wp2_with fail
    go_end0
    exact ⟨rfl, L, List.Perm.refl _, by rw [HL.out]; exact List.Pairwise.nil, HM.out⟩
  · obtain ⟨S, hS⟩ := bks_sub L hb
    have hSl : S.length = L.length := by rw [← hS]; simp
    have hfm : S.flatMap bksc = bks L := by rw [← hS]; unfold bks; rw [List.flatMap_map]; rfl
    have hsize : S.toArray.size = L.length := by simp [hSl]
    have hlenE : ∀ x : BkS, (bksc x).length = 13 := fun x => bkc_len x.val
    have hH : HoldsK bksc 13 w g' 0 S.toArray := holds_row (cap := cap) hlenE (by decide) hbk hSl (by rw [hfm]; exact h4)
    have C : SyC 13 bksc cmpS 22 #[] g' 0 S.toArray w :=
      { aE := Tryz.isAgg77
        zE := Tryz.sizeOf77
        eg := fun args w => by simp [go_sem]
        cmp := scmp_lays _ _ _ _
        R := ⟨hlenE, fun x => bkc_one x.val, hH, block_lt hbk⟩
        hsz := by rw [hsize]; omega
        swo := cmpS_swo }
    have HST := Lib.hid (stable_any C cap L.length hsize.symm (by omega) S.toArray w rfl (SWK.start hH))
    have HEND : Hid (∀ w', (∃ d', PermIn 0 L.length S.toArray d' ∧ SortedIn (ltOf cmpS) 0 L.length d' ∧ SWK bksc 13 w g' 0 d' w') → ∃ M : List Bk, M.Perm L ∧ (M.map (·.lo)).Pairwise (· ≤ ·) ∧ MadeTo w0 77 13 (.slice (some ⟨g', 0, none⟩) L.length cap) M.length (bks M) w') := Lib.hid (by
      rintro w' ⟨d', hperm, hsorted, m', os, rfl⟩
      have hd : d'.size = L.length := by rw [hperm.1, hsize]
      have hpl : d'.toList.Perm S := by
        have h5 := hperm.2.2
        rw [show d'.extract 0 L.length = d' by rw [← hd]; simp] at h5
        rw [show S.toArray.extract 0 L.length = S.toArray by simp [List.take_of_length_le, hSl]] at h5
        exact h5
      refine ⟨d'.toList.map (·.val), ?_, ?_, ?_⟩
      · rw [← hS]; exact hpl.map _
      · rw [List.map_map]
        refine List.Pairwise.map _ (R := fun x y : BkS => x.val.lo ≤ y.val.lo) (fun _ _ h => h) ?_
        rw [List.pairwise_iff_getElem]
        intro i j hi hj hij
        have h5 := hsorted i j (Nat.zero_le _) hij (by rw [← hd]; simpa using hj)
        rw [ltOf_cmpS, getElem!_pos d' i (by simpa using hi), getElem!_pos d' j (by simpa using hj)] at h5
        simp only [decide_eq_false_iff_not, Int.not_lt] at h5
        simpa using h5
      · have hbm : bks (d'.toList.map (·.val)) = d'.toList.flatMap bksc := by unfold bks; rw [List.flatMap_map]; rfl
        rw [hbm]
        simp only [List.length_map, Array.length_toList]
        rw [hd]
        have hrow := row_sortedK (enc := bksc) (m := m') (os := os) hlenE (by decide) hd hbk h1 h2 h3
        refine ⟨hrow, hm.own, ?_⟩
        have hc := grown_sortedK (enc := bksc) (s := 13) (w := w) (g := g') (n := m') (os := os) d'
        exact ((Chg.of_ext (S := fun _ => False) hm.ext).trans hc (fun i hi e => by have := hm.own g' rfl; omega)).ext (fun _ _ e => e))
    clear C hH hm hb hbk h1 h2 h3 h4 hS hSl hfm hsize hbase
    go_enter Tryz.func21, Tryz.ntmps21
    go_wp2_with fail
    refine HST.out.mono ?_
    rintro e w1 ⟨rfl, hd⟩
    have HD := Lib.hid (HEND.out w1 hd)
    clear hd
    go_wp2_with fail
    go_end0
    exact ⟨rfl, HD.out⟩

theorem append_nil_run {P : Program} (w : World) (t ty e : TypeId) (i : TypeInfo) (ht : P.underlying t = some (.slice e)) (hi : P.info? e = some i) (base a : Option Addr) (c : Nat) :
    (Builtin.append_ #[t, t] ty #[.slice base 0 0, .slice a 0 c]).run P w = .ok (.slice base 0 0) w := by
  cases base <;> cases a <;> simp [Builtin.append_, run_underlying ht, sizeOf, typeInfo, hi, storeCells, go_sem]

theorem eqNil_none (W : World) : (binOp .eql 46 (.slice none 0 0) (.slice none 0 0)).run Tryz.prog W = .ok (.bool true) W := by kernel_rfl
theorem eqNil_some (ad : Addr) (n c : Nat) (W : World) : (binOp .eql 46 (.slice (some ad) n c) (.slice none 0 0)).run Tryz.prog W = .ok (.bool false) W := by kernel_rfl

set_option maxHeartbeats 2000000 in
set_option maxRecDepth 100000 in
theorem bclone_any (w : World) (a : Option Addr) (n c : Nat) (L : List Bk) (hs : Src w 13 (.slice a n c) n (bks L)) (hn : n ≤ 1000000) :
    Calls Tryz.prog 19 #[.slice a n c] w fun e w' => ∃ v, e = .returned v ∧ MadeTo w 77 13 v n (bks L) w' := by
  have HL := Lib.hid (enc_src_len bkc_len (by decide) hs)
  have HS := Lib.hid hs
  cases a with
  | none =>
    have hz : n = 0 ∧ c = 0 := by
      rcases hs with ⟨h, h2, _⟩ | ⟨ad, c', h, _⟩
      · simp at h; exact ⟨h.1, h.2⟩
      · simp at h
    obtain ⟨rfl, rfl⟩ := hz
    clear hs
    have hq := fun W => eqNil_none W
    go_enter Tryz.func19, Tryz.ntmps19
    go_wp2_with fail
    go_ret
    rw [List.eq_nil_of_length_eq_zero HL.out]
    exact ⟨_, rfl, ⟨Row.nil _ _ _, by simp [Value.ownBlock], Ext.refl _⟩⟩
  | some ad =>
    clear hs
    have hq := fun W => eqNil_some ad n c W
    rcases Nat.eq_zero_or_pos n with hn0 | hn0
    · subst hn0
      have HL0 : Hid (L = []) := Lib.hid (List.eq_nil_of_length_eq_zero HL.out)
      obtain ⟨i0, z0, hi0, hz0, _⟩ := elem_bk.info
      have HA := Lib.hid (fun W base => append_nil_run W 46 46 77 i0 Tryz.underlying46 hi0 base (some ad) c)
      clear hi0 hz0
      go_enter Tryz.func19, Tryz.ntmps19
      go_wp2_with (at_builtin; go_must (refine wpList_append_run rfl _ _ 46 rfl _ _ _ _ rfl rfl (HA.out _ _) ?_))
      go_ret
      rw [HL0.out]
      refine ⟨_, rfl, ⟨⟨by simp [bks], .inr ⟨_, 0, #[], rfl, Nat.zero_le _, heap_alloc_new w _, Nat.le_refl _, by unfold maxLen; omega, by simp, by simp [bks]⟩⟩, fun g hg => ?_, (Ext.refl w).alloc _⟩⟩
      simp [Value.ownBlock] at hg
      omega
    · go_enter Tryz.func19, Tryz.ntmps19
      go_wp2_with (at_builtin; go_must (refine wpList_append_start (xs := []) elem_bk rfl _ _ rfl rfl rfl (.inr ⟨_, rfl, .inr ⟨_, _, rfl, rfl, fun j u h => by simp at h, fun u h => by simp at h⟩⟩) ((Ext.refl w).alloc _) (HS.out.ext ((Ext.refl _).alloc _)) hn0 (by unfold maxLen; omega) (by omega) ?_; intro v' w4 hmade); have HM := Lib.hid hmade; obtain ⟨va', vc', rfl⟩ := hmade.row.shape; clear hmade)
      go_ret
      refine ⟨_, rfl, ?_⟩
      have := HM.out
      simpa using this
end Go.Proofs.YtokllgdbmnmieaaGreat
