/- Plain: files by rising names beside files in any order. -/
import Derived.Test.YtfablbhkmddnbaaDoorDiskC0
import Derived.Test.YtfablbhkmddnbaaDoorDiskF
import Derived.Sort.Walk0
namespace Go.Proofs.YtfablbhkmddnbaaDoor
open Go.RowKit Go.Sort Go.Lib

theorem rless_eq (a b : ByteArray) : Op.bytesLess a.toList b.toList = decide (bl a < bl b) := by
  rw [bytesLess_eq, ByteArray.toList_eq, ByteArray.toList_eq]
  rfl

abbrev Fs := List (ByteArray × FileS)
/-- The same files, by rising names. -/
structure SortF (D F : Fs) : Prop where
  perm : D.Perm F
  sort : (D.map (·.1)).Pairwise fun a b => bl a < bl b
theorem SortF.nodup {D F : Fs} (h : SortF D F) : (D.map (·.1)).Nodup := by
  refine h.sort.imp (fun {a b} hab e => ?_)
  subst e
  exact List.lt_irrefl _ hab
theorem SortF.nodupF {D F : Fs} (h : SortF D F) : (F.map (·.1)).Nodup := (h.perm.map _).nodup_iff.1 h.nodup
theorem SortF.get {D F : Fs} (h : SortF D F) (s : ByteArray) : aget D s = aget F s := by
  cases hx : aget D s with
  | none =>
    symm
    rw [aget_none_iff]
    rw [aget_none_iff] at hx
    exact fun hm => hx ((h.perm.map _).symm.subset hm)
  | some f => exact (aget_of_mem h.nodupF (h.perm.subset (aget_mem hx))).symm
theorem SortF.len {D F : Fs} (h : SortF D F) : D.length = F.length := h.perm.length_eq
theorem SortF.at {D F : Fs} (h : SortF D F) {k : Nat} {s : ByteArray} {f : FileS} (hk : D[k]? = some (s, f)) : aget F s = some f := by
  rw [← h.get]
  exact aget_of_mem h.nodup (List.mem_of_getElem? hk)
theorem SortF.none {D F : Fs} (h : SortF D F) {s : ByteArray} (hk : ∀ p ∈ D, p.1 ≠ s) : aget F s = none := by
  rw [← h.get, aget_none_iff]
  intro hm
  obtain ⟨p, hp, e⟩ := List.mem_map.1 hm
  exact hk p hp e
theorem sumF_perm {a b : Fs} (h : a.Perm b) : sumF a = sumF b := by
  unfold sumF
  exact (h.map _).sum_nat
theorem aputF_nodup {T : Fs} {k : ByteArray} {s : FileS} (h : (T.map (·.1)).Nodup) : ((aput T k s).map (·.1)).Nodup := by
  cases hx : aget T k with
  | none =>
    rw [aput_new s hx, List.map_append, List.nodup_append]
    refine ⟨h, by simp, fun a ha b hb e => ?_⟩
    simp at hb
    rw [aget_none_iff] at hx
    exact hx (by rw [← hb, ← e]; exact ha)
  | some u => rw [aput_keys_old s (by rw [hx]; simp)]; exact h
theorem nodup_of_keys {T : Fs} (h : (T.map (·.1)).Nodup) : T.Nodup := by
  rw [List.nodup_iff_pairwise_ne, List.pairwise_map] at h
  rw [List.nodup_iff_pairwise_ne]
  exact h.imp (fun hab e => hab (by rw [e]))
theorem aput_perm_set : ∀ {D : Fs} {k : Nat} {s : ByteArray} {f0 f : FileS}, (D.map (·.1)).Nodup → D[k]? = some (s, f0) → D.set k (s, f) = aput D s f
  | [], k, s, f0, f, _, h => by simp at h
  | p :: D, 0, s, f0, f, _, h => by
    simp at h; subst h
    simp [aput]
  | p :: D, k + 1, s, f0, f, hn, h => by
    obtain ⟨a, u⟩ := p
    have hk : D[k]? = some (s, f0) := by simpa using h
    rw [List.map_cons, List.nodup_cons] at hn
    have hne : s ≠ a := fun e => hn.1 (by rw [← e]; exact List.mem_map.2 ⟨_, List.mem_of_getElem? hk, rfl⟩)
    have ih := aput_perm_set (f := f) hn.2 hk
    simp only [List.set_cons_succ, aput, if_neg hne, ih]
theorem aput_perm {A B : Fs} (h : A.Perm B) (hn : (A.map (·.1)).Nodup) (s : ByteArray) (f : FileS) : (aput A s f).Perm (aput B s f) := by
  have hnB : (B.map (·.1)).Nodup := (h.map _).nodup_iff.1 hn
  have na := aputF_nodup (s := f) (k := s) hn
  have nb := aputF_nodup (s := f) (k := s) hnB
  refine (List.perm_ext_iff_of_nodup (nodup_of_keys na) (nodup_of_keys nb)).2 (fun q => ?_)
  obtain ⟨z, g⟩ := q
  have hg : ∀ z, aget (aput A s f) z = aget (aput B s f) z := fun z => by
    by_cases hz : z = s
    · subst hz; rw [aget_put_same, aget_put_same]
    · rw [aget_put_other _ _ hz, aget_put_other _ _ hz]
      cases hx : aget A z with
      | none => symm; rw [aget_none_iff]; rw [aget_none_iff] at hx; exact fun hm => hx ((h.map _).symm.subset hm)
      | some v => exact (aget_of_mem hnB (h.subset (aget_mem hx))).symm
  constructor
  · intro hm
    have := aget_of_mem na hm
    rw [hg] at this
    exact aget_mem this
  · intro hm
    have := aget_of_mem nb hm
    rw [← hg] at this
    exact aget_mem this
theorem SortF.set {D F : Fs} (h : SortF D F) {k : Nat} {s : ByteArray} {f0 f : FileS} (hk : D[k]? = some (s, f0)) : SortF (D.set k (s, f)) (aput F s f) := by
  rw [aput_perm_set h.nodup hk]
  refine ⟨aput_perm h.perm h.nodup s f, ?_⟩
  rw [aput_keys_old f (by rw [aget_of_mem h.nodup (List.mem_of_getElem? hk)]; simp)]
  exact h.sort
theorem SortF.insert {D F : Fs} (h : SortF D F) {k : Nat} {s : ByteArray} {f : FileS} (hk : k ≤ D.length) (hs : aget F s = Option.none) (hgt : ∀ b ∈ D.drop k, bl s < bl b.1) (hle : ∀ j y, k = j + 1 → D[j]? = some y → ¬ bl s < bl y.1) : SortF (D.take k ++ (s, f) :: D.drop k) (aput F s f) := by
  refine ⟨?_, ?_⟩
  · rw [aput_new f hs]
    refine List.perm_middle.trans ?_
    rw [List.take_append_drop]
    exact (h.perm.cons _).trans (List.perm_append_comm (l₁ := [(s, f)]) (l₂ := F))
  · have hsort := h.sort
    rw [← List.take_append_drop k D, List.map_append, List.pairwise_append] at hsort
    rw [List.map_append, List.map_cons, List.pairwise_append]
    have hlow : ∀ a ∈ (D.take k).map (·.1), bl a < bl s := by
      intro a ha
      obtain ⟨p, hp, rfl⟩ := List.mem_map.1 ha
      obtain ⟨i, hi⟩ := List.getElem?_of_mem hp
      rw [List.getElem?_take] at hi
      split at hi
      · rename_i hik
        obtain ⟨j, rfl⟩ : ∃ j, k = j + 1 := ⟨k - 1, by omega⟩
        have hp2 : p ∈ D := List.mem_of_getElem? hi
        have hne : p.1 ≠ s := by
          intro e
          rw [← h.get, aget_none_iff] at hs
          exact hs (List.mem_map.2 ⟨p, hp2, e⟩)
        have key : ∀ y : ByteArray × FileS, y ∈ D → ¬ bl s < bl y.1 → bl y.1 < bl s := fun y hy hn => by
          have hne2 : y.1 ≠ s := by
            intro e
            rw [← h.get, aget_none_iff] at hs
            exact hs (List.mem_map.2 ⟨y, hy, e⟩)
          rcases List.le_total (bl y.1) (bl s) with hl | hl
          · rcases List.le_iff_lt_or_eq.1 hl with h1 | h1
            · exact h1
            · exact absurd (bl_inj h1) hne2
          · rcases List.le_iff_lt_or_eq.1 hl with h1 | h1
            · exact absurd h1 hn
            · exact absurd (bl_inj h1).symm hne2
        rcases Nat.lt_or_ge j D.length with hj | hj
        · have hy : D[j]? = some D[j] := List.getElem?_eq_getElem hj
          have hyl := key _ (List.mem_of_getElem? hy) (hle j _ rfl hy)
          rcases Nat.lt_or_ge i j with hij | hij
          · have hpw := List.pairwise_iff_getElem.1 h.sort i j (by simp; omega) (by simpa using hj) hij
            simp only [List.getElem_map] at hpw
            obtain ⟨hi1, e1⟩ := List.getElem?_eq_some_iff.1 hi
            rw [e1] at hpw
            exact List.lt_trans hpw hyl
          · obtain rfl : i = j := by omega
            rw [hy] at hi
            cases hi
            exact hyl
        · omega
      · cases hi
    refine ⟨hsort.1, List.pairwise_cons.2 ⟨fun a ha => ?_, hsort.2.1⟩, fun a ha b hb => ?_⟩
    · obtain ⟨p, hp, rfl⟩ := List.mem_map.1 ha
      exact hgt p hp
    · rcases List.mem_cons.1 hb with rfl | hb
      · exact hlow a ha
      · exact hsort.2.2 a ha b hb
theorem adel_perm {A B : Fs} (h : A.Perm B) (hn : (A.map (·.1)).Nodup) (s : ByteArray) : (adel A s).Perm (adel B s) := by
  have hnB : (B.map (·.1)).Nodup := (h.map _).nodup_iff.1 hn
  have na : ((adel A s).map (·.1)).Nodup := hn.sublist ((adel_sub A s).map _)
  have nb : ((adel B s).map (·.1)).Nodup := hnB.sublist ((adel_sub B s).map _)
  refine (List.perm_ext_iff_of_nodup (nodup_of_keys na) (nodup_of_keys nb)).2 (fun q => ?_)
  obtain ⟨z, g⟩ := q
  have hg : ∀ z, aget (adel A s) z = aget (adel B s) z := fun z => by
    by_cases hz : z = s
    · subst hz; rw [aget_adel_same hn, aget_adel_same hnB]
    · rw [aget_adel_other hz, aget_adel_other hz]
      cases hx : aget A z with
      | none => symm; rw [aget_none_iff]; rw [aget_none_iff] at hx; exact fun hm => hx ((h.map _).symm.subset hm)
      | some v => exact (aget_of_mem hnB (h.subset (aget_mem hx))).symm
  constructor
  · intro hm
    have := aget_of_mem na hm
    rw [hg] at this
    exact aget_mem this
  · intro hm
    have := aget_of_mem nb hm
    rw [← hg] at this
    exact aget_mem this
theorem adel_erase : ∀ {D : Fs} {k : Nat} {s : ByteArray} {f0 : FileS}, (D.map (·.1)).Nodup → D[k]? = some (s, f0) → D.take k ++ D.drop (k + 1) = adel D s
  | [], k, s, f0, _, h => by simp at h
  | p :: D, 0, s, f0, _, h => by
    simp at h; subst h
    simp [adel]
  | p :: D, k + 1, s, f0, hn, h => by
    obtain ⟨a, u⟩ := p
    have hk : D[k]? = some (s, f0) := by simpa using h
    rw [List.map_cons, List.nodup_cons] at hn
    have hne : s ≠ a := fun e => hn.1 (by rw [← e]; exact List.mem_map.2 ⟨_, List.mem_of_getElem? hk, rfl⟩)
    have ih := adel_erase hn.2 hk
    simp only [List.take_succ_cons, List.drop_succ_cons, List.cons_append, adel, if_neg hne, ih]
theorem SortF.erase {D F : Fs} (h : SortF D F) {k : Nat} {s : ByteArray} {f0 : FileS} (hk : D[k]? = some (s, f0)) : SortF (D.take k ++ D.drop (k + 1)) (adel F s) := by
  rw [adel_erase h.nodup hk]
  exact ⟨adel_perm h.perm h.nodup s, h.sort.sublist ((adel_sub D s).map _)⟩
/-- The names, listed. -/
theorem SortF.list {D : Fs} {S : DiskS} (h : SortF D S.files) (p : ByteArray) : (D.map (·.1)).filter (fun s => Lib.hasPrefix (bl s) (bl p)) = S.list p := by
  unfold DiskS.list DiskS.names
  refine sorted_unique ?_ ?_ (sortS_sorted _)
  · exact ((h.perm.map _).filter _).trans (sortS_perm _).symm
  · exact (h.sort.filter _).imp (fun {a b} hab => List.le_of_lt hab)
theorem SortF.listAll {D : Fs} {S : DiskS} (h : SortF D S.files) : D.map (·.1) = S.list ⟨#[]⟩ := by
  rw [← h.list ⟨#[]⟩]
  exact (List.filter_eq_self.2 (fun s _ => by simp [bl, Lib.hasPrefix])).symm
theorem SortF.crashStep {D : Fs} {S : DiskS} (h : SortF D S.files) (keep : List Int) {k : Nat} {s : ByteArray} {f : FileS} (hk : D[k]? = some (s, f)) : crashStep S keep k = found s (keepF keep k f) := by
  unfold Go.Proofs.YtfablbhkmddnbaaDoor.crashStep
  rw [← h.listAll, List.getElem?_map, hk]
  simp only [Option.map_some, h.at hk, Option.getD_some]
end Go.Proofs.YtfablbhkmddnbaaDoor
