/- The disk that is found behind a crash, as plain data. -/
import Derived.Test.YtcmolfhjkkfedaaDiskL
import Derived.Test.YtcmolfhjkkfedaaDiskW
namespace Go.Proofs.Ytcmolfhjkkfedaa
open Go.RowKit Go.Sort Go.Lib

/-- How many bytes of a file are found. -/
def keepN (keep : List Int) (i : Nat) (f : FileS) : Nat :=
  f.lasts + (max 0 (min (keep.getD i 0) (f.bytes.length - f.lasts : Nat)) : Int).toNat
theorem keepN_le (keep : List Int) (i : Nat) {f : FileS} (h : f.lasts ≤ f.bytes.length) : keepN keep i f ≤ f.bytes.length := by unfold keepN; omega
/-- What is found of a file. -/
def keepF (keep : List Int) (i : Nat) (f : FileS) : Option FileS :=
  if 0 < keepN keep i f ∨ f.synced = true then some ⟨f.bytes.take (keepN keep i f), keepN keep i f, true⟩ else none

def zeroF : FileS := ⟨[], 0, false⟩
def found (s : ByteArray) : Option FileS → List (ByteArray × FileS)
  | none => []
  | some f => [(s, f)]
/-- The files that are found, of the first names. -/
def crashStep (S : DiskS) (keep : List Int) (k : Nat) : List (ByteArray × FileS) := match (S.list ⟨#[]⟩)[k]? with
  | none => []
  | some s => found s (keepF keep k ((aget S.files s).getD zeroF))
def crashTo (S : DiskS) (keep : List Int) : Nat → List (ByteArray × FileS)
  | 0 => []
  | k + 1 => crashTo S keep k ++ crashStep S keep k
def sumF (l : List (ByteArray × FileS)) : Nat := (l.map fun p => p.2.bytes.length).sum
/-- The disk that is found, of the first names. -/
def crashS (S : DiskS) (keep : List Int) (k : Nat) : DiskS := ⟨crashTo S keep k, S.room, sumF (crashTo S keep k), -1, 0⟩
def DiskS.crash (S : DiskS) (keep : List Int) : DiskS := crashS S keep (S.list ⟨#[]⟩).length

theorem sumF_append (a b : List (ByteArray × FileS)) : sumF (a ++ b) = sumF a + sumF b := by simp [sumF]
theorem crashTo_names (S : DiskS) (keep : List Int) : ∀ k, List.Sublist ((crashTo S keep k).map (·.1)) ((S.list ⟨#[]⟩).take k)
  | 0 => by simp [crashTo]
  | k + 1 => by
    have ih := crashTo_names S keep k
    rw [List.take_add_one, crashTo, List.map_append]
    refine ih.append ?_
    unfold crashStep
    cases (S.list ⟨#[]⟩)[k]? with
    | none => simp
    | some s =>
      cases h : keepF keep k ((aget S.files s).getD zeroF) with
      | none => simp [h, found]
      | some f => simp [h, found]
theorem names_all (S : DiskS) : S.names ⟨#[]⟩ = S.files.map (·.1) := by
  unfold DiskS.names
  exact List.filter_eq_self.2 (fun s _ => by simp [bl, Lib.hasPrefix])
theorem list_nodup {S : DiskS} (ok : S.Ok) : (S.list ⟨#[]⟩).Nodup := by
  unfold DiskS.list
  rw [names_all]
  exact (sortS_perm _).symm.nodup ok.names
theorem list_len {S : DiskS} (ok : S.Ok) : (S.list ⟨#[]⟩).length ≤ 512 := by
  unfold DiskS.list
  rw [names_all, sortS_length, List.length_map]
  exact ok.few
theorem list_mem {S : DiskS} {k : Nat} {s : ByteArray} (h : (S.list ⟨#[]⟩)[k]? = some s) : ∃ f, aget S.files s = some f := by
  have hm : s ∈ S.files.map (·.1) := by
    rw [← names_all]
    exact (sortS_perm _).subset (List.mem_of_getElem? h)
  have := (aget_isSome_iff (m := S.files) (k := s)).2 hm
  exact Option.isSome_iff_exists.1 this
theorem crashTo_new {S : DiskS} (ok : S.Ok) (keep : List Int) {k : Nat} {s : ByteArray} (h : (S.list ⟨#[]⟩)[k]? = some s) : aget (crashTo S keep k) s = none := by
  rw [aget_none_iff]
  intro hm
  have h1 := (crashTo_names S keep k).subset hm
  obtain ⟨i, hi⟩ := List.getElem?_of_mem h1
  rw [List.getElem?_take] at hi
  split at hi
  · rename_i hik
    obtain ⟨hl1, e1⟩ := List.getElem?_eq_some_iff.1 hi
    obtain ⟨hl2, e2⟩ := List.getElem?_eq_some_iff.1 h
    have h3 := list_nodup ok
    rw [List.nodup_iff_pairwise_ne, List.pairwise_iff_getElem] at h3
    exact h3 i k hl1 hl2 hik (e1.trans e2.symm)
  · cases hi
theorem crashTo_small {S : DiskS} (ok : S.Ok) (keep : List Int) : ∀ k, ∀ p ∈ crashTo S keep k, p.2.bytes.length ≤ 1048576 ∧ p.2.lasts ≤ p.2.bytes.length
  | 0 => by simp [crashTo]
  | k + 1 => by
    intro p hp
    rw [crashTo] at hp
    rcases List.mem_append.1 hp with hp | hp
    · exact crashTo_small ok keep k p hp
    · unfold crashStep at hp
      cases hs : (S.list ⟨#[]⟩)[k]? with
      | none => rw [hs] at hp; simp at hp
      | some s =>
        rw [hs] at hp
        obtain ⟨f, hf⟩ := list_mem hs
        simp only [hf, Option.getD_some] at hp
        have h1 := ok.small _ (aget_mem hf)
        have h2 := keepN_le keep k (ok.lasts _ (aget_mem hf))
        simp only at h1 h2
        unfold keepF at hp
        split at hp
        · simp [found] at hp
          subst hp
          simp; omega
        · simp [found] at hp
theorem crashTo_sum {S : DiskS} (ok : S.Ok) (keep : List Int) : ∀ k, sumF (crashTo S keep k) ≤ k * 1048576
  | 0 => by simp [crashTo, sumF]
  | k + 1 => by
    have ih := crashTo_sum ok keep k
    have hs := crashTo_small ok keep (k + 1)
    rw [crashTo] at hs ⊢
    rw [sumF_append]
    suffices h : ∀ l : List (ByteArray × FileS), (∀ p ∈ l, p.2.bytes.length ≤ 1048576) → l.length ≤ 1 → sumF l ≤ 1048576 by
      have := h (crashStep S keep k) (fun p hp => (hs p (List.mem_append_right _ hp)).1) (by
        unfold crashStep
        cases (S.list ⟨#[]⟩)[k]? with
        | none => simp
        | some s => cases h : keepF keep k ((aget S.files s).getD zeroF) <;> simp [h, found])
      omega
    intro l h1 h2
    match l, h2 with
    | [], _ => simp [sumF]
    | [p], _ => have := h1 p (by simp); simpa [sumF] using this
end Go.Proofs.Ytcmolfhjkkfedaa
