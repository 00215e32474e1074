/- Plain laws on names that are put one behind the other. -/
import Derived.Test.YtafaagkhgdggbaaDoorDict
import Derived.Test.YtafaagkhgdggbaaDoorStm
import Derived.Test.YtafaagkhgdggbaaDoorRng
import Derived.Sort.Walk0
namespace Go.Proofs.YtafaagkhgdggbaaDoor
open Go.RowKit Go.Sort Go.Lib

theorem less_eq (a b : ByteArray) : Op.bytesLess a.toList b.toList = decide (bl a < bl b) := by
  rw [bytesLess_eq, ByteArray.toList_eq, ByteArray.toList_eq]; rfl
theorem same_eq (a b : ByteArray) : (a.toList == b.toList) = decide (a = b) := by
  rw [← beq_toListBytes, bytes_beq]

theorem putNames_len (l : List ByteArray) (s : ByteArray) : (putNames l s).length ≤ l.length + 1 := by unfold putNames; split <;> simp
theorem putNames_ge (l : List ByteArray) (s : ByteArray) : l.length ≤ (putNames l s).length := by unfold putNames; split <;> simp
theorem mem_putNames {l : List ByteArray} {s x : ByteArray} (h : l.length < 1024) : x ∈ putNames l s ↔ x ∈ l ∨ (x = s ∧ validL (bl s) = true) := by
  unfold putNames
  by_cases hv : validL s.data.toList = true
  · by_cases hm : s ∈ l
    · have hc : ¬ (validL s.data.toList = true ∧ s ∉ l ∧ l.length < 1024) := fun hh => hh.2.1 hm
      rw [if_neg hc]
      constructor
      · exact .inl
      · rintro (h | ⟨rfl, _⟩)
        · exact h
        · exact hm
    · rw [if_pos ⟨hv, hm, h⟩]
      simp only [List.mem_append, List.mem_singleton]
      constructor
      · rintro (h | h)
        · exact .inl h
        · exact .inr ⟨h, hv⟩
      · rintro (h | ⟨h, _⟩)
        · exact .inl h
        · exact .inr h
  · rw [if_neg (fun hh => hv hh.1)]
    constructor
    · exact .inl
    · rintro (h | ⟨_, h⟩)
      · exact h
      · exact absurd h hv
/-- Names that are put one behind the other. -/
def putAll (l ss : List ByteArray) : List ByteArray := ss.foldl putNames l
theorem putAll_snoc (l ss : List ByteArray) (s : ByteArray) : putAll l (ss ++ [s]) = putNames (putAll l ss) s := by simp [putAll]
theorem putAll_len (ss : List ByteArray) : ∀ l, (putAll l ss).length ≤ l.length + ss.length := by
  induction ss with
  | nil => intro l; simp [putAll]
  | cons s ss ih =>
    intro l
    have h1 := ih (putNames l s)
    have h2 := putNames_len l s
    simp only [putAll, List.foldl_cons, List.length_cons] at *
    omega
theorem mem_putAll {x : ByteArray} : ∀ (ss l : List ByteArray), l.length + ss.length ≤ 1024 → (x ∈ putAll l ss ↔ x ∈ l ∨ (x ∈ ss ∧ validL (bl x) = true)) := by
  intro ss
  induction ss with
  | nil => intro l _; simp [putAll]
  | cons s ss ih =>
    intro l h
    simp only [List.length_cons] at h
    have h1 := ih (putNames l s) (by have := putNames_len l s; omega)
    have h2 := mem_putNames (x := x) (s := s) (l := l) (by omega)
    show x ∈ putAll (putNames l s) ss ↔ _
    rw [h1, h2]
    simp only [List.mem_cons]
    constructor
    · rintro ((h | ⟨rfl, h⟩) | ⟨h, k⟩)
      · exact .inl h
      · exact .inr ⟨.inl rfl, h⟩
      · exact .inr ⟨.inr h, k⟩
    · rintro (h | ⟨rfl | h, k⟩)
      · exact .inl (.inl h)
      · exact .inl (.inr ⟨rfl, k⟩)
      · exact .inr ⟨h, k⟩
theorem valid_size {s : ByteArray} (h : validL (bl s) = true) : s.size ≤ 64 := by
  simp only [validL, Bool.and_eq_true, decide_eq_true_eq] at h
  simpa [bl] using h.2
end Go.Proofs.YtafaagkhgdggbaaDoor
