/- A heap of things by a key's order: plain laws on sifting up and down. -/
import Derived.Test.YtlgdfiapljmojaaPt
namespace Go.Proofs.Ytlgdfiapljmojaa

/-- A transitive, total order that says which of two may stand ahead. -/
structure LeOrd {α : Type} (le : α → α → Prop) : Prop where
  refl : ∀ a, le a a
  trans : ∀ a b c, le a b → le b c → le a c

section
variable {α : Type} {le : α → α → Prop}

def Heap (le : α → α → Prop) (h : List α) : Prop := ∀ (k : Nat) (x y : α), 0 < k → h[k]? = some x → h[(k - 1) / 2]? = some y → le y x
/-- All but the edge over i. -/
structure UpInv (le : α → α → Prop) (h : List α) (i : Nat) : Prop where
  edge : ∀ (k : Nat) (x y : α), 0 < k → k ≠ i → h[k]? = some x → h[(k - 1) / 2]? = some y → le y x
  over : ∀ (k : Nat) (x y : α), 0 < k → 0 < i → (k - 1) / 2 = i → h[k]? = some x → h[(i - 1) / 2]? = some y → le y x
/-- All but the edges under i. -/
structure DownInv (le : α → α → Prop) (h : List α) (i : Nat) : Prop where
  edge : ∀ (k : Nat) (x y : α), 0 < k → (k - 1) / 2 ≠ i → h[k]? = some x → h[(k - 1) / 2]? = some y → le y x
  over : ∀ (k : Nat) (x y : α), 0 < k → 0 < i → (k - 1) / 2 = i → h[k]? = some x → h[(i - 1) / 2]? = some y → le y x

def swapL (h : List α) (i k : Nat) (x y : α) : List α := (h.set i y).set k x
theorem swapL_at {h : List α} {i k : Nat} {x y : α} (hi : h[i]? = some x) (hk : h[k]? = some y) (j : Nat) : (swapL h i k x y)[j]? = if j = k then some x else if j = i then some y else h[j]? := by
  have h1 := (List.getElem?_eq_some_iff.1 hi).1
  have h2 := (List.getElem?_eq_some_iff.1 hk).1
  unfold swapL
  rw [List.getElem?_set]
  by_cases e : k = j
  · subst e; simp [h2]
  · rw [if_neg e, if_neg (fun h => e h.symm), List.getElem?_set]
    by_cases e2 : i = j
    · subst e2; simp [h1]
    · rw [if_neg e2, if_neg (fun h => e2 h.symm)]
theorem swapL_perm {h : List α} {i k : Nat} {x y : α} (hi : h[i]? = some x) (hk : h[k]? = some y) : (swapL h i k x y).Perm h := by
  obtain ⟨h1, rfl⟩ := List.getElem?_eq_some_iff.1 hi
  obtain ⟨h2, rfl⟩ := List.getElem?_eq_some_iff.1 hk
  exact List.set_set_perm h1 h2
theorem swapL_length {h : List α} {i k : Nat} {x y : α} : (swapL h i k x y).length = h.length := by simp [swapL]

theorem UpInv.new {h : List α} (hh : Heap le h) (x : α) : UpInv le (h ++ [x]) h.length := by
  refine ⟨fun k a b hk hne ha hb => ?_, fun k a b hk hi he ha hb => ?_⟩
  · have hlt : k < h.length := by
      have := (List.getElem?_eq_some_iff.1 ha).1; simp at this; omega
    rw [List.getElem?_append_left hlt] at ha
    rw [List.getElem?_append_left (by omega)] at hb
    exact hh k a b hk ha hb
  · have := (List.getElem?_eq_some_iff.1 ha).1; simp at this; omega

theorem UpInv.done {h : List α} {i : Nat} (hu : UpInv le h i) (hd : i = 0 ∨ ∀ x y, h[i]? = some x → h[(i - 1) / 2]? = some y → le y x) : Heap le h := by
  intro k x y hk hx hy
  by_cases e : k = i
  · subst e
    rcases hd with rfl | hd
    · omega
    · exact hd x y hx hy
  · exact hu.edge k x y hk e hx hy

theorem UpInv.step (O : LeOrd le) {h : List α} {i : Nat} {x y : α} (hu : UpInv le h i) (h0 : 0 < i) (hx : h[i]? = some x) (hy : h[(i - 1) / 2]? = some y) (hle : le x y) :
    UpInv le (swapL h i ((i - 1) / 2) x y) ((i - 1) / 2) := by
  refine ⟨fun k a b hk hne ha hb => ?_, fun k a b hk hi he ha hb => ?_⟩
  · rw [swapL_at hx hy] at ha hb
    rw [if_neg hne] at ha
    by_cases e : k = i
    · subst e
      simp at ha hb; subst ha hb; exact hle
    · rw [if_neg e] at ha
      by_cases e2 : (k - 1) / 2 = (i - 1) / 2
      · rw [if_pos e2] at hb; cases hb
        have := hu.edge k a y hk e ha (by rw [e2]; exact hy)
        exact O.trans _ _ _ hle this
      · rw [if_neg e2] at hb
        by_cases e3 : (k - 1) / 2 = i
        · rw [if_pos e3] at hb; cases hb
          exact hu.over k a y hk h0 e3 ha hy
        · rw [if_neg e3] at hb; exact hu.edge k a b hk e ha hb
  · rw [swapL_at hx hy] at ha hb
    rw [if_neg (by omega), if_neg (by omega)] at hb
    rw [if_neg (by omega)] at ha
    have h1 := hu.edge ((i - 1) / 2) y b hi (by omega) hy hb
    by_cases e : k = i
    · subst e; simp at ha; subst ha; exact h1
    · rw [if_neg e] at ha
      exact O.trans _ _ _ h1 (hu.edge k a y hk e ha (by rw [he]; exact hy))

theorem DownInv.new {h : List α} (hh : Heap le h) (x : α) (n : Nat) : DownInv le ((h.set 0 x).take n) 0 := by
  refine ⟨fun k a b hk hne ha hb => ?_, fun k a b hk hi => absurd hi (by omega)⟩
  rw [List.getElem?_take] at ha hb
  split at ha
  · split at hb
    · rw [List.getElem?_set_ne (by omega)] at ha hb
      exact hh k a b hk ha hb
    · simp at hb
  · simp at ha

theorem DownInv.done {h : List α} {i : Nat} (hu : DownInv le h i) (hd : ∀ k x y, 0 < k → (k - 1) / 2 = i → h[k]? = some x → h[i]? = some y → le y x) : Heap le h := by
  intro k x y hk hx hy
  by_cases e : (k - 1) / 2 = i
  · rw [e] at hy; exact hd k x y hk e hx hy
  · exact hu.edge k x y hk e hx hy

theorem DownInv.step {h : List α} {i k : Nat} {x y : α} (hu : DownInv le h i) (h0 : 0 < k) (hki : (k - 1) / 2 = i) (hx : h[i]? = some x) (hy : h[k]? = some y) (hle : le y x)
    (hmin : ∀ (j : Nat) (z : α), 0 < j → (j - 1) / 2 = i → h[j]? = some z → le y z) : DownInv le (swapL h i k x y) k := by
  refine ⟨fun j a b hj hne ha hb => ?_, fun j a b hj hi he ha hb => ?_⟩
  · rw [swapL_at hx hy] at ha hb
    rw [if_neg hne] at hb
    by_cases e : j = k
    · subst e
      rw [if_pos rfl] at ha; cases ha
      rw [if_pos hki] at hb; cases hb
      exact hle
    · rw [if_neg e] at ha
      by_cases e2 : (j - 1) / 2 = i
      · rw [if_pos e2] at hb; cases hb
        rw [if_neg (by omega)] at ha
        exact hmin j a hj e2 ha
      · rw [if_neg e2] at hb
        by_cases e3 : j = i
        · rw [if_pos e3] at ha; cases ha
          subst e3
          exact hu.over k y b h0 hj hki hy hb
        · rw [if_neg e3] at ha; exact hu.edge j a b hj e2 ha hb
  · rw [swapL_at hx hy] at ha hb
    rw [hki, if_neg (by omega), if_pos rfl] at hb; cases hb
    rw [if_neg (by omega), if_neg (by omega)] at ha
    exact hu.edge j a y hj (by omega) ha (by rw [he]; exact hy)

theorem Heap.first (O : LeOrd le) {h : List α} (hh : Heap le h) {x : α} (h0 : h[0]? = some x) : ∀ (k : Nat) (y : α), h[k]? = some y → le x y := by
  intro k
  induction k using Nat.strongRecOn with
  | ind k ih =>
    intro y hy
    rcases Nat.eq_zero_or_pos k with rfl | hk
    · rw [h0] at hy; cases hy; exact O.refl _
    · have hl := (List.getElem?_eq_some_iff.1 hy).1
      have hp : h[(k - 1) / 2]? = some (h[(k - 1) / 2]'(by omega)) := List.getElem?_eq_getElem (by omega)
      exact O.trans _ _ _ (ih ((k - 1) / 2) (by omega) _ hp) (hh k y _ hk hy hp)

/-- What is left when the first one is taken out, the last one put in its place. -/
theorem pop_perm {h : List α} {n : Nat} {x z : α} (hl : h.length = n + 1) (h0 : h[0]? = some x) (hz : h[n]? = some z) : (x :: (h.set 0 z).take n).Perm h := by
  cases h with
  | nil => simp at hl
  | cons y t =>
    simp at h0 hl; subst h0
    rw [List.set_cons_zero]
    cases n with
    | zero => simp at hl; subst hl; simp
    | succ n =>
      rw [List.take_succ_cons]
      simp at hz
      refine List.Perm.cons _ ?_
      have e : t = t.take n ++ [z] := by
        have h1 : n < t.length := by omega
        have := (List.getElem?_eq_some_iff.1 hz).2
        rw [← this, ← List.take_succ_eq_append_getElem h1, List.take_of_length_le (by omega)]
      conv => rhs; rw [e]
      exact (List.perm_append_comm (l₁ := [z]) (l₂ := t.take n))
end

end Go.Proofs.Ytlgdfiapljmojaa
