/- Rows of structs of any kind: what lies where. -/
import Derived.Test.YtcmolfhjkkfedaaBox
namespace Go.Proofs.Ytcmolfhjkkfedaa
open Go Go.RowKit Go.Sort Go.Lib
variable {α : Type} {enc : α → List Value} {s : Nat}

theorem enc_len (hs : ∀ x, (enc x).length = s) (l : List α) : (l.flatMap enc).length = l.length * s := by
  induction l with
  | nil => simp
  | cons q l ih => simp [ih, hs, Nat.succ_mul]; omega

theorem enc_at (hs : ∀ x, (enc x).length = s) (l : List α) (k : Nat) (p : α) (h : l[k]? = some p) (j : Nat) (u : Value) (hj : (enc p)[j]? = some u) : (l.flatMap enc)[k * s + j]? = some u := by
  induction l generalizing k with
  | nil => simp at h
  | cons q l ih =>
    cases k with
    | zero =>
      simp at h; subst h
      have hlt : j < (enc q).length := (List.getElem?_eq_some_iff.1 hj).1
      simp only [List.flatMap_cons, Nat.zero_mul, Nat.zero_add]
      rw [List.getElem?_append_left hlt]; exact hj
    | succ k =>
      have := ih k (by simpa using h)
      simp only [List.flatMap_cons]
      rw [List.getElem?_append_right (by rw [hs, Nat.succ_mul]; omega), hs, show (k + 1) * s + j - s = k * s + j by rw [Nat.succ_mul]; omega]
      exact this

/-- The cells of an element of a slice. -/
theorem enc_src (hs : ∀ x, (enc x).length = s) (h0 : 0 < s) {w : World} {a : Option Addr} {n c : Nat} {l : List α} (h : Src w s (.slice a n c) n (l.flatMap enc)) {k : Nat} (hk : k < n) :
    ∃ b off p, a = some ⟨b, off, none⟩ ∧ l[k]? = some p ∧ w.rangeAt b (off + k * s) (enc p) := by
  rcases h with ⟨_, h, _⟩ | ⟨ad, c', h, hl, h2, _⟩
  · omega
  · simp at h
    obtain ⟨rfl, rfl⟩ := h
    rw [enc_len hs] at hl
    have hkl : k < l.length := Nat.lt_of_mul_lt_mul_right (a := s) (by rw [hl]; exact Nat.mul_lt_mul_of_pos_right hk h0)
    have h0l : 0 < l.length := by omega
    obtain ⟨b, off, spot⟩ := ad
    obtain ⟨u0, hu0⟩ : ∃ u, (enc l[0])[0]? = some u := by
      have : 0 < (enc l[0]).length := by rw [hs]; exact h0
      exact ⟨_, List.getElem?_eq_getElem this⟩
    have hz := h2 0 u0 (by have := enc_at hs l 0 _ (List.getElem?_eq_getElem h0l) 0 u0 hu0; simpa using this)
    have hspot : spot = none := by simpa [Addr.add] using World.cell?_spot hz
    subst hspot
    refine ⟨b, off, l[k], rfl, List.getElem?_eq_getElem hkl, fun j u hj => ?_⟩
    have := h2 _ u (enc_at hs l k _ (List.getElem?_eq_getElem hkl) j u hj)
    rw [Go.WideShapes.add_plain] at this
    rw [Nat.add_assoc]; exact this

theorem enc_src_len (hs : ∀ x, (enc x).length = s) (h0 : 0 < s) {w : World} {v : Value} {n : Nat} {l : List α} (h : Src w s v n (l.flatMap enc)) : l.length = n := by
  rcases h with ⟨_, rfl, h⟩ | ⟨_, _, _, h, _⟩
  · have hz := enc_len hs l
    rw [h, List.length_nil] at hz
    rcases Nat.eq_zero_or_pos l.length with h1 | h1
    · exact h1
    · have := Nat.mul_pos h1 h0
      rw [← hz] at this
      exact absurd this (Nat.lt_irrefl 0)
  · rw [enc_len hs] at h; exact Nat.eq_of_mul_eq_mul_right h0 h

/-- A struct in a block of its own is a slice of one. -/
theorem enc_one {W : World} {b : Nat} {p : α} {cs : Array Value} {t : TypeId} {fr : Nat × Nat} (h : W.heap[b]? = some (.cells cs t fr)) (he : enc p = cs.toList) (hs : (enc p).length = s) (h1 : ∀ u ∈ enc p, u.oneCell' = true) :
    Src W s (.slice (some ⟨b, 0, none⟩) 1 1) 1 ([p].flatMap enc) := by
  refine .inr ⟨_, _, rfl, by simp [hs], fun j u hj => ?_, fun u hu => ?_⟩
  · rw [Go.WideShapes.add_plain, Nat.zero_add, cell_of_block h]
    simpa [he] using hj
  · simp at hu
    exact h1 u hu
end Go.Proofs.Ytcmolfhjkkfedaa
