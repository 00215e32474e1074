/- MergeOrder: plain laws. -/
import Derived.Test.YtlgdfiapljmojaaMergeCuts
namespace Go.Proofs.Ytlgdfiapljmojaa
open Go.RowKit Go.Sort Go.Lib

/-- Each point's Seq by its place. -/
def Numbered (l : List Pt) : Prop := ∀ (m : Nat) (p : Pt), l[m]? = some p → p.s = ((m : Int) + 1) * 7 % 1009
theorem Numbered.nil : Numbered [] := fun m p h => by simp at h
theorem Numbered.snoc {l : List Pt} (h : Numbered l) {p : Pt} (hp : p.s = ((l.length : Int) + 1) * 7 % 1009) : Numbered (l ++ [p]) := by
  intro m q hq
  rcases Nat.lt_or_ge m l.length with hm | hm
  · rw [List.getElem?_append_left hm] at hq; exact h m q hq
  · rw [List.getElem?_append_right hm] at hq
    have : m - l.length = 0 := by have := (List.getElem?_eq_some_iff.1 hq).1; simp at this; omega
    rw [this] at hq
    simp at hq; subst hq
    rw [hp, show m = l.length by omega]
theorem Numbered.own {l : List Pt} (h : Numbered l) (hl : l.length ≤ 1000) {p q : Pt} (hp : p ∈ l) (hq : q ∈ l) (hs : p.s = q.s) : p = q := by
  obtain ⟨i, hi⟩ := List.mem_iff_getElem?.1 hp
  obtain ⟨j, hj⟩ := List.mem_iff_getElem?.1 hq
  have h1 := h i p hi
  have h2 := h j q hj
  have l1 := (List.getElem?_eq_some_iff.1 hi).1
  have l2 := (List.getElem?_eq_some_iff.1 hj).1
  have : i = j := by omega
  subst this
  rw [hi] at hj; cases hj; rfl

theorem flat_len (ls : List (List Pt)) : ls.flatten.length = (ls.map List.length).sum := by simp [List.length_flatten]

theorem IsBest.congr {S T : Pt → Prop} {out : List Pt} (h : IsBest S out) (hST : ∀ p, S p ↔ T p) : IsBest T out :=
  ⟨h.rises, fun p hp => ⟨(hST p).1 (h.best p hp).1, fun q hq ht => (h.best p hp).2 q ((hST q).2 hq) ht⟩, fun q hq => h.has q ((hST q).2 hq)⟩

/-- The same lists in another order. -/
theorem order_same {A B : List (List Pt)} {a b : List Pt} (hn : Numbered A.flatten) (hl : A.flatten.length ≤ 1000) (hAB : ∀ l, l ∈ A ↔ l ∈ B) (ha : IsMerge A a) (hb : IsMerge B b) : a = b := by
  refine ha.isBest.unique (fun p q hp hq _ hs => ?_) (hb.isBest.congr (fun p => ⟨fun ⟨l, h1, h2⟩ => ⟨l, (hAB l).2 h1, h2⟩, fun ⟨l, h1, h2⟩ => ⟨l, (hAB l).1 h1, h2⟩⟩))
  exact hn.own hl (List.mem_flatten.2 hp) (List.mem_flatten.2 hq) hs

/-- In two groups. -/
theorem order_groups {A : List (List Pt)} {a x y c : List Pt} (k : Nat) (hn : Numbered A.flatten) (hl : A.flatten.length ≤ 1000) (ha : IsMerge A a) (hx : IsMerge (A.take k) x) (hy : IsMerge (A.drop k) y) (hc : IsMerge [y, x] c) : c = a := by
  have hj : IsBest (fun p => (∃ l ∈ A.drop k, p ∈ l) ∨ ∃ l ∈ A.take k, p ∈ l) c :=
    IsBest.join hy.isBest hx.isBest (hc.isBest.congr (fun p => by simp))
  have hj' : IsBest (fun p => ∃ l ∈ A, p ∈ l) c := hj.congr (fun p => by
    constructor
    · rintro (⟨l, h1, h2⟩ | ⟨l, h1, h2⟩)
      · exact ⟨l, List.mem_of_mem_drop h1, h2⟩
      · exact ⟨l, List.mem_of_mem_take h1, h2⟩
    · rintro ⟨l, h1, h2⟩
      rw [← List.take_append_drop k A] at h1
      rcases List.mem_append.1 h1 with h | h
      · exact .inr ⟨l, h, h2⟩
      · exact .inl ⟨l, h, h2⟩)
  refine hj'.unique (fun p q hp hq _ hs => ?_) ha.isBest
  exact hn.own hl (List.mem_flatten.2 hp) (List.mem_flatten.2 hq) hs

theorem one_best : ∀ out, IsMerge [[⟨1, 7, 2⟩], [⟨1, 0, 1⟩]] out → out = [⟨1, 7, 2⟩] := by
  intro out h
  refine h.unique (by simp [Rises]) ⟨Rises.one _, fun p hp => ?_, fun j m q hj hq => ?_⟩
  · simp at hp; subst hp
    refine ⟨0, _, rfl, by simp, fun j m q hj hq ht => ?_⟩
    match j, hj with
    | 0, hj => simp at hj; subst hj; simp at hq; subst hq; exact .inr ⟨rfl, Nat.le_refl _⟩
    | 1, hj => simp at hj; subst hj; simp at hq; subst hq; left; simp
    | j + 2, hj => simp at hj
  · match j, hj with
    | 0, hj => simp at hj; subst hj; simp at hq; subst hq; exact ⟨⟨1, 7, 2⟩, by simp, rfl⟩
    | 1, hj => simp at hj; subst hj; simp at hq; subst hq; exact ⟨⟨1, 7, 2⟩, by simp, rfl⟩
    | j + 2, hj => simp at hj

theorem CutTo.ok {w W : World} {out : List Pt} {a : Option Addr} {n c : Nat} (h : CutTo w out (.slice a n c) W) : n = out.length ∧ Sl.Ok W ⟨a, n, c, out⟩ := by
  have hn : n = out.length ∧ n ≤ c := by
    obtain ⟨_, ⟨e, e2⟩ | ⟨g, cap, cur, e, _, _, hnc, _⟩⟩ := h.row
    · simp at e; omega
    · simp at e; omega
  refine ⟨hn.1, ?_, hn.2⟩
  have := row_src h.row
  show Src W 3 (.slice a n c) n (pts out)
  rw [← hn.1] at this; exact this

theorem row_ok {w : World} {e : TypeId} {a : Option Addr} {c : Nat} {l : List Pt} (h : Row w e 3 (.slice a l.length c) l.length (pts l)) : Sl.Ok w ⟨a, l.length, c, l⟩ := by
  refine ⟨row_src h, ?_⟩
  obtain ⟨_, ⟨e, e2⟩ | ⟨g, cap, cur, e, _, _, hnc, _⟩⟩ := h
  · simp at e; show l.length ≤ c; rw [e.2.1]; exact Nat.zero_le _
  · simp at e; show l.length ≤ c; omega

/-- The cut, as Go reckons it. -/
theorem cut_range (c : Int) (n : Nat) : 0 ≤ (Int.tmod c ((n : Int) + 1) + n + 1) % ((n : Int) + 1) ∧ (Int.tmod c ((n : Int) + 1) + n + 1) % ((n : Int) + 1) ≤ n := by
  have h1 := Int.emod_nonneg (Int.tmod c ((n : Int) + 1) + n + 1) (show (n : Int) + 1 ≠ 0 by omega)
  have h2 := Int.emod_lt_of_pos (Int.tmod c ((n : Int) + 1) + n + 1) (show (0 : Int) < (n : Int) + 1 by omega)
  omega
theorem tmod_range (c : Int) (n : Nat) : -(n : Int) ≤ Int.tmod c ((n : Int) + 1) ∧ Int.tmod c ((n : Int) + 1) ≤ n := by
  have key : ∀ d : Int, 0 ≤ d → 0 ≤ Int.tmod d ((n : Int) + 1) ∧ Int.tmod d ((n : Int) + 1) ≤ n := by
    intro d hd
    rw [Int.tmod_eq_emod_of_nonneg hd]
    have h1 := Int.emod_nonneg d (show (n : Int) + 1 ≠ 0 by omega)
    have h2 := Int.emod_lt_of_pos d (show (0 : Int) < (n : Int) + 1 by omega)
    omega
  rcases Int.le_total 0 c with h | h
  · have := key c h; omega
  · have := key (-c) (by omega)
    rw [Int.neg_tmod] at this; omega

/-- A beginning of lists in memory. -/
theorem src_take {w : World} {a : Option Addr} {n c : Nat} {xs : List Value} (h : Src w 1 (.slice a n c) n xs) {k : Nat} (hk : k ≤ n) (ha : a ≠ none) : Src w 1 (.slice a k c) k (xs.take k) := by
  rcases h with ⟨e, _, _⟩ | ⟨ad, c', e, hl, h2, h1⟩
  · simp at e; exact absurd e.1 ha
  · simp at e
    obtain ⟨rfl, rfl⟩ := e
    refine .inr ⟨ad, c, rfl, by simp at hl ⊢; omega, fun j u hj => ?_, fun u hu => h1 u (List.mem_of_mem_take hu)⟩
    rw [List.getElem?_take] at hj
    split at hj
    · exact h2 j u hj
    · simp at hj
theorem src_drop {w : World} {b off : Nat} {n c : Nat} {xs : List Value} (h : Src w 1 (.slice (some ⟨b, off, none⟩) n c) n xs) {k : Nat} (hk : k ≤ n) (c' : Nat) : Src w 1 (.slice (some ⟨b, off + k, none⟩) (n - k) c') (n - k) (xs.drop k) := by
  rcases h with ⟨e, _, _⟩ | ⟨ad, c'', e, hl, h2, h1⟩
  · simp at e
  · simp at e
    obtain ⟨rfl, rfl⟩ := e
    refine .inr ⟨_, c', rfl, by simp at hl ⊢; omega, fun j u hj => ?_, fun u hu => h1 u (List.mem_of_mem_drop hu)⟩
    rw [List.getElem?_drop] at hj
    have := h2 (k + j) u hj
    rw [Go.WideShapes.add_plain] at this ⊢
    rw [show off + k + j = off + (k + j) by omega]; exact this
/-- .. where none are left, wherever it leads. -/
theorem src_none (w : World) (ad : Addr) (c : Nat) : Src w 1 (.slice (some ad) 0 c) 0 [] := .inr ⟨ad, c, rfl, rfl, fun j u hj => by simp at hj, by simp⟩

end Go.Proofs.Ytlgdfiapljmojaa
