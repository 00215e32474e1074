/- merge.Merge: what holds while cursors are taken, in plain words. -/
import Derived.Test.YtlgdfiapljmojaaMg3
import Derived.Test.YtlgdfiapljmojaaSl
namespace Go.Proofs.Ytlgdfiapljmojaa
open Go.RowKit Go.Sort Go.Lib

/-- What is left in all. -/
def tot (L : List Cur) : Nat := (L.map fun c => c.l.length).sum
theorem tot_perm {a b : List Cur} (h : a.Perm b) : tot a = tot b := (h.map _).sum_nat
theorem tot_cons (x : Cur) (L : List Cur) : tot (x :: L) = x.l.length + tot L := by simp [tot]

structure MInv (ls : List (List Pt)) (out : List Pt) (L : List Cur) : Prop where
  rises : Rises out
  cur : ∀ c ∈ L, Rises c.l ∧ c.l ≠ [] ∧ ∃ l, ls[c.i]? = some l ∧ ∀ q ∈ c.l, q ∈ l
  best : ∀ p ∈ out, ∃ (i : Nat) (l : List Pt), ls[i]? = some l ∧ p ∈ l ∧ ∀ (j : Nat) (m : List Pt) (q : Pt), ls[j]? = some m → q ∈ m → q.t = p.t → q.s < p.s ∨ (q.s = p.s ∧ j ≤ i)
  has : ∀ (j : Nat) (m : List Pt) (q : Pt), ls[j]? = some m → q ∈ m → (∃ p ∈ out, p.t = q.t) ∨ ∃ c ∈ L, c.i = j ∧ q ∈ c.l
  lo : ∀ p ∈ out, ∀ c ∈ L, p.t ≤ c.p.t

theorem MInv.perm {ls : List (List Pt)} {out : List Pt} {L L' : List Cur} (h : MInv ls out L) (hp : L'.Perm L) : MInv ls out L' :=
  ⟨h.rises, fun c hc => h.cur c (hp.mem_iff.1 hc), h.best, fun j m q hj hq => (h.has j m q hj hq).imp id (fun ⟨c, hc, r⟩ => ⟨c, hp.mem_iff.2 hc, r⟩), fun p hpp c hc => h.lo p hpp c (hp.mem_iff.1 hc)⟩

theorem MInv.done {ls : List (List Pt)} {out : List Pt} (h : MInv ls out []) : IsMerge ls out :=
  ⟨h.rises, h.best, fun j m q hj hq => (h.has j m q hj hq).elim id (fun ⟨c, hc, _⟩ => by cases hc)⟩

/-- The cursor's tail. -/
def Cur.next (x y : Cur) : Prop := y.i = x.i ∧ y.l = x.l.tail

theorem head_lt {c : Cur} (h : Rises c.l) {q : Pt} (hq : q ∈ c.l) : q = c.p ∨ c.p.t < q.t := by
  cases hl : c.l with
  | nil => rw [hl] at hq; cases hq
  | cons x t =>
    have e : c.p = x := by simp [Cur.p, hl]
    rw [hl] at hq h
    rcases List.mem_cons.1 hq with e' | hq
    · left; rw [e', e]
    · right; rw [e]; exact (List.pairwise_cons.1 h).1 q hq
theorem head_mem {c : Cur} (h : c.l ≠ []) : c.p ∈ c.l := by
  cases hl : c.l with
  | nil => exact absurd hl h
  | cons x t => simp [Cur.p, hl]
theorem mem_head_tail {c : Cur} {q : Pt} (hq : q ∈ c.l) : q = c.p ∨ q ∈ c.l.tail := by
  cases hl : c.l with
  | nil => rw [hl] at hq; cases hq
  | cons x t =>
    rw [hl] at hq
    simp [Cur.p, hl]
    simpa using hq

/-- The first one is taken: out with its point if that is later, the rest as they were, its tail back if there is one. -/
theorem MInv.step {ls : List (List Pt)} {out out' : List Pt} {L L' : List Cur} {x : Cur} (h : MInv ls out (x :: L)) (hmin : ∀ y ∈ x :: L, leC x y)
    (ho : (out' = out ++ [x.p] ∧ ∀ p ∈ out, p.t < x.p.t) ∨ (out' = out ∧ ∃ p ∈ out, x.p.t ≤ p.t))
    (hL : (x.l.tail = [] ∧ L' = L) ∨ ∃ y, y.i = x.i ∧ y.l = x.l.tail ∧ y.l ≠ [] ∧ L' = y :: L) : MInv ls out' L' := by
  obtain ⟨hxr, hxne, l, hl, hsub⟩ := h.cur x (by simp)
  have hxp := head_mem hxne
  have htail : ∀ q ∈ x.l.tail, q ∈ x.l := fun q hq => List.mem_of_mem_tail hq
  have hcover : ∃ p ∈ out', p.t = x.p.t := by
    rcases ho with ⟨rfl, _⟩ | ⟨rfl, p, hp, hle⟩
    · exact ⟨x.p, by simp, rfl⟩
    · exact ⟨p, hp, by have := h.lo p hp x (by simp); omega⟩
  have hsubo : ∀ p ∈ out, p ∈ out' := by
    rcases ho with ⟨rfl, _⟩ | ⟨rfl, _⟩
    · intro p hp; simp [hp]
    · intro p hp; exact hp
  have hL' : ∀ c ∈ L', (c ∈ L) ∨ (c.i = x.i ∧ c.l = x.l.tail ∧ c.l ≠ []) := by
    intro c hc
    rcases hL with ⟨_, rfl⟩ | ⟨y, h1, h2, h3, rfl⟩
    · exact .inl hc
    · rcases List.mem_cons.1 hc with rfl | hc
      · exact .inr ⟨h1, h2, h3⟩
      · exact .inl hc
  have hsubL : ∀ c ∈ L, c ∈ L' := by
    rcases hL with ⟨_, rfl⟩ | ⟨y, _, _, _, rfl⟩
    · intro c hc; exact hc
    · intro c hc; simp [hc]
  have hle : ∀ c ∈ L', x.p.t ≤ c.p.t := by
    intro c hc
    rcases hL' c hc with hc | ⟨_, h2, h3⟩
    · have := hmin c (by simp [hc])
      unfold leC at this
      simp only [ahead, Bool.or_eq_false_iff, Bool.and_eq_false_iff, decide_eq_false_iff_not] at this
      omega
    · have hm := head_mem h3
      rw [h2] at hm
      rcases head_lt hxr (htail _ hm) with e | e
      · rw [e]; exact Int.le_refl _
      · omega
  refine ⟨?_, ?_, ?_, ?_, ?_⟩
  · rcases ho with ⟨rfl, hlt⟩ | ⟨rfl, _⟩
    · exact h.rises.snoc hlt
    · exact h.rises
  · intro c hc
    rcases hL' c hc with hc | ⟨h1, h2, h3⟩
    · exact h.cur c (by simp [hc])
    · refine ⟨by rw [h2]; exact hxr.sub (List.tail_sublist _), h3, l, by rw [h1]; exact hl, fun q hq => hsub q (htail q (h2 ▸ hq))⟩
  · intro p hp
    rcases ho with ⟨rfl, hlt⟩ | ⟨rfl, _⟩
    · rcases List.mem_append.1 hp with hp | hp
      · exact h.best p hp
      · simp at hp; subst hp
        refine ⟨x.i, l, hl, hsub _ hxp, fun j m q hj hq ht => ?_⟩
        rcases h.has j m q hj hq with ⟨p, hp, hpt⟩ | ⟨c, hc, hcj, hqc⟩
        · have := hlt p hp; omega
        · obtain ⟨hcr, hcne, _⟩ := h.cur c hc
          have hm := hmin c hc
          unfold leC at hm
          simp only [ahead, Bool.or_eq_false_iff, Bool.and_eq_false_iff, decide_eq_false_iff_not] at hm
          rcases head_lt hcr hqc with e | e
          · subst e; omega
          · omega
    · exact h.best p hp
  · intro j m q hj hq
    rcases h.has j m q hj hq with ⟨p, hp, hpt⟩ | ⟨c, hc, hcj, hqc⟩
    · exact .inl ⟨p, hsubo p hp, hpt⟩
    · rcases List.mem_cons.1 hc with rfl | hc
      · rcases mem_head_tail hqc with e | hqt
        · left; obtain ⟨p, hp, hpt⟩ := hcover; exact ⟨p, hp, by rw [e]; exact hpt⟩
        · right
          rcases hL with ⟨h0, _⟩ | ⟨y, h1, h2, _, rfl⟩
          · rw [h0] at hqt; cases hqt
          · exact ⟨y, by simp, by rw [h1]; exact hcj, by rw [h2]; exact hqt⟩
      · exact .inr ⟨c, hsubL c hc, hcj, hqc⟩
  · intro p hp c hc
    rcases ho with ⟨rfl, _⟩ | ⟨rfl, _⟩
    · rcases List.mem_append.1 hp with hp | hp
      · have h1 := h.lo p hp x (by simp); have h2 := hle c hc; omega
      · simp at hp; subst hp; exact hle c hc
    · have h1 := h.lo p hp x (by simp); have h2 := hle c hc; omega

def Sl.cur (x : Sl) (i : Nat) : Cur := ⟨x.a, x.n, x.c, x.l, i⟩
/-- The cursors of the first k lists. -/
def cursOf (ls : List Sl) : List Cur := (ls.zipIdx.filter fun p => decide (p.1.l ≠ [])).map fun p => p.1.cur p.2

theorem zipIdx_snoc {α : Type} (ls : List α) (x : α) : (ls ++ [x]).zipIdx = ls.zipIdx ++ [(x, ls.length)] := by simp [List.zipIdx_append]
theorem cursOf_snoc_nil {ls : List Sl} {x : Sl} (h : x.l = []) : cursOf (ls ++ [x]) = cursOf ls := by
  simp [cursOf, zipIdx_snoc, h]
theorem cursOf_snoc {ls : List Sl} {x : Sl} (h : x.l ≠ []) : cursOf (ls ++ [x]) = cursOf ls ++ [x.cur ls.length] := by
  simp [cursOf, zipIdx_snoc, h]
theorem cursOf_length (ls : List Sl) : (cursOf ls).length ≤ ls.length := by
  simp only [cursOf, List.length_map]
  exact Nat.le_trans (List.length_filter_le _ _) (by simp)
theorem mem_cursOf {ls : List Sl} {c : Cur} (h : c ∈ cursOf ls) : ∃ x, ls[c.i]? = some x ∧ c = x.cur c.i ∧ x.l ≠ [] := by
  simp only [cursOf, List.mem_map, List.mem_filter] at h
  obtain ⟨⟨x, i⟩, ⟨h1, h2⟩, rfl⟩ := h
  rw [List.mem_zipIdx_iff_getElem?] at h1
  exact ⟨x, h1, rfl, by simpa using h2⟩
theorem cursOf_mem {ls : List Sl} {i : Nat} {x : Sl} (h : ls[i]? = some x) (hne : x.l ≠ []) : x.cur i ∈ cursOf ls := by
  simp only [cursOf, List.mem_map, List.mem_filter]
  exact ⟨(x, i), ⟨List.mem_zipIdx_iff_getElem?.2 h, by simpa using hne⟩, rfl⟩
theorem tot_cursOf (ls : List Sl) : tot (cursOf ls) = totS ls := by
  have key : ∀ (n : Nat) (ls : List Sl), ls.length = n → tot (cursOf ls) = totS ls := by
    intro n
    induction n with
    | zero => intro ls h; rw [List.length_eq_zero_iff.1 h]; rfl
    | succ n ih =>
      intro ls h
      rcases List.eq_nil_or_concat ls with rfl | ⟨ls', x, rfl⟩
      · simp at h
      · rw [List.concat_eq_append] at *
        have ih' := ih ls' (by simpa using h)
        by_cases hx : x.l = []
        · rw [cursOf_snoc_nil hx, ih']; simp [totS, hx]
        · rw [cursOf_snoc hx]
          simp [tot, totS] at ih' ⊢
          rw [ih']; rfl
  exact key _ ls rfl

theorem MInv.start {ls : List Sl} (hr : ∀ x ∈ ls, Rises x.l) : MInv (ls.map Sl.l) [] (cursOf ls) := by
  refine ⟨Rises.nil, fun c hc => ?_, by simp, fun j m q hj hq => ?_, by simp⟩
  · obtain ⟨x, h1, h2, h3⟩ := mem_cursOf hc
    have e : c.l = x.l := by rw [h2]; rfl
    exact ⟨by rw [e]; exact hr x (List.mem_of_getElem? h1), by rw [e]; exact h3, x.l, by simp [h1], fun q hq => e ▸ hq⟩
  · simp at hj
    obtain ⟨x, h1, rfl⟩ := hj
    have hne : x.l ≠ [] := fun e => by rw [e] at hq; cases hq
    exact .inr ⟨x.cur j, cursOf_mem h1 hne, rfl, hq⟩

end Go.Proofs.Ytlgdfiapljmojaa
