/- Points, rising lists, and what the merge of lists is: plain laws. -/
namespace Go.Proofs.YtokllgdbmnmieaaGreat

/-- A point: its time, value, and Seq. -/
structure Pt where
  t : Int
  v : Int
  s : Int
deriving DecidableEq, Inhabited

/-- Rising. -/
def Rises (l : List Pt) : Prop := l.Pairwise fun p q => p.t < q.t

def risesB : List Pt → Bool
  | [] => true
  | [_] => true
  | p :: q :: l => decide (p.t < q.t) && risesB (q :: l)

theorem risesB_iff (l : List Pt) : risesB l = true ↔ ∀ (i : Nat) (p q : Pt), l[i]? = some p → l[i + 1]? = some q → p.t < q.t := by
  induction l with
  | nil => simp [risesB]
  | cons p l ih =>
    cases l with
    | nil => simp [risesB]
    | cons q l =>
      simp only [risesB, Bool.and_eq_true, decide_eq_true_eq, ih]
      constructor
      · rintro ⟨h1, h2⟩ i x y hx hy
        cases i with
        | zero => simp at hx hy; subst hx hy; exact h1
        | succ i => exact h2 i x y (by simpa using hx) (by simpa using hy)
      · intro h
        exact ⟨h 0 p q rfl rfl, fun i x y hx hy => h (i + 1) x y (by simpa using hx) (by simpa using hy)⟩

theorem rises_iff (l : List Pt) : risesB l = true ↔ Rises l := by
  induction l with
  | nil => simp [risesB, Rises]
  | cons p l ih =>
    cases l with
    | nil => simp [risesB, Rises]
    | cons q l =>
      simp only [risesB, Bool.and_eq_true, decide_eq_true_eq, ih, Rises]
      rw [List.pairwise_cons (a := p)]
      constructor
      · rintro ⟨h1, h2⟩
        refine ⟨fun x hx => ?_, h2⟩
        rcases List.mem_cons.1 hx with rfl | hx
        · exact h1
        · have := (List.pairwise_cons.1 h2).1 x hx; omega
      · rintro ⟨h1, h2⟩
        exact ⟨h1 q (by simp), h2⟩

theorem Rises.nil : Rises [] := List.Pairwise.nil
theorem Rises.one (p : Pt) : Rises [p] := by simp [Rises]
theorem Rises.same {l : List Pt} (h : Rises l) {p q : Pt} (hp : p ∈ l) (hq : q ∈ l) (ht : p.t = q.t) : p = q := by
  induction l with
  | nil => cases hp
  | cons x l ih =>
    have h' := List.pairwise_cons.1 h
    rcases List.mem_cons.1 hp with ep | hp
    · rcases List.mem_cons.1 hq with eq | hq
      · rw [ep, eq]
      · have := h'.1 q hq; subst ep; omega
    · rcases List.mem_cons.1 hq with eq | hq
      · have := h'.1 p hp; subst eq; omega
      · exact ih h'.2 hp hq
theorem Rises.sub {l k : List Pt} (h : Rises l) (hs : List.Sublist k l) : Rises k := List.Pairwise.sublist hs h
theorem Rises.snoc {l : List Pt} (h : Rises l) {p : Pt} (hp : ∀ q ∈ l, q.t < p.t) : Rises (l ++ [p]) := by
  unfold Rises
  rw [List.pairwise_append]
  exact ⟨h, by simp, fun a ha b hb => by simp at hb; subst hb; exact hp a ha⟩
theorem Rises.lt_of_last {l : List Pt} (h : Rises l) {x p : Pt} (hx : l.getLast? = some x) (ht : x.t < p.t) : ∀ q ∈ l, q.t < p.t := by
  intro q hq
  rcases List.eq_nil_or_concat l with rfl | ⟨k, y, rfl⟩
  · simp at hx
  · rw [List.concat_eq_append] at *
    simp at hx; subst hx
    unfold Rises at h
    rw [List.pairwise_append] at h
    rcases List.mem_append.1 hq with hq | hq
    · have := h.2.2 q hq y (by simp); omega
    · simp at hq; subst hq; exact ht
theorem Rises.at {l : List Pt} (h : Rises l) {i j : Nat} {p q : Pt} (hp : l[i]? = some p) (hq : l[j]? = some q) (hij : i < j) : p.t < q.t := by
  obtain ⟨hi, rfl⟩ := List.getElem?_eq_some_iff.1 hp
  obtain ⟨hj, rfl⟩ := List.getElem?_eq_some_iff.1 hq
  exact List.pairwise_iff_getElem.1 h i j hi hj hij

theorem Rises.eq {a b : List Pt} (ha : Rises a) (hb : Rises b) (h : ∀ p, p ∈ a ↔ p ∈ b) : a = b := by
  induction a generalizing b with
  | nil =>
    cases b with
    | nil => rfl
    | cons y b => have := (h y).2 (by simp); cases this
  | cons x a ih =>
    cases b with
    | nil => have := (h x).1 (by simp); cases this
    | cons y b =>
      have ha' := List.pairwise_cons.1 ha
      have hb' := List.pairwise_cons.1 hb
      have exy : x = y := by
        rcases List.mem_cons.1 ((h x).1 (by simp)) with e | hx
        · exact e
        · rcases List.mem_cons.1 ((h y).2 (by simp)) with e | hy
          · exact e.symm
          · have := ha'.1 y hy; have := hb'.1 x hx; omega
      subst exy
      congr 1
      refine ih ha'.2 hb'.2 fun p => ⟨fun hp => ?_, fun hp => ?_⟩
      · rcases List.mem_cons.1 ((h p).1 (by simp [hp])) with rfl | h1
        · have := ha'.1 p hp; omega
        · exact h1
      · rcases List.mem_cons.1 ((h p).2 (by simp [hp])) with rfl | h1
        · have := hb'.1 p hp; omega
        · exact h1

/-- The merge of lists: rising; each point is the best one of its time, by its Seq, then by its list; and each time is there. -/
structure IsMerge (ls : List (List Pt)) (out : List Pt) : Prop where
  rises : Rises out
  best : ∀ p ∈ out, ∃ (i : Nat) (l : List Pt), ls[i]? = some l ∧ p ∈ l ∧ ∀ (j : Nat) (m : List Pt) (q : Pt), ls[j]? = some m → q ∈ m → q.t = p.t → q.s < p.s ∨ (q.s = p.s ∧ j ≤ i)
  has : ∀ (j : Nat) (m : List Pt) (q : Pt), ls[j]? = some m → q ∈ m → ∃ p ∈ out, p.t = q.t

theorem IsMerge.nil : IsMerge [] [] := ⟨Rises.nil, by simp, by simp⟩

theorem IsMerge.unique {ls : List (List Pt)} (hr : ∀ l ∈ ls, Rises l) {a b : List Pt} (ha : IsMerge ls a) (hb : IsMerge ls b) : a = b := by
  have key : ∀ {a b : List Pt}, IsMerge ls a → IsMerge ls b → ∀ p, p ∈ a → p ∈ b := by
    intro a b ha hb p hp
    obtain ⟨i, l, hi, hpl, hbest⟩ := ha.best p hp
    obtain ⟨q, hq, hqt⟩ := hb.has i l p hi hpl
    obtain ⟨j, m, hj, hqm, hbest'⟩ := hb.best q hq
    have h1 := hbest j m q hj hqm hqt
    have h2 := hbest' i l p hi hpl hqt.symm
    obtain rfl : i = j := by omega
    rw [hi] at hj
    cases hj
    have := (hr l (List.mem_of_getElem? hi)).same hpl hqm hqt.symm
    rw [this]; exact hq
  exact ha.rises.eq hb.rises fun p => ⟨key ha hb p, key hb ha p⟩

theorem IsMerge.single {l : List Pt} (h : Rises l) : IsMerge [l] l := by
  refine ⟨h, fun p hp => ⟨0, l, rfl, hp, fun j m q hj hq ht => ?_⟩, fun j m q hj hq => ?_⟩
  · cases j with
    | zero => simp at hj; subst hj; have := h.same hq hp ht; subst this; exact .inr ⟨rfl, Nat.le_refl _⟩
    | succ j => simp at hj
  · cases j with
    | zero => simp at hj; subst hj; exact ⟨q, hq, rfl⟩
    | succ j => simp at hj

/-- Merges that are merged. -/
theorem IsMerge.append {A B : List (List Pt)} {a b c : List Pt} (ha : IsMerge A a) (hb : IsMerge B b) (hc : IsMerge [a, b] c) : IsMerge (A ++ B) c := by
  have pa : ∀ {p : Pt}, p ∈ c → p ∈ a → (∀ q ∈ a, q.t = p.t → q.s < p.s ∨ q.s = p.s) → (∀ q ∈ b, q.t = p.t → q.s < p.s) → ∃ (i : Nat) (l : List Pt), (A ++ B)[i]? = some l ∧ p ∈ l ∧ ∀ (j : Nat) (m : List Pt) (q : Pt), (A ++ B)[j]? = some m → q ∈ m → q.t = p.t → q.s < p.s ∨ (q.s = p.s ∧ j ≤ i) := by
    intro p _ hpa _ h2
    obtain ⟨i, l, hi, hpl, hbest⟩ := ha.best p hpa
    have hil := (List.getElem?_eq_some_iff.1 hi).1
    refine ⟨i, l, by rw [List.getElem?_append_left hil]; exact hi, hpl, fun j m q hj hq ht => ?_⟩
    rcases Nat.lt_or_ge j A.length with hjl | hjl
    · rw [List.getElem?_append_left hjl] at hj; exact hbest j m q hj hq ht
    · rw [List.getElem?_append_right hjl] at hj
      obtain ⟨x, hx, hxt⟩ := hb.has _ m q hj hq
      obtain ⟨i', l', hi', hpl', hbest'⟩ := hb.best x hx
      have h3 := hbest' _ m q hj hq hxt.symm
      have h4 := h2 x hx (by omega)
      left; omega
  have pb : ∀ {p : Pt}, p ∈ b → (∀ q ∈ a, q.t = p.t → q.s < p.s ∨ q.s = p.s) → ∃ (i : Nat) (l : List Pt), (A ++ B)[i]? = some l ∧ p ∈ l ∧ ∀ (j : Nat) (m : List Pt) (q : Pt), (A ++ B)[j]? = some m → q ∈ m → q.t = p.t → q.s < p.s ∨ (q.s = p.s ∧ j ≤ i) := by
    intro p hpb h1
    obtain ⟨i, l, hi, hpl, hbest⟩ := hb.best p hpb
    refine ⟨A.length + i, l, by rw [List.getElem?_append_right (by omega)]; simpa using hi, hpl, fun j m q hj hq ht => ?_⟩
    rcases Nat.lt_or_ge j A.length with hjl | hjl
    · rw [List.getElem?_append_left hjl] at hj
      obtain ⟨x, hx, hxt⟩ := ha.has _ m q hj hq
      obtain ⟨i', l', hi', hpl', hbest'⟩ := ha.best x hx
      have h3 := hbest' _ m q hj hq hxt.symm
      have h4 := h1 x hx (by omega)
      omega
    · rw [List.getElem?_append_right hjl] at hj
      have := hbest _ m q hj hq ht
      omega
  refine ⟨hc.rises, fun p hp => ?_, fun j m q hj hq => ?_⟩
  · obtain ⟨i, l, hi, hpl, hbest⟩ := hc.best p hp
    match i, hi with
    | 0, hi =>
      simp at hi; subst hi
      refine pa hp hpl (fun q hq ht => ?_) (fun q hq ht => ?_)
      · have := hbest 0 a q rfl hq ht; omega
      · have := hbest 1 b q rfl hq ht; omega
    | 1, hi =>
      simp at hi; subst hi
      refine pb hpl (fun q hq ht => ?_)
      have := hbest 0 a q rfl hq ht; omega
    | i + 2, hi => simp at hi
  · rcases Nat.lt_or_ge j A.length with hjl | hjl
    · rw [List.getElem?_append_left hjl] at hj
      obtain ⟨x, hx, hxt⟩ := ha.has _ m q hj hq
      obtain ⟨y, hy, hyt⟩ := hc.has 0 a x rfl hx
      exact ⟨y, hy, by omega⟩
    · rw [List.getElem?_append_right hjl] at hj
      obtain ⟨x, hx, hxt⟩ := hb.has _ m q hj hq
      obtain ⟨y, hy, hyt⟩ := hc.has 1 b x rfl hx
      exact ⟨y, hy, by omega⟩

/-- The same without the lists' order. -/
structure IsBest (S : Pt → Prop) (out : List Pt) : Prop where
  rises : Rises out
  best : ∀ p ∈ out, S p ∧ ∀ q, S q → q.t = p.t → q.s ≤ p.s
  has : ∀ q, S q → ∃ p ∈ out, p.t = q.t

theorem IsMerge.isBest {ls : List (List Pt)} {out : List Pt} (h : IsMerge ls out) : IsBest (fun p => ∃ l ∈ ls, p ∈ l) out := by
  refine ⟨h.rises, fun p hp => ?_, fun q ⟨l, hl, hq⟩ => ?_⟩
  · obtain ⟨i, l, hi, hpl, hb⟩ := h.best p hp
    refine ⟨⟨l, List.mem_of_getElem? hi, hpl⟩, fun q ⟨m, hm, hq⟩ ht => ?_⟩
    obtain ⟨j, hj, rfl⟩ := List.mem_iff_getElem.1 hm
    have := hb j _ q (List.getElem?_eq_getElem hj) hq ht
    omega
  · obtain ⟨j, hj, rfl⟩ := List.mem_iff_getElem.1 hl
    exact h.has j _ q (List.getElem?_eq_getElem hj) hq

theorem IsBest.unique {S : Pt → Prop} (hown : ∀ p q, S p → S q → p.t = q.t → p.s = q.s → p = q) {a b : List Pt} (ha : IsBest S a) (hb : IsBest S b) : a = b := by
  have key : ∀ {a b : List Pt}, IsBest S a → IsBest S b → ∀ p, p ∈ a → p ∈ b := by
    intro a b ha hb p hp
    obtain ⟨hs, h1⟩ := ha.best p hp
    obtain ⟨q, hq, hqt⟩ := hb.has p hs
    obtain ⟨hsq, h2⟩ := hb.best q hq
    have h3 := h1 q hsq hqt
    have h4 := h2 p hs hqt.symm
    rw [hown p q hs hsq hqt.symm (by omega)]; exact hq
  exact ha.rises.eq hb.rises fun p => ⟨key ha hb p, key hb ha p⟩

theorem IsBest.join {A B : Pt → Prop} {a b c : List Pt} (ha : IsBest A a) (hb : IsBest B b) (hc : IsBest (fun p => p ∈ a ∨ p ∈ b) c) : IsBest (fun p => A p ∨ B p) c := by
  refine ⟨hc.rises, fun p hp => ?_, fun q hq => ?_⟩
  · obtain ⟨h1, h2⟩ := hc.best p hp
    refine ⟨h1.imp (fun h => (ha.best p h).1) (fun h => (hb.best p h).1), fun q hq ht => ?_⟩
    rcases hq with hq | hq
    · obtain ⟨x, hx, hxt⟩ := ha.has q hq
      have h3 := (ha.best x hx).2 q hq hxt.symm
      have h4 := h2 x (.inl hx) (by omega)
      omega
    · obtain ⟨x, hx, hxt⟩ := hb.has q hq
      have h3 := (hb.best x hx).2 q hq hxt.symm
      have h4 := h2 x (.inr hx) (by omega)
      omega
  · rcases hq with hq | hq
    · obtain ⟨x, hx, hxt⟩ := ha.has q hq
      obtain ⟨y, hy, hyt⟩ := hc.has x (.inl hx)
      exact ⟨y, hy, by omega⟩
    · obtain ⟨x, hx, hxt⟩ := hb.has q hq
      obtain ⟨y, hy, hyt⟩ := hc.has x (.inr hx)
      exact ⟨y, hy, by omega⟩

/-- The points of a span. -/
def cutL (a b : Int) (l : List Pt) : List Pt := l.filter fun p => decide (a ≤ p.t) && decide (p.t < b)
theorem mem_cutL {a b : Int} {l : List Pt} {p : Pt} : p ∈ cutL a b l ↔ p ∈ l ∧ a ≤ p.t ∧ p.t < b := by simp [cutL]
theorem Rises.cut {l : List Pt} (h : Rises l) (a b : Int) : Rises (cutL a b l) := h.sub List.filter_sublist
theorem IsMerge.cut {ls : List (List Pt)} {out : List Pt} (h : IsMerge ls out) (a b : Int) : IsMerge (ls.map (cutL a b)) (cutL a b out) := by
  refine ⟨h.rises.cut a b, fun p hp => ?_, fun j m q hj hq => ?_⟩
  · rw [mem_cutL] at hp
    obtain ⟨i, l, hi, hpl, hb⟩ := h.best p hp.1
    refine ⟨i, cutL a b l, by simp [hi], mem_cutL.2 ⟨hpl, hp.2⟩, fun j m q hj hq ht => ?_⟩
    simp at hj
    obtain ⟨m', hj', rfl⟩ := hj
    exact hb j m' q hj' (mem_cutL.1 hq).1 ht
  · simp at hj
    obtain ⟨m', hj', rfl⟩ := hj
    rw [mem_cutL] at hq
    obtain ⟨p, hp, hpt⟩ := h.has j m' q hj' hq.1
    exact ⟨p, mem_cutL.2 ⟨hp, by omega⟩, hpt⟩

end Go.Proofs.YtokllgdbmnmieaaGreat
