/- MemtableLast: plain laws. -/
import Derived.Test.YtabnngcaohgppaaMemRoom
import Derived.Test.YtabnngcaohgppaaTabK
namespace Go.Proofs.Ytabnngcaohgppaa
open Go.RowKit Go.Sort Go.Lib

/-- What is kept of a series and a time: the value of the greatest Seq. -/
structure Ent where
  n : ByteArray
  t : Int
  v : Int
  s : Int
def Ent.key (e : Ent) : ByteArray × Int := (e.n, e.t)
def Ent.pt (e : Ent) : Pt := ⟨e.t, e.v, e.s⟩

/-- The table and what is kept. -/
structure LastI (T : List (ByteArray × Sl)) (cnt : Nat) (E : List Ent) : Prop where
  len : E.length = cnt
  few : T.length ≤ cnt
  mem : ∀ e ∈ E, e.pt ∈ tabPts T e.n
  has : ∀ n t, hasL (tabPts T n) t = true ↔ (n, t) ∈ E.map Ent.key
  nodup : (E.map Ent.key).Nodup

theorem LastI.start : LastI [] 0 [] := ⟨rfl, Nat.le_refl _, by simp, fun n t => by rw [hasL_none]; simp, by simp⟩

theorem tabPts_put (T : List (ByteArray × Sl)) (name : ByteArray) (s : Sl) : tabPts (aput T name s) name = s.l := by simp [tabPts, tabSl, aget_put_same]
theorem tabPts_other (T : List (ByteArray × Sl)) {name n' : ByteArray} (s : Sl) (e : n' ≠ name) : tabPts (aput T name s) n' = tabPts T n' := by simp [tabPts, tabSl, aget_put_other T s e]

theorem aput_len {α β : Type} [DecidableEq α] (T : List (α × β)) (k : α) (s : β) : (aput T k s).length = if aget T k = none then T.length + 1 else T.length := by
  split
  · rename_i h; rw [aput_new _ h]; simp
  · rename_i h; have := congrArg List.length (aput_keys_old (m := T) (k := k) s h); simpa using this
theorem hasL_some {T : List (ByteArray × Sl)} {n : ByteArray} {t : Int} (h : hasL (tabPts T n) t = true) : aget T n ≠ none := by
  intro e
  simp [tabPts, tabSl, e, hasL] at h

/-- The point that is kept of a merge with one point. -/
theorem merge_one {l out : List Pt} {p q : Pt} (hr : Rises l) (h : IsMerge [l, [p]] out) (hq : q ∈ l) (ht : q.t = p.t) : (if q.s ≤ p.s then p else q) ∈ out := by
  obtain ⟨x, hx, hxt⟩ := h.has 1 [p] p rfl (by simp)
  obtain ⟨i, m, hi, hm, hb⟩ := h.best x hx
  match i, hi with
  | 0, hi =>
    simp at hi; subst hi
    have hxq : x = q := hr.same hm hq (by omega)
    subst hxq
    have := hb 1 [p] p rfl (by simp) hxt.symm
    rw [if_neg (by omega)]; exact hx
  | 1, hi =>
    simp at hi; subst hi
    simp at hm; subst hm
    have := hb 0 l q rfl hq ht
    rw [if_pos (by omega)]; exact hx
  | i + 2, hi => simp at hi
theorem merge_new {l out : List Pt} {p : Pt} (h : IsMerge [l, [p]] out) (hn : hasL l p.t = false) : p ∈ out := by
  obtain ⟨x, hx, hxt⟩ := h.has 1 [p] p rfl (by simp)
  obtain ⟨i, m, hi, hm, _⟩ := h.best x hx
  match i, hi with
  | 0, hi =>
    simp at hi; subst hi
    have : hasL l p.t = true := hasL_iff.2 (List.mem_map.2 ⟨x, hm, hxt⟩)
    rw [hn] at this; cases this
  | 1, hi =>
    simp at hi; subst hi
    simp at hm; subst hm
    exact hx
  | i + 2, hi => simp at hi
theorem merge_old {l out : List Pt} {p q : Pt} (hr : Rises l) (h : IsMerge [l, [p]] out) (hq : q ∈ l) (ht : q.t ≠ p.t) : q ∈ out := by
  obtain ⟨x, hx, hxt⟩ := h.has 0 l q rfl hq
  obtain ⟨i, m, hi, hm, _⟩ := h.best x hx
  match i, hi with
  | 0, hi =>
    simp at hi; subst hi
    have := hr.same hm hq hxt
    subst this; exact hx
  | 1, hi =>
    simp at hi; subst hi
    simp at hm; subst hm
    exact absurd hxt.symm ht
  | i + 2, hi => simp at hi

theorem LastI.put_new {T : List (ByteArray × Sl)} {cnt : Nat} {E : List Ent} {n : ByteArray} {p : Pt} {s : Sl} (h : LastI T cnt E) (hr : Rises (tabPts T n)) (hm : IsMerge [tabPts T n, [p]] s.l) (hn : hasL (tabPts T n) p.t = false) :
    LastI (aput T n s) (cnt + 1) (E ++ [⟨n, p.t, p.v, p.s⟩]) := by
  have hk : (n, p.t) ∉ E.map Ent.key := fun hmem => by have := (h.has n p.t).2 hmem; rw [hn] at this; cases this
  refine ⟨by simp [h.len], ?_, fun e he => ?_, fun n' t' => ?_, ?_⟩
  · rw [aput_len]; have := h.few; split <;> omega
  · rcases List.mem_append.1 he with he | he
    · by_cases hne : e.n = n
      · have h1 := h.mem e he
        rw [hne] at h1 ⊢
        rw [tabPts_put]
        refine merge_old hr hm h1 (fun ht => hk ?_)
        exact List.mem_map.2 ⟨e, he, by simp only [Ent.key, hne]; rw [← ht]; rfl⟩
      · rw [tabPts_other T s hne]; exact h.mem e he
    · simp at he
      subst he
      rw [tabPts_put]
      exact merge_new hm hn
  · rw [hasL_put hm, h.has]
    simp [Ent.key]
  · rw [List.map_append, List.nodup_append]
    refine ⟨h.nodup, by simp, fun a ha b hb e => ?_⟩
    simp [Ent.key] at hb
    subst e
    rw [hb] at ha
    exact hk ha
theorem LastI.put_old {T : List (ByteArray × Sl)} {cnt k : Nat} {E : List Ent} {e : Ent} {n : ByteArray} {p : Pt} {s : Sl} (h : LastI T cnt E) (hr : Rises (tabPts T n)) (hm : IsMerge [tabPts T n, [p]] s.l) (hk : E[k]? = some e) (hen : e.n = n) (het : e.t = p.t) :
    LastI (aput T n s) cnt (E.set k (if e.s ≤ p.s then ⟨n, p.t, p.v, p.s⟩ else e)) := by
  obtain ⟨hkl, hke⟩ := List.getElem?_eq_some_iff.1 hk
  have hmemE := List.mem_of_getElem? hk
  have hkeys : (E.set k (if e.s ≤ p.s then ⟨n, p.t, p.v, p.s⟩ else e)).map Ent.key = E.map Ent.key := by
    rw [List.map_set]
    have e1 : Ent.key (if e.s ≤ p.s then ⟨n, p.t, p.v, p.s⟩ else e) = e.key := by
      split
      · simp [Ent.key, hen, het]
      · rfl
    rw [e1]
    refine List.ext_getElem? (fun j => ?_)
    rw [List.getElem?_set]
    split
    · rename_i hj
      subst hj
      simp [hkl, ← hke]
    · rfl
  have hhas : hasL (tabPts T n) p.t = true := (h.has n p.t).2 (List.mem_map.2 ⟨e, hmemE, by simp [Ent.key, hen, het]⟩)
  have hpt : e.pt ∈ tabPts T n := by have := h.mem e hmemE; rwa [hen] at this
  have hone := merge_one hr hm hpt (by show e.t = p.t; exact het)
  refine ⟨by simp [h.len], ?_, fun x hx => ?_, fun n' t' => ?_, by rw [hkeys]; exact h.nodup⟩
  · rw [aput_len, if_neg (hasL_some hhas)]; exact h.few
  · obtain ⟨j, hj⟩ := List.getElem?_of_mem hx
    rw [List.getElem?_set] at hj
    split at hj
    · rename_i hjk
      subst hjk
      simp only [Option.some.injEq] at hj
      subst hj
      split
      · rename_i hle
        rw [tabPts_put]
        have : e.pt.s ≤ p.s := hle
        rw [if_pos this] at hone
        exact hone
      · rename_i hle
        rw [hen, tabPts_put]
        have : ¬ e.pt.s ≤ p.s := hle
        rw [if_neg this] at hone
        exact hone
    · rename_i hjk
      have hxE := List.mem_of_getElem? hj
      by_cases hne : x.n = n
      · have h1 := h.mem x hxE
        rw [hne] at h1 ⊢
        rw [tabPts_put]
        refine merge_old hr hm h1 (fun ht => hjk ?_)
        have hnd := h.nodup
        rw [List.nodup_iff_pairwise_ne, List.pairwise_iff_getElem] at hnd
        obtain ⟨hjl, hje⟩ := List.getElem?_eq_some_iff.1 hj
        have hkk : x.key = e.key := by simp only [Ent.key, hne, hen, het]; rw [← ht]; rfl
        rcases Nat.lt_trichotomy k j with hlt | heq | hlt
        · exact absurd (by rw [List.getElem_map, List.getElem_map, hke, hje]; exact hkk.symm) (hnd k j (by simpa using hkl) (by simpa using hjl) hlt)
        · exact heq
        · exact absurd (by rw [List.getElem_map, List.getElem_map, hke, hje]; exact hkk) (hnd j k (by simpa using hjl) (by simpa using hkl) hlt)
      · rw [tabPts_other T s hne]; exact h.mem x hxE
  · rw [hasL_put hm, h.has, hkeys]
    constructor
    · rintro (h1 | h1)
      · exact h1
      · rw [h1]; exact List.mem_map.2 ⟨e, hmemE, by simp [Ent.key, hen, het]⟩
    · exact .inl

/-- A point of a table, told by its time alone. -/
theorem cut_one {l : List Pt} {p : Pt} (hr : Rises l) (hp : p ∈ l) : cutL p.t (p.t + 1) l = [p] := by
  refine Rises.eq (hr.cut _ _) (Rises.one p) (fun q => ?_)
  rw [mem_cutL]
  simp only [List.mem_singleton]
  constructor
  · rintro ⟨h1, h2, h3⟩
    exact hr.same h1 hp (by omega)
  · rintro rfl
    exact ⟨hp, by omega, by omega⟩
/-- The points of all parts are as many as the table tells. -/
theorem parts_sum {T : List (ByteArray × Sl)} {L : List (ByteArray × Sl)} (hn : (T.map (·.1)).Nodup) (hL : L.map (·.1) = tabNames T) (hp : ∀ p ∈ L, p.2.l = tabPts T p.1) : (L.map fun p => p.2.l.length).sum = (T.map fun p => p.2.l.length).sum := by
  have h1 : (L.map fun p => p.2.l.length) = (L.map (·.1)).map fun s => (tabPts T s).length := by
    rw [List.map_map]
    exact List.map_congr_left (fun p h => by simp [hp p h])
  have h2 : (T.map fun p => p.2.l.length) = (T.map (·.1)).map fun s => (tabPts T s).length := by
    rw [List.map_map]
    refine List.map_congr_left (fun p h => ?_)
    simp [tabPts, tabSl, aget_of_mem hn h]
  rw [h1, h2, hL, tabNames]
  exact ((sortS_perm _).map _).sum_nat
end Go.Proofs.Ytabnngcaohgppaa
