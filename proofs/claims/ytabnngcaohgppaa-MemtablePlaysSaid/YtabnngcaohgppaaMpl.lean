/- MemtablePlays: the table and the document's, as plain lists. -/
import Derived.Test.YtabnngcaohgppaaRtr
import Derived.Test.YtabnngcaohgppaaRtg
import Derived.Test.YtabnngcaohgppaaTabK
namespace Go.Proofs.Ytabnngcaohgppaa
open Go.RowKit Go.Sort Go.Lib

theorem bless_eq (a b : ByteArray) : Op.bytesLess a.toList b.toList = decide (bl a < bl b) := by
  rw [bytesLess_eq, ByteArray.toList_eq, ByteArray.toList_eq]; rfl

/-- One table as the other. -/
structure TabTwo (T L : List (ByteArray × Sl)) : Prop where
  nodup : (T.map (·.1)).Nodup
  names : L.map (·.1) = tabNames T
  pts : ∀ s, tabPts T s = tabPts L s
  pos : ∀ p ∈ T, 0 < p.2.l.length
theorem TabTwo.nil : TabTwo [] [] := ⟨by simp, by simp [tabNames, sortS], fun _ => rfl, by simp⟩
theorem TabTwo.perm {T L : List (ByteArray × Sl)} (h : TabTwo T L) : (L.map (·.1)).Perm (T.map (·.1)) := by rw [h.names]; exact sortS_perm _
theorem TabTwo.nodupL {T L : List (ByteArray × Sl)} (h : TabTwo T L) : (L.map (·.1)).Nodup := h.perm.symm.nodup h.nodup
theorem TabTwo.len {T L : List (ByteArray × Sl)} (h : TabTwo T L) : L.length = T.length := by simpa using h.perm.length_eq
theorem TabTwo.mem {T L : List (ByteArray × Sl)} (h : TabTwo T L) (s : ByteArray) : s ∈ L.map (·.1) ↔ s ∈ T.map (·.1) := h.perm.mem_iff
theorem map_pts {L : List (ByteArray × Sl)} (hn : (L.map (·.1)).Nodup) : L.map (fun p => (p.1, p.2.l)) = (L.map (·.1)).map (fun s => (s, tabPts L s)) := by
  rw [List.map_map]
  apply List.map_congr_left
  intro p hp
  simp [tabPts, tabSl, aget_of_mem hn hp]
theorem map_lens {L : List (ByteArray × Sl)} (hn : (L.map (·.1)).Nodup) : (L.map fun p => p.2.l.length) = (L.map (·.1)).map (fun s => (tabPts L s).length) := by
  rw [List.map_map]
  apply List.map_congr_left
  intro p hp
  simp [tabPts, tabSl, aget_of_mem hn hp]
theorem TabTwo.sum {T L : List (ByteArray × Sl)} (h : TabTwo T L) : (L.map fun p => p.2.l.length).sum = (T.map fun p => p.2.l.length).sum := by
  rw [map_lens h.nodupL, map_lens h.nodup]
  have e : (fun s => (tabPts L s).length) = fun s => (tabPts T s).length := by funext s; rw [h.pts]
  rw [e]
  exact (h.perm.map _).sum_nat

/-- The parts that the table tells are the document's. -/
theorem TabTwo.parts {T L K : List (ByteArray × Sl)} (h : TabTwo T L) (hk : K.map (·.1) = tabNames T) (hp : ∀ p ∈ K, p.2.l = tabPts T p.1) : K.map (fun p => (p.1, p.2.l)) = L.map (fun p => (p.1, p.2.l)) := by
  rw [map_pts h.nodupL, h.names, ← hk, List.map_map]
  apply List.map_congr_left
  intro p hpm
  simp [hp p hpm, h.pts]

theorem aget_ext {A B : List (ByteArray × Sl)} (ha : (A.map (·.1)).Nodup) (hb : (B.map (·.1)).Nodup) {s : ByteArray} (h : ∀ x, (s, x) ∈ A ↔ (s, x) ∈ B) : aget A s = aget B s := by
  cases hx : aget B s with
  | some x => exact aget_of_mem ha ((h x).2 (aget_mem hx))
  | none =>
    cases hy : aget A s with
    | none => rfl
    | some y => rw [aget_of_mem hb ((h y).1 (aget_mem hy))] at hx; cases hx

theorem put_names {T L L' : List (ByteArray × Sl)} {name : ByteArray} {s t : Sl} (h : TabTwo T L) (hp : PutL L name t L') : L'.map (·.1) = tabNames (aput T name s) := by
  rcases hp with ⟨r, q, hr, rfl, rfl⟩ | ⟨hno, k, hb, hlast⟩
  · have hq : q.1 ∈ T.map (·.1) := (h.mem _).1 (List.mem_map.2 ⟨q, List.mem_of_getElem? hr, rfl⟩)
    unfold tabNames
    rw [aput_keys_old s (fun e => (aget_none_iff.1 e) hq)]
    have : (L.set r (q.1, t)).map (·.1) = L.map (·.1) := by
      apply List.ext_getElem?
      intro i
      rw [List.getElem?_map, List.getElem?_map, List.getElem?_set]
      split
      · rename_i e
        subst e
        rw [if_pos (List.getElem?_eq_some_iff.1 hr).1, hr]; rfl
      · rfl
    rw [this]; exact h.names
  · have hnT : aget T name = none := aget_none_iff.2 (fun hm => by
      obtain ⟨p, hp, e⟩ := List.mem_map.1 ((h.mem _).2 hm)
      exact hno p hp e)
    unfold tabNames
    rw [aput_new s hnT, List.map_append]
    refine sorted_unique ?_ ?_ (sortS_sorted _)
    · refine List.Perm.trans ?_ (sortS_perm _).symm
      rw [hb.eq, List.map_append, List.map_cons]
      refine List.Perm.trans List.perm_middle ?_
      refine List.Perm.trans ?_ (List.perm_append_comm (l₁ := [name]))
      refine List.Perm.cons _ ?_
      rw [← List.map_append, List.take_append_drop]
      exact h.perm
    · have hs : (L.map (·.1)).Pairwise fun a b => bl a ≤ bl b := by rw [h.names]; exact sortS_sorted _
      rw [List.pairwise_map] at hs
      have hs2 := hs
      rw [← List.take_append_drop k L, List.pairwise_append] at hs2
      obtain ⟨p1, p2, p3⟩ := hs2
      rw [hb.eq, List.pairwise_map, List.pairwise_append]
      have hle : ∀ a ∈ L.take k, bl a.1 ≤ bl name := by
        intro a ha
        cases k with
        | zero => simp at ha
        | succ j =>
          have hk := hb.le
          have hj : L[j]? = some L[j] := List.getElem?_eq_getElem (by omega)
          have h1 := hlast j _ rfl hj
          rw [bless_eq] at h1
          have h2 : bl (L[j]).1 ≤ bl name := by
            have : ¬ bl name < bl (L[j]).1 := by simpa using h1
            exact List.not_lt.1 this
          rw [List.take_add_one, hj, List.mem_append] at ha
          rcases ha with ha | ha
          · rw [List.take_add_one, hj, List.pairwise_append] at p1
            exact List.le_trans (p1.2.2 a ha L[j] (by simp)) h2
          · simp at ha; subst ha; exact h2
      have hge : ∀ b ∈ L.drop k, bl name ≤ bl b.1 := by
        intro b hbm
        have h1 := hb.gt b hbm
        rw [bless_eq] at h1
        have h2 : bl name < bl b.1 := by simpa using h1
        exact List.le_of_lt h2
      refine ⟨p1, List.pairwise_cons.2 ⟨hge, p2⟩, fun a ha b hbm => ?_⟩
      rcases List.mem_cons.1 hbm with rfl | hbm
      · exact hle a ha
      · exact p3 a ha b hbm

theorem put_mem {L L' : List (ByteArray × Sl)} {name : ByteArray} {t : Sl} (hn : (L.map (·.1)).Nodup) (hp : PutL L name t L') : (name, t) ∈ L' ∧ (∀ x ∈ L', x = (name, t) ∨ x ∈ L) ∧ ∀ s x, s ≠ name → ((s, x) ∈ L' ↔ (s, x) ∈ L) := by
  rcases hp with ⟨r, q, hr, rfl, rfl⟩ | ⟨hno, k, hb, hlast⟩
  · have hlt := (List.getElem?_eq_some_iff.1 hr).1
    have h1 : (q.1, t) ∈ L.set r (q.1, t) := List.mem_of_getElem? (i := r) (by rw [List.getElem?_set, if_pos rfl, if_pos hlt])
    refine ⟨h1, fun x hx => (List.mem_or_eq_of_mem_set hx).symm, fun s x hs => ⟨fun hx => ?_, fun hx => ?_⟩⟩
    · rcases List.mem_or_eq_of_mem_set hx with hx | hx
      · exact hx
      · cases hx; exact absurd rfl hs
    · obtain ⟨i, hi⟩ := List.mem_iff_getElem?.1 hx
      refine List.mem_of_getElem? (i := i) ?_
      rw [List.getElem?_set]
      split
      · rename_i e
        subst e
        rw [hr] at hi
        cases hi
        exact absurd rfl hs
      · exact hi
  · rw [hb.eq]
    refine ⟨by simp, fun x hx => ?_, fun s x hs => ?_⟩
    · rcases List.mem_append.1 hx with hx | hx
      · exact .inr (List.mem_of_mem_take hx)
      · rcases List.mem_cons.1 hx with hx | hx
        · exact .inl hx
        · exact .inr (List.mem_of_mem_drop hx)
    · have key : (s, x) ∈ L ↔ (s, x) ∈ L.take k ∨ (s, x) ∈ L.drop k := by
        rw [← List.mem_append, List.take_append_drop]
      rw [key, List.mem_append, List.mem_cons]
      constructor
      · rintro (h | h | h)
        · exact .inl h
        · cases h; exact absurd rfl hs
        · exact .inr h
      · rintro (h | h)
        · exact .inl h
        · exact .inr (.inr h)

theorem TabTwo.put {T L L' : List (ByteArray × Sl)} {name : ByteArray} {s t : Sl} (h : TabTwo T L) (hp : PutL L name t L') (hst : s.l = t.l) (hpos : 0 < s.l.length) : TabTwo (aput T name s) L' := by
  have hnm := put_names (s := s) h hp
  have hnd : ((aput T name s).map (·.1)).Nodup := aput_nodup h.nodup
  have hndL : (L'.map (·.1)).Nodup := by rw [hnm]; exact (sortS_perm _).symm.nodup hnd
  obtain ⟨m1, _, m3⟩ := put_mem h.nodupL hp
  refine ⟨hnd, hnm, fun u => ?_, fun p hp => ?_⟩
  · by_cases hu : u = name
    · subst hu
      have h1 : aget L' u = some t := aget_of_mem hndL m1
      simp [tabPts, tabSl, aget_put_same, h1, hst]
    · have h1 : aget L' u = aget L u := aget_ext hndL h.nodupL (fun x => m3 u x hu)
      have h2 := h.pts u
      unfold tabPts tabSl at h2 ⊢
      rw [aget_put_other T s hu, h1, h2]
  · rcases mem_aput hp with rfl | hp
    · exact hpos
    · exact h.pos p hp
theorem TabTwo.has {T L : List (ByteArray × Sl)} (h : TabTwo T L) (s : ByteArray) (t : Int) : hasL (tabPts T s) t = hasL (tabPts L s) t := by rw [h.pts]

theorem merge_pos {l out : List Pt} {p : Pt} (h : IsMerge [l, [p]] out) : 0 < out.length := by
  have := (merge_times h p.t).2 (.inr rfl)
  obtain ⟨q, hq, _⟩ := List.mem_map.1 this
  exact List.length_pos_of_mem hq

theorem Sl.Ok.lt {w : World} {x : Sl} (h : x.Ok w) (hp : 0 < x.l.length) {g : Nat} (hg : x.v.ownBlock = some g) : g < w.heap.size := by
  rcases h.1 with ⟨_, h0, h1⟩ | ⟨ad, c, he, hl, hc, _⟩
  · have := src_len h.1; omega
  · obtain ⟨p, l, hpl⟩ : ∃ p l, x.l = p :: l := by
      cases hx : x.l with
      | nil => rw [hx] at hp; simp at hp
      | cons p l => exact ⟨p, l, rfl⟩
    have h0 := hc 0 (.int .i64 p.t) (by rw [hpl]; rfl)
    have h1 := World.block_lt_of_cell? _ _ h0
    rw [he] at hg
    have : ad.block = g := by
      obtain ⟨b, o, spot⟩ := ad
      cases spot <;> simp [Value.ownBlock] at hg <;> first | exact hg | simp_all
    rw [← this]
    simpa [Addr.add] using h1
end Go.Proofs.Ytabnngcaohgppaa
