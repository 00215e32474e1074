/- Plain: sessions: points in groups; the spans of these; what is told of each. -/
import Derived.Test.YthnpchfcafaiiaaAll
import Derived.Test.YthnpchfcafaiiaaBkt
namespace Go.Proofs.Ythnpchfcafaiiaa
open Go.RowKit Go.Lib Go.Sort

/-- Spans, as they grow. -/
def spStep (gap : Int) (out : List (Int × Int)) (t : Int) : List (Int × Int) :=
  match out.getLast? with
  | some s => if t < s.2 then out.dropLast ++ [(s.1, t + gap)] else out ++ [(t, t + gap)]
  | none => [(t, t + gap)]
def spL (gap : Int) (l : List Int) : List (Int × Int) := l.foldl (spStep gap) []
theorem spL_snoc (gap : Int) (l : List Int) (t : Int) : spL gap (l ++ [t]) = spStep gap (spL gap l) t := by simp [spL]

def gLo (g : List Pt) : Int := (g.head?.map (·.t)).getD 0
def gHi (g : List Pt) : Int := (g.getLast?.map (·.t)).getD 0
/-- Groups, as they grow. -/
def gStep (gap : Int) (gs : List (List Pt)) (p : Pt) : List (List Pt) :=
  match gs.getLast? with
  | some g => if p.t < gHi g + gap then gs.dropLast ++ [g ++ [p]] else gs ++ [[p]]
  | none => [[p]]
def grp (gap : Int) (l : List Pt) : List (List Pt) := l.foldl (gStep gap) []
theorem grp_snoc (gap : Int) (l : List Pt) (p : Pt) : grp gap (l ++ [p]) = gStep gap (grp gap l) p := by simp [grp]

structure GrpOk (gap : Int) (l : List Pt) (gs : List (List Pt)) : Prop where
  flat : gs.flatten = l
  some : ∀ g ∈ gs, g ≠ []
  apart : gs.Pairwise (fun a b => gHi a + gap ≤ gLo b)
  within : ∀ g ∈ gs, ∀ p ∈ g, gLo g ≤ p.t ∧ p.t ≤ gHi g
  spans : spL gap (l.map (·.t)) = gs.map (fun g => (gLo g, gHi g + gap))

theorem gHi_snoc (g : List Pt) (p : Pt) : gHi (g ++ [p]) = p.t := by simp [gHi]
theorem gLo_snoc {g : List Pt} (h : g ≠ []) (p : Pt) : gLo (g ++ [p]) = gLo g := by
  cases g with
  | nil => exact absurd rfl h
  | cons q g => simp [gLo]

theorem grp_ok {gap : Int} (hg : 1 ≤ gap) (l : List Pt) (hs : l.Pairwise (fun a b => a.t ≤ b.t)) : GrpOk gap l (grp gap l) := by
  revert hs
  refine snoc_ind (P := fun l => l.Pairwise (fun a b => a.t ≤ b.t) → GrpOk gap l (grp gap l)) (fun _ => ⟨rfl, by simp [grp], by simp [grp], by simp [grp], by simp [grp, spL]⟩) ?_ l
  intro l p ih hs
  rw [List.pairwise_append] at hs
  obtain ⟨h1, _, h2⟩ := hs
  obtain ⟨i1, i2, i3, i4, i5⟩ := ih h1
  rw [grp_snoc]
  have hle : ∀ q ∈ l, q.t ≤ p.t := fun q hq => h2 q hq p (by simp)
  unfold gStep
  cases hL : (grp gap l).getLast? with
  | none =>
    have h0 : grp gap l = [] := by simpa using hL
    rw [h0] at i1 i5
    simp only
    have hl : l = [] := by simpa using i1.symm
    subst hl
    exact ⟨by simp, by simp, by simp, by simp [gLo, gHi], by simp [spL, spStep, gLo, gHi]⟩
  | some g =>
    obtain ⟨pre, hpre⟩ : ∃ pre, grp gap l = pre ++ [g] := by
      rcases List.eq_nil_or_concat (grp gap l) with e | ⟨pre, q, e⟩
      · rw [e] at hL; simp at hL
      · rw [e, List.concat_eq_append] at hL ⊢
        simp at hL
        exact ⟨pre, by rw [hL]⟩
    have hgm : g ∈ grp gap l := by rw [hpre]; simp
    have hgn := i2 g hgm
    have hgl : ∀ q ∈ g, q ∈ l := fun q hq => by rw [← i1]; exact List.mem_flatten.2 ⟨g, hgm, hq⟩
    have hghi : gHi g ≤ p.t := by
      rcases List.eq_nil_or_concat g with e | ⟨g', q, e⟩
      · exact absurd e hgn
      · rw [e, List.concat_eq_append, gHi_snoc]
        exact hle q (hgl q (by rw [e]; simp))
    have hglo : gLo g ≤ gHi g := by
      rcases List.eq_nil_or_concat g with e | ⟨g', q, e⟩
      · exact absurd e hgn
      · have := i4 g hgm q (by rw [e]; simp)
        omega
    rw [hpre] at i1 i2 i3 i4 i5
    rw [List.pairwise_append] at i3
    obtain ⟨j1, _, j2⟩ := i3
    have hsp : ((pre ++ [g]).map (fun g => (gLo g, gHi g + gap))).getLast? = some (gLo g, gHi g + gap) := by simp
    have hsp2 : spL gap ((l ++ [p]).map (·.t)) = spStep gap ((pre ++ [g]).map (fun g => (gLo g, gHi g + gap))) p.t := by
      rw [List.map_append, List.map_cons, List.map_nil, spL_snoc, i5]
    simp only
    rw [hpre]
    split
    · rename_i hlt
      refine ⟨?_, ?_, ?_, ?_, ?_⟩
      · simp at i1
        simp [← i1]
      · intro x hx
        simp at hx
        rcases hx with hx | hx
        · exact i2 x (by simp [hx])
        · rw [hx]; simp
      · simp only [List.dropLast_concat]
        rw [List.pairwise_append]
        refine ⟨j1, by simp, ?_⟩
        intro a ha b hb
        simp at hb
        rw [hb, gLo_snoc hgn]
        exact j2 a ha g (by simp)
      · intro x hx
        simp at hx
        rcases hx with hx | hx
        · exact i4 x (by simp [hx])
        · rw [hx]
          intro q hq
          rw [gLo_snoc hgn, gHi_snoc]
          simp at hq
          rcases hq with hq | hq
          · have := i4 g (by simp) q hq; omega
          · rw [hq]; omega
      · rw [hsp2]
        unfold spStep
        rw [hsp]
        simp only
        rw [if_pos hlt]
        simp [gHi_snoc, gLo_snoc hgn]
    · rename_i hlt
      refine ⟨?_, ?_, ?_, ?_, ?_⟩
      · simp at i1
        simp [← i1]
      · intro x hx
        simp at hx
        rcases hx with hx | hx | hx
        · exact i2 x (by simp [hx])
        · rw [hx]; exact hgn
        · rw [hx]; simp
      · rw [List.pairwise_append]
        refine ⟨by rw [List.pairwise_append]; exact ⟨j1, by simp, j2⟩, by simp, ?_⟩
        intro a ha b hb
        simp at hb
        rw [hb]
        simp only [gLo, List.head?_cons, Option.map_some, Option.getD_some]
        rcases List.mem_append.1 ha with ha | ha
        · have := j2 a ha g (by simp); omega
        · simp at ha; rw [ha]; omega
      · intro x hx
        rcases List.mem_append.1 hx with hx | hx
        · exact i4 x hx
        · simp at hx
          rw [hx]
          intro q hq
          simp at hq
          rw [hq]
          simp [gLo, gHi]
      · rw [hsp2]
        unfold spStep
        rw [hsp]
        simp only
        rw [if_neg hlt]
        simp [gHi, gLo]

theorem ordI_t (a b : Pt) : (ordI a b < 0 → a.t ≤ b.t) ∧ (¬ ordI a b < 0 → b.t ≤ a.t) ∧ (0 < ordI a b → b.t ≤ a.t) ∧ (¬ 0 < ordI a b → a.t ≤ b.t) := by
  unfold ordI orL cmpI
  by_cases h1 : a.t < b.t
  · rw [if_pos h1]
    simp
    omega
  · by_cases h2 : b.t < a.t
    · rw [if_neg h1, if_pos h2]
      simp
      omega
    · refine ⟨fun _ => by omega, fun _ => by omega, fun _ => by omega, fun _ => by omega⟩

/-- What is told of a group. -/
theorem agA_ends (g : List Pt) (h : g ≠ []) : (agA g).n = g.length ∧ (agA g).f ∈ g ∧ (agA g).l ∈ g ∧ ∀ p ∈ g, (agA g).f.t ≤ p.t ∧ p.t ≤ (agA g).l.t := by
  revert h
  refine snoc_ind (P := fun g => g ≠ [] → (agA g).n = g.length ∧ (agA g).f ∈ g ∧ (agA g).l ∈ g ∧ ∀ p ∈ g, (agA g).f.t ≤ p.t ∧ p.t ≤ (agA g).l.t) (fun h => absurd rfl h) ?_ g
  intro g p ih _
  rw [agA_snoc]
  by_cases hg : g = []
  · subst hg
    simp [agA, agM, Ag.zero, agOf]
  · obtain ⟨h1, h2, h3, h4⟩ := ih hg
    have hn : ¬ (agA g).n = 0 := by rw [h1]; have := List.length_pos_iff.2 hg; omega
    unfold agM
    rw [if_neg hn]
    simp only
    refine ⟨by rw [h1]; simp [agOf], ?_, ?_, ?_⟩
    · split
      · simp [agOf]
      · exact List.mem_append_left _ h2
    · split
      · simp [agOf]
      · exact List.mem_append_left _ h3
    · have k1 := ordI_t (agOf p).f (agA g).f
      have k2 := ordI_t (agOf p).l (agA g).l
      have e1 : (agOf p).f = p := rfl
      have e2 : (agOf p).l = p := rfl
      rw [e1] at k1
      rw [e2] at k2
      rw [e1, e2]
      have hfl := h4 _ h3
      intro q hq
      simp at hq
      rcases hq with hq | hq
      · have := h4 q hq
        split <;> split <;> omega
      · rw [hq]
        split <;> split <;> omega

/-- What the sessions have. -/
def sesBk (gap : Int) (g : List Pt) : Bk := ⟨gLo g, gHi g + gap, agA g⟩
def sesL (gap : Int) (l : List Pt) : List Bk := (grp gap l).map (sesBk gap)
theorem ses_ends {gap : Int} {g : List Pt} (h : g ≠ []) (hw : ∀ p ∈ g, gLo g ≤ p.t ∧ p.t ≤ gHi g) : (agA g).f.t = gLo g ∧ (agA g).l.t = gHi g ∧ (agA g).n = g.length := by
  obtain ⟨h1, h2, h3, h4⟩ := agA_ends g h
  have a1 := hw _ h2
  have a2 := hw _ h3
  have b1 : ∃ q ∈ g, q.t = gLo g := by
    cases g with
    | nil => exact absurd rfl h
    | cons q g => exact ⟨q, by simp, by simp [gLo]⟩
  have b2 : ∃ q ∈ g, q.t = gHi g := by
    rcases List.eq_nil_or_concat g with e | ⟨g', q, e⟩
    · exact absurd e h
    · refine ⟨q, by rw [e]; simp, ?_⟩
      rw [e, List.concat_eq_append, gHi_snoc]
  obtain ⟨q1, m1, e1⟩ := b1
  obtain ⟨q2, m2, e2⟩ := b2
  have c1 := h4 _ m1
  have c2 := h4 _ m2
  exact ⟨by omega, by omega, h1⟩
end Go.Proofs.Ythnpchfcafaiiaa
