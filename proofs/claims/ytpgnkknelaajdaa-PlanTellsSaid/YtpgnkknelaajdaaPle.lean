/- PlanEdges, the plain law: what the choices and the best of them are like. -/
import Derived.Test.YtpgnkknelaajdaaBsa
namespace Go.Proofs.Ytpgnkknelaajdaa

def wAt (l : List Ti) (i : Int) : Int := (l[i.toNat]?.map Ti.w).getD 0

theorem takes_eq (fr : Int) (l : List Ti) (p c : Pt) : takes fr l p c = ((p.t == -1 && (p.v == fr && p.s == fr)) || decide (wAt l p.t < wAt l c.t)) := rfl

/-- The best one is that of no tier, if there is no other; else it is a tier's, one of these, of which none is wider. -/
theorem best_facts (fr : Int) (l : List Ti) : ∀ (cs : List Pt) (p : Pt), (∀ c ∈ cs, 0 ≤ c.t) →
    ((cs.foldl (bestStep fr l) p = p ∨ cs.foldl (bestStep fr l) p ∈ cs) ∧ (p = ⟨-1, fr, fr⟩ ∨ 0 ≤ p.t → cs ≠ [] → 0 ≤ (cs.foldl (bestStep fr l) p).t) ∧
     (0 ≤ p.t → 0 ≤ (cs.foldl (bestStep fr l) p).t ∧ wAt l p.t ≤ wAt l (cs.foldl (bestStep fr l) p).t) ∧ (p = ⟨-1, fr, fr⟩ ∨ 0 ≤ p.t → ∀ c ∈ cs, wAt l c.t ≤ wAt l (cs.foldl (bestStep fr l) p).t)) := by
  intro cs
  induction cs with
  | nil => intro p _; simp
  | cons c cs ih =>
    intro p hc
    have hc0 : 0 ≤ c.t := hc c List.mem_cons_self
    have hcs : ∀ x ∈ cs, 0 ≤ x.t := fun x hx => hc x (List.mem_cons_of_mem _ hx)
    simp only [List.foldl_cons]
    cases htk : takes fr l p c with
    | true =>
      have e : bestStep fr l p c = c := by simp [bestStep, htk]
      rw [e]
      obtain ⟨i1, i2, i3, i4⟩ := ih c hcs
      have j3 := i3 hc0
      refine ⟨?_, fun _ _ => j3.1, fun hp => ⟨j3.1, ?_⟩, fun _ x hx => ?_⟩
      · rcases i1 with h | h
        · rw [h]; right; exact List.mem_cons_self
        · right; exact List.mem_cons_of_mem _ h
      · have : wAt l p.t < wAt l c.t := by
          rw [takes_eq] at htk
          have hn : (p.t == -1) = false := by simp; omega
          simpa [hn] using htk
        omega
      · rcases List.mem_cons.1 hx with rfl | hx
        · exact j3.2
        · exact i4 (.inr hc0) x hx
    | false =>
      have e : bestStep fr l p c = p := by simp [bestStep, htk]
      rw [e]
      obtain ⟨i1, i2, i3, i4⟩ := ih p hcs
      have hnr : p ≠ ⟨-1, fr, fr⟩ := by rintro rfl; simp [takes] at htk
      have hle : wAt l c.t ≤ wAt l p.t := by
        rw [takes_eq] at htk
        have := (Bool.or_eq_false_iff.1 htk).2
        simpa using this
      refine ⟨?_, fun hp _ => ?_, i3, fun hp x hx => ?_⟩
      · rcases i1 with h | h
        · left; exact h
        · right; exact List.mem_cons_of_mem _ h
      · rcases hp with h | h
        · exact absurd h hnr
        · exact (i3 h).1
      · rcases hp with h | h
        · exact absurd h hnr
        · rcases List.mem_cons.1 hx with rfl | hx
          · exact Int.le_trans hle (i3 h).2
          · exact i4 (.inr h) x hx

/-- The best one is one of the choices. -/
theorem best_mem (fr to wd st off low : Int) (l : List Ti) : bestOf fr l (chFrom fr to wd st off low l 0) ∈ choices fr to wd st off low l := by
  have h0 : ∀ c ∈ chFrom fr to wd st off low l 0, 0 ≤ c.t := fun c hc => by
    obtain ⟨k, t, rfl, _⟩ := chFrom_mem _ _ _ _ _ _ _ _ _ hc
    exact Int.natCast_nonneg _
  have := (best_facts fr l (chFrom fr to wd st off low l 0) ⟨-1, fr, fr⟩ h0).1
  unfold bestOf choices
  rcases this with h | h
  · rw [h]; exact List.mem_cons_self
  · exact List.mem_cons_of_mem _ h

structure EdgeOk (fr to low : Int) (l : List Ti) (c bp : Pt) (k bi : Nat) (t bt : Ti) : Prop where
  ct : c = ⟨k, c.v, c.s⟩
  at_ : l[k]? = some t
  made : t.m = true
  a1 : fr ≤ c.v
  a2 : low ≤ c.v
  b1 : c.s ≤ to
  b2 : c.s ≤ t.u
  ab : c.v < c.s
  ma : (c.v - t.o).tmod t.w = 0
  mb : (c.s - t.o).tmod t.w = 0
  na : c.v - t.w < max fr low
  nb : min to t.u < c.s + t.w
  bpt : bp = ⟨bi, bp.v, bp.s⟩
  bat : l[bi]? = some bt
  bw : t.w ≤ bt.w

theorem tmod_zero_of {a b : Int} (h : a % b = 0) : a.tmod b = 0 := Int.tmod_eq_zero_of_dvd (Int.dvd_of_emod_eq_zero h)

theorem edge_ok (fr to wd st off low : Int) (l : List Ti) (hfine : ∀ t ∈ l, TiFine t) (c : Pt) (hc : c ∈ chFrom fr to wd st off low l 0) :
    ∃ k bi t bt, EdgeOk fr to low l c (bestOf fr l (chFrom fr to wd st off low l 0)) k bi t bt := by
  have h0 : ∀ c ∈ chFrom fr to wd st off low l 0, 0 ≤ c.t := fun c hc => by
    obtain ⟨k, t, rfl, _⟩ := chFrom_mem _ _ _ _ _ _ _ _ _ hc
    exact Int.natCast_nonneg _
  obtain ⟨i1, i2, _, i4⟩ := best_facts fr l (chFrom fr to wd st off low l 0) ⟨-1, fr, fr⟩ h0
  have hb0 := i2 (.inl rfl) (List.ne_nil_of_mem hc)
  have hbw := i4 (.inl rfl) c hc
  have hbm : bestOf fr l (chFrom fr to wd st off low l 0) ∈ chFrom fr to wd st off low l 0 := by
    rcases i1 with h | h
    · rw [h] at hb0; simp at hb0
    · exact h
  change 0 ≤ (bestOf fr l (chFrom fr to wd st off low l 0)).t at hb0
  change wAt l c.t ≤ wAt l (bestOf fr l (chFrom fr to wd st off low l 0)).t at hbw
  generalize bestOf fr l (chFrom fr to wd st off low l 0) = bp at *
  obtain ⟨k, t, rfl, _, _, hk, hti, hab⟩ := chFrom_mem _ _ _ _ _ _ _ _ _ hc
  obtain ⟨bi, bt, rfl, _, _, hbi, _, _⟩ := chFrom_mem _ _ _ _ _ _ _ _ _ hbm
  rw [Nat.sub_zero] at hk hbi
  obtain ⟨f1, f2, f3, f4, f5, f6⟩ := hfine t (List.mem_of_getElem? hk)
  refine ⟨k, bi, t, bt, ?_⟩
  have hw : t.w ≤ bt.w := by simpa [wAt, hk, hbi] using hbw
  have hm : t.m = true := by simp [tierIn] at hti; exact hti.1
  have r1 := Int.emod_nonneg (t.o - max fr low) (show t.w ≠ 0 by omega)
  have r2 := Int.emod_lt_of_pos (t.o - max fr low) (show 0 < t.w by omega)
  have s1 := Int.emod_nonneg (min to t.u - t.o) (show t.w ≠ 0 by omega)
  have s2 := Int.emod_lt_of_pos (min to t.u - t.o) (show 0 < t.w by omega)
  refine ⟨rfl, hk, hm, ?_, ?_, ?_, ?_, hab, ?_, ?_, ?_, ?_, rfl, hbi, hw⟩
  · simp only [spanA]; omega
  · simp only [spanA]; omega
  · simp only [spanB]; omega
  · simp only [spanB]; omega
  · apply tmod_zero_of
    simp only [spanA]
    have hd := Int.emod_def (t.o - max fr low) t.w
    rw [show max fr low + (t.o - max fr low) % t.w - t.o = t.w * (-((t.o - max fr low) / t.w)) by rw [Int.mul_neg]; omega]
    exact Int.mul_emod_right _ _
  · apply tmod_zero_of
    simp only [spanB]
    have hd := Int.emod_def (min to t.u - t.o) t.w
    rw [show min to t.u - (min to t.u - t.o) % t.w - t.o = t.w * ((min to t.u - t.o) / t.w) by omega]
    exact Int.mul_emod_right _ _
  · simp only [spanA]; omega
  · simp only [spanB]; omega

end Go.Proofs.Ytpgnkknelaajdaa
