/- The document's table (tidemillref16): Put in the good case. -/
import Derived.Test.YtabnngcaohgppaaRtp
namespace Go.Proofs.Ytabnngcaohgppaa
open Go.RowKit Go.Sort Go.Lib

theorem RTab.setPts {w : World} {rd : Nat} {most : Int} {L : List (ByteArray × Sl)} {g lc : Nat} (h : RTab w rd most L (some ⟨g, 0, none⟩) lc) (r : Nat) (x : ByteArray × Sl) (hx : L[r]? = some x) (s : Sl) (hs : PartOk w rd (.slice (some ⟨g, 0, none⟩) L.length lc) (x.1, s)) :
    RTab (w.setCell ⟨g, r * 2 + 1, none⟩ s.v) rd most (L.set r (x.1, s)) (some ⟨g, 0, none⟩) lc := by
  have hgd : g ≠ rd := h.own g rfl
  have hc : Chg (· = g) w (w.setCell ⟨g, r * 2 + 1, none⟩ s.v) := setCell_chg _ _ _ _
  have all : ∀ p ∈ L.set r (x.1, s), PartOk w rd (.slice (some ⟨g, 0, none⟩) L.length lc) p := fun p hp => by
    rcases List.mem_or_eq_of_mem_set hp with hp | rfl
    · exact h.part hp
    · exact hs
  refine ⟨?_, ?_, fun p hp => ⟨⟨(all p hp).ok.1.1.chg hc (fun b hb e => ((all p hp).own b hb).2.1 (by simp [Value.ownBlock, e])), (all p hp).ok.1.2⟩, (all p hp).ok.2⟩, ?_, ?_⟩
  · rw [List.length_set]; exact (hc.block rd (block_lt h.blk) (Ne.symm hgd)).trans h.blk
  · rw [List.length_set]
    obtain ⟨r1, _⟩ := World.ownsRow.stored h.row (r * 2 + 1) s.v
    have e : prs (L.set r (x.1, s)) = (prs L).set (r * 2 + 1) s.v := by
      rw [prs_set]
      congr 1
      have := (prs_at L r x hx).1
      apply List.ext_getElem?
      intro i
      rw [List.getElem?_set]
      split
      · subst_vars
        obtain ⟨h1, _⟩ := List.getElem?_eq_some_iff.1 this
        rw [this, if_pos h1]
      · rfl
    rw [e]; exact r1
  · rw [List.length_set]; exact h.own
  · rw [List.length_set]; exact fun p hp g hg => ⟨((all p hp).own g hg).1, ((all p hp).own g hg).2.1, Nat.lt_of_lt_of_le ((all p hp).own g hg).2.2 hc.size⟩

theorem Bub.put {L0 L : List (ByteArray × Sl)} {n : ByteArray} {x y : Sl} {k : Nat} (h : Bub L0 (n, x) k L) : Bub L0 (n, y) k (L.set k (n, y)) := by
  have hk := h.le
  refine ⟨hk, ?_, h.gt⟩
  rw [h.eq]
  have : ∀ (A B : List (ByteArray × Sl)), A.length = k → (A ++ (n, x) :: B).set k (n, y) = A ++ (n, y) :: B := by
    intro A B hA
    subst hA
    simp [List.set_append]
  exact this _ _ (by simp; omega)

def nilS : Sl := ⟨none, 0, 0, []⟩
theorem nilS_ok (w : World) : nilS.Ok w ∧ Rises nilS.l := ⟨⟨.inl ⟨rfl, rfl, rfl⟩, Nat.le_refl _⟩, Rises.nil⟩
theorem nilS_own (g : Nat) : nilS.v.ownBlock ≠ some g := by simp [nilS, Sl.v, Value.ownBlock]

theorem RTab.push {w w' : World} {rd : Nat} {most : Int} {L : List (ByteArray × Sl)} {la la' : Option Addr} {lc lc' : Nat} {n : ByteArray} (h : RTab w rd most L la lc)
    (ha : Appended w 77 2 (.slice la L.length lc) (L.length + 1) (prs L ++ prs [(n, nilS)]) (.slice la' (L.length + 1) lc') w') :
    RTab (w'.setCell ⟨rd, 1, none⟩ (.slice la' (L.length + 1) lc')) rd most (L ++ [(n, nilS)]) la' lc' ∧ Chg (fun b => b = rd ∨ (Value.slice la L.length lc).ownBlock = some b) w (w'.setCell ⟨rd, 1, none⟩ (.slice la' (L.length + 1) lc')) ∧
      ∀ g, (Value.slice la' (L.length + 1) lc').ownBlock = some g → (Value.slice la L.length lc).ownBlock = some g ∨ w.heap.size = g := by
  have hlt := block_lt h.blk
  have own : ∀ g, (Value.slice la' (L.length + 1) lc').ownBlock = some g → (Value.slice la L.length lc).ownBlock = some g ∨ w.heap.size = g := fun g hg => by
    rcases ha.loc with e | e
    · exact .inl (by rw [← e]; exact hg)
    · rw [e] at hg; simp at hg; exact .inr hg
  have ownd : ∀ g, (Value.slice la' (L.length + 1) lc').ownBlock = some g → g ≠ rd := fun g hg => by
    rcases own g hg with e | e
    · exact h.own g e
    · omega
  have hb : w'.heap[rd]? = some (.cells #[.int .i64 most, .slice la L.length lc] 63 (0, 0)) := (ha.chg.block rd hlt (fun e => h.own rd e rfl)).trans h.blk
  have hc2 := setCell_chg w' rd 1 (.slice la' (L.length + 1) lc')
  have hne : ∀ x ∈ L ++ [(n, nilS)], x ∈ L ∨ x = (n, nilS) := fun x hx => by simpa using hx
  refine ⟨⟨?_, ?_, fun x hx => ?_, ?_, fun x hx g hg => ?_⟩, (ha.chg.mono (T := fun b => b = rd ∨ (Value.slice la L.length lc).ownBlock = some b) (fun _ _ e => .inr e)).trans hc2 (fun _ _ e => .inl e), own⟩
  · have := setCell_block (i := 1) hb (.slice la' (L.length + 1) lc')
    simpa using this
  · rw [prs_snoc, List.length_append]
    exact ha.row.chg hc2 (fun g hg e => ownd g hg e)
  · rcases hne x hx with hx | rfl
    · exact ⟨⟨((h.ok x hx).1.1.chg ha.chg (fun g hg e => (h.owns x hx g hg).2.1 e)).chg hc2 (fun g hg e => (h.owns x hx g hg).1 e), (h.ok x hx).1.2⟩, (h.ok x hx).2⟩
    · exact nilS_ok _
  · rw [List.length_append]; exact ownd
  · rcases hne x hx with hx | rfl
    · obtain ⟨o1, o2, o3⟩ := h.owns x hx g hg
      have hs1 := ha.chg.size
      have hs2 := hc2.size
      refine ⟨o1, fun e => ?_, by omega⟩
      rw [List.length_append] at e
      rcases own g e with e | e
      · exact o2 e
      · omega
    · exact absurd hg (nilS_own g)
end Go.Proofs.Ytabnngcaohgppaa
