/- The document's table in memory: a part set, a part put behind. -/
import Derived.Test.YtabnngcaohgppaaRtb
namespace Go.Proofs.Ytabnngcaohgppaa
open Go.RowKit Go.Sort Go.Lib

theorem prs_set (L : List (ByteArray × Sl)) (k : Nat) (x : ByteArray × Sl) : prs (L.set k x) = ((prs L).set (k * 2) (.string x.1)).set (k * 2 + 1) x.2.v := by
  induction L generalizing k with
  | nil => simp [prs]
  | cons y L ih =>
    cases k with
    | zero => simp [prs]
    | succ k =>
      rw [show (k + 1) * 2 = k * 2 + 2 by omega]
      have := ih k
      simpa [prs] using this

theorem row_set_part {w : World} {t : TypeId} {g n c r : Nat} {L : List (ByteArray × Sl)} (h : Row w t 2 (.slice (some ⟨g, 0, none⟩) n c) n (prs L)) (x : ByteArray × Sl) (hr : r < n) :
    Row ((w.setCell ⟨g, r * 2, none⟩ (.string x.1)).setCell ⟨g, r * 2 + 1, none⟩ x.2.v) t 2 (.slice (some ⟨g, 0, none⟩) n c) n (prs (L.set r x)) := by
  obtain ⟨r1, _⟩ := World.ownsRow.stored h (r * 2) (.string x.1)
  obtain ⟨r2, _⟩ := World.ownsRow.stored r1 (r * 2 + 1) x.2.v
  rw [prs_set]; exact r2

/-- What a part may be in a table. -/
structure PartOk (w : World) (rd : Nat) (la : Value) (x : ByteArray × Sl) : Prop where
  ok : x.2.Ok w ∧ Rises x.2.l
  own : ∀ g, x.2.v.ownBlock = some g → g ≠ rd ∧ la.ownBlock ≠ some g ∧ g < w.heap.size
theorem RTab.part {w : World} {rd : Nat} {most : Int} {L : List (ByteArray × Sl)} {la : Option Addr} {lc : Nat} (h : RTab w rd most L la lc) {x : ByteArray × Sl} (hx : x ∈ L) : PartOk w rd (.slice la L.length lc) x :=
  ⟨h.ok x hx, fun g hg => h.owns x hx g hg⟩

theorem RTab.set {w : World} {rd : Nat} {most : Int} {L : List (ByteArray × Sl)} {g lc : Nat} (h : RTab w rd most L (some ⟨g, 0, none⟩) lc) (r : Nat) (x : ByteArray × Sl) (hr : r < L.length) (hx : PartOk w rd (.slice (some ⟨g, 0, none⟩) L.length lc) x) :
    RTab ((w.setCell ⟨g, r * 2, none⟩ (.string x.1)).setCell ⟨g, r * 2 + 1, none⟩ x.2.v) rd most (L.set r x) (some ⟨g, 0, none⟩) lc := by
  have hgd : g ≠ rd := h.own g rfl
  have hc : Chg (· = g) w ((w.setCell ⟨g, r * 2, none⟩ (.string x.1)).setCell ⟨g, r * 2 + 1, none⟩ x.2.v) := (setCell_chg _ _ _ _).trans (setCell_chg _ _ _ _) (fun _ _ e => e)
  have key : ∀ p, PartOk w rd (.slice (some ⟨g, 0, none⟩) L.length lc) p → p.2.Ok ((w.setCell ⟨g, r * 2, none⟩ (.string x.1)).setCell ⟨g, r * 2 + 1, none⟩ x.2.v) ∧ Rises p.2.l := fun p hp => ⟨⟨hp.ok.1.1.chg hc (fun b hb e => (hp.own b hb).2.1 (by simp [Value.ownBlock, e])), hp.ok.1.2⟩, hp.ok.2⟩
  have all : ∀ p ∈ L.set r x, PartOk w rd (.slice (some ⟨g, 0, none⟩) L.length lc) p := fun p hp => by
    rcases List.mem_or_eq_of_mem_set hp with hp | rfl
    · exact h.part hp
    · exact hx
  refine ⟨?_, ?_, fun p hp => key p (all p hp), ?_, ?_⟩
  · rw [List.length_set]; exact (hc.block rd (block_lt h.blk) (Ne.symm hgd)).trans h.blk
  · rw [List.length_set]; exact row_set_part h.row x hr
  · rw [List.length_set]; exact h.own
  · rw [List.length_set]; exact fun p hp g hg => ⟨((all p hp).own g hg).1, ((all p hp).own g hg).2.1, Nat.lt_of_lt_of_le ((all p hp).own g hg).2.2 hc.size⟩

/-- The name on its way down: the parts behind it are greater. -/
structure Bub (L0 : List (ByteArray × Sl)) (x : ByteArray × Sl) (k : Nat) (L : List (ByteArray × Sl)) : Prop where
  le : k ≤ L0.length
  eq : L = L0.take k ++ x :: L0.drop k
  gt : ∀ b ∈ L0.drop k, Op.bytesLess x.1.toList b.1.toList = true
theorem Bub.start (L0 : List (ByteArray × Sl)) (x : ByteArray × Sl) : Bub L0 x L0.length (L0 ++ [x]) := ⟨Nat.le_refl _, by simp, by simp⟩
theorem Bub.len {L0 L : List (ByteArray × Sl)} {x : ByteArray × Sl} {k : Nat} (h : Bub L0 x k L) : L.length = L0.length + 1 := by
  have := h.le
  rw [h.eq]; simp; omega
theorem Bub.at {L0 L : List (ByteArray × Sl)} {x : ByteArray × Sl} {k : Nat} (h : Bub L0 x k L) : L[k]? = some x := by
  have := h.le
  rw [h.eq, List.getElem?_append_right (by simp; omega)]
  simp [Nat.min_eq_left this]
theorem Bub.prev {L0 L : List (ByteArray × Sl)} {x : ByteArray × Sl} {k : Nat} (h : Bub L0 x (k + 1) L) : L[k]? = L0[k]? := by
  have := h.le
  rw [h.eq, List.getElem?_append_left (by simp; omega), List.getElem?_take, if_pos (by omega)]
theorem Bub.step {L0 L : List (ByteArray × Sl)} {x y : ByteArray × Sl} {k : Nat} (h : Bub L0 x (k + 1) L) (hy : L0[k]? = some y) (hlt : Op.bytesLess x.1.toList y.1.toList = true) : Bub L0 x k ((L.set (k + 1) y).set k x) := by
  have hk := h.le
  have hd : L0.drop k = y :: L0.drop (k + 1) := by
    obtain ⟨hk', e⟩ := List.getElem?_eq_some_iff.1 hy
    rw [← e]; exact List.drop_eq_getElem_cons hk'
  have ht : L0.take (k + 1) = L0.take k ++ [y] := by rw [List.take_add_one, hy]; rfl
  refine ⟨by omega, ?_, ?_⟩
  · rw [h.eq, ht, hd]
    have e1 : (L0.take k).length = k := by simp; omega
    rw [List.append_assoc]
    have : ∀ (A B : List (ByteArray × Sl)), A.length = k → ((A ++ ([y] ++ x :: B)).set (k + 1) y).set k x = A ++ x :: y :: B := by
      intro A B hA
      subst hA
      simp [List.set_append]
    exact this _ _ e1
  · rw [hd]
    intro b hb
    rcases List.mem_cons.1 hb with rfl | hb
    · exact hlt
    · exact h.gt b hb
end Go.Proofs.Ytabnngcaohgppaa
