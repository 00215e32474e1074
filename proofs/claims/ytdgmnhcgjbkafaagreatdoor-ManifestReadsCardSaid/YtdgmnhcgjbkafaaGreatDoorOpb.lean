/- Slices that came in: what their values tell. -/
import Derived.Test.YtdgmnhcgjbkafaaGreatDoorRow
import Derived.Test.YtdgmnhcgjbkafaaGreatDoorProg
import Derived.OpenShut
namespace Go.Proofs.YtdgmnhcgjbkafaaGreatDoor
open Go.RowKit Go.Sort Go.WideShapes

theorem ok_slice {P : Program} {w : World} {r : Reach} {b0 : Nat} {t e : TypeId} {o : Option Addr} {n c : Nat} (ht : P.underlying t = some (.slice e)) (h : Value.okWide P w r b0 t (.slice o n c)) :
    n ≤ c ∧ (o = none → c = 0) ∧ ∀ g, (Value.slice o n c).ownBlock = some g → g < w.heap.size := by
  simp only [Value.okWide, ht, Cell.okWide] at h
  cases o with
  | none =>
    simp only [Cell.ok, ht] at h
    split at h <;> simp_all [Value.ownBlock]
  | some a =>
    simp only [Cell.ok, ht] at h
    refine ⟨h.1, fun e => by simp at e, fun g hg => ?_⟩
    simp only [Value.ownBlock, Option.some.injEq] at hg
    subst hg
    obtain ⟨_, _, row, cells, h4, _⟩ := h.2.2
    rcases Nat.lt_or_ge a.block w.heap.size with hlt | hge
    · exact hlt
    · simp [World.shape?, Array.getElem?_eq_none hge] at h4
end Go.Proofs.YtdgmnhcgjbkafaaGreatDoor
