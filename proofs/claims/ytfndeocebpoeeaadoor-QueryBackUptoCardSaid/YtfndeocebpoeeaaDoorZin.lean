/- Slices of ints in memory. -/
import Derived.Test.YtfndeocebpoeeaaDoorRow
import Derived.WideShapes
namespace Go.Proofs.YtfndeocebpoeeaaDoor
open Go.RowKit Go.Sort Go.Lib

def zints (l : List Int) : List Value := l.map (Value.int .i64)

theorem zints_src {w : World} {a : Option Addr} {n c : Nat} {l : List Int} (h : Src w 1 (.slice a n c) n (zints l)) {k : Nat} (hk : k < n) :
    ∃ b off z, a = some ⟨b, off, none⟩ ∧ l[k]? = some z ∧ w.cell? ⟨b, off + k, none⟩ = some (.int .i64 z) := by
  rcases h with ⟨_, h, _⟩ | ⟨ad, c', h, hl, h2, _⟩
  · omega
  · simp at h
    obtain ⟨rfl, rfl⟩ := h
    have hl' : l.length = n := by simpa [zints] using hl
    have hkl : k < l.length := by omega
    have hcell := h2 k (.int .i64 l[k]) (by simp [zints, List.getElem?_eq_getElem hkl])
    have hcell0 := h2 0 (.int .i64 (l[0]'(by omega))) (by simp [zints, List.getElem?_eq_getElem (show 0 < l.length by omega)])
    obtain ⟨b, off, spot⟩ := ad
    have hspot : spot = none := by simpa [Addr.add] using World.cell?_spot hcell0
    subst hspot
    refine ⟨b, off, l[k], rfl, List.getElem?_eq_getElem hkl, ?_⟩
    rw [← Go.WideShapes.add_plain]; exact hcell
theorem zints_src_len {w : World} {v : Value} {n : Nat} {l : List Int} (h : Src w 1 v n (zints l)) : l.length = n := by
  rcases h with ⟨_, h, h2⟩ | ⟨_, _, _, h, _⟩
  · have : (zints l).length = 0 := by rw [h2]; rfl
    simp [zints] at this; simp [this, h]
  · simpa [zints] using h

end Go.Proofs.YtfndeocebpoeeaaDoor
