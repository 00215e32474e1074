/- Rows of bytes in memory. -/
import Derived.Test.YtfndeocebpoeeaaDoorRow
namespace Go.Proofs.YtfndeocebpoeeaaDoor
open Go.RowKit Go.Sort Go.Lib

def u8s (l : List UInt8) : List Value := l.map fun c => .int .u8 (c.toNat : Int)
theorem u8s_length (l : List UInt8) : (u8s l).length = l.length := by simp [u8s]
theorem u8s_append (l k : List UInt8) : u8s (l ++ k) = u8s l ++ u8s k := by simp [u8s]
theorem u8s_one (l : List UInt8) : ∀ u ∈ u8s l, u.oneCell' = true := by
  intro u hu
  obtain ⟨c, _, rfl⟩ := List.mem_map.1 hu
  rfl

theorem byte_src {w : World} {a : Option Addr} {n c : Nat} {l : List UInt8} (h : Src w 1 (.slice a n c) n (u8s l)) {k : Nat} (hk : k < n) :
    ∃ b off x, a = some ⟨b, off, none⟩ ∧ l[k]? = some x ∧ w.cell? ⟨b, off + k, none⟩ = some (.int .u8 (x.toNat : Int)) := by
  rcases h with ⟨_, h, _⟩ | ⟨ad, c', h, hl, h2, _⟩
  · omega
  · simp at h
    obtain ⟨rfl, rfl⟩ := h
    have hl' : l.length = n := by simpa [u8s] using hl
    have hkl : k < l.length := by omega
    have key : ∀ (k : Nat) (hkl : k < l.length), w.cell? (ad.add k) = some (.int .u8 (l[k].toNat : Int)) := fun k hkl => h2 k _ (by simp [u8s, List.getElem?_eq_getElem hkl])
    obtain ⟨b, off, spot⟩ := ad
    have hz := key 0 (by omega)
    have hspot : spot = none := by simpa [Addr.add] using World.cell?_spot hz
    subst hspot
    refine ⟨b, off, l[k], rfl, List.getElem?_eq_getElem hkl, ?_⟩
    rw [← Go.WideShapes.add_plain]; exact key k hkl
theorem u8s_src_len {w : World} {v : Value} {n : Nat} {l : List UInt8} (h : Src w 1 v n (u8s l)) : l.length = n := by
  rcases h with ⟨_, rfl, h⟩ | ⟨_, _, _, h, _⟩
  · cases l with
    | nil => rfl
    | cons c l => simp [u8s] at h
  · simpa [u8s] using h

end Go.Proofs.YtfndeocebpoeeaaDoor
