/- From what a reading gives of a slice of numbers to 'Src'. -/
import Derived.Test.YtfablbhkmddnbaaDoorZin
import Derived.ProofKit
namespace Go.Proofs.YtfablbhkmddnbaaDoor
open Go.RowKit Go.Sort

theorem src_of_cells {w : World} {x : Addr} {n c : Nat} {zs : List Value} (hl : n ≤ c) (hz : zs.length = c) (hcell : ∀ i, i < zs.length → w.cell? (x.add i) = some (zs.getD i undef)) (h1 : ∀ u ∈ zs, u.oneCell' = true) :
    Src w 1 (.slice (some x) n c) n (zs.take n) := by
  refine .inr ⟨x, c, rfl, by simp; omega, fun j u hj => ?_, fun u hu => h1 u (List.mem_of_mem_take hu)⟩
  rw [List.getElem?_take] at hj
  split at hj
  · have hlt : j < zs.length := by omega
    rw [hcell j hlt]
    simp [List.getD, hj]
  · simp at hj

theorem src_of_bytes {w : World} {x : Addr} {n c : Nat} {zs : List Int} (hl : n ≤ c) (hm : c ≤ maxLen) (hz : zs.length = c) (hcell : ∀ i, i < zs.length → w.cell? (x.add i) = some (.int .u8 (zs.getD i 0))) (hw : ∀ z ∈ zs, (Lit.int .u8 z).wf = true) :
    ∃ bl, Src w 1 (.slice (some x) n c) n (u8s bl) ∧ n ≤ maxLen := by
  refine ⟨(zs.take n).map fun z => UInt8.ofNat z.toNat, ?_, by omega⟩
  have e : u8s ((zs.take n).map fun z => UInt8.ofNat z.toNat) = (zs.map (Value.int .u8)).take n := by
    rw [← List.map_take, u8s, List.map_map]
    apply List.map_congr_left
    intro z hz
    have hb : 0 ≤ z ∧ z ≤ 255 := by
      have := hw z (List.mem_of_mem_take hz)
      simpa [Lit.wf, IntKind.min, IntKind.max, IntKind.signed, IntKind.bits] using this
    simp
    omega
  rw [e]
  refine src_of_cells hl (by simpa using hz) (fun i hi => ?_) (fun u hu => ?_)
  · have hi' : i < zs.length := by simpa using hi
    rw [hcell i hi']
    simp [List.getD, hi']
  · obtain ⟨z, _, rfl⟩ := List.mem_map.1 hu; rfl

def ints (zs : List Int) : List Value := zs.map (Value.int .i64)

/-- A place of a slice of numbers. -/
theorem ints_src {w : World} {a : Option Addr} {n c : Nat} {zs : List Int} (h : Src w 1 (.slice a n c) n (ints zs)) {k : Nat} (hk : k < n) :
    ∃ b off, a = some ⟨b, off, none⟩ ∧ ∃ z, zs[k]? = some z ∧ w.cell? ⟨b, off + k, none⟩ = some (.int .i64 z) := by
  rcases h with ⟨_, h, _⟩ | ⟨ad, c', h, hl, h2, _⟩
  · omega
  · simp at h
    obtain ⟨rfl, rfl⟩ := h
    have hkz : k < zs.length := by simpa [ints] using (show k < (ints zs).length by rw [hl]; omega)
    have hcell := h2 k (.int .i64 zs[k]) (by simp [ints, List.getElem?_eq_getElem hkz])
    have hcell0 := h2 0 (.int .i64 (zs[0]'(by omega))) (by simp [ints, List.getElem?_eq_getElem (show 0 < zs.length by omega)])
    obtain ⟨b, off, spot⟩ := ad
    have hspot : spot = none := by simpa [Addr.add] using World.cell?_spot hcell0
    subst hspot
    refine ⟨b, off, rfl, zs[k], List.getElem?_eq_getElem hkz, ?_⟩
    rw [← Go.WideShapes.add_plain]; exact hcell

theorem src_of_ints {w : World} {x : Addr} {n c : Nat} {zs : List Int} (hl : n ≤ c) (hm : c ≤ maxLen) (hz : zs.length = c) (hcell : ∀ i, i < zs.length → w.cell? (x.add i) = some (.int .i64 (zs.getD i 0))) :
    ∃ ys, Src w 1 (.slice (some x) n c) n (ints ys) ∧ n ≤ maxLen := by
  refine ⟨zs.take n, ?_, by omega⟩
  have e : ints (zs.take n) = (zs.map (Value.int .i64)).take n := by rw [ints, List.map_take]
  rw [e]
  refine src_of_cells hl (by simpa using hz) (fun i hi => ?_) (fun u hu => ?_)
  · have hi' : i < zs.length := by simpa using hi
    rw [hcell i hi']
    simp [List.getD, hi']
  · obtain ⟨z, _, rfl⟩ := List.mem_map.1 hu; rfl

end Go.Proofs.YtfablbhkmddnbaaDoor
