/- Samples in memory. -/
import Derived.Test.YtabnngcaohgppaaPts
namespace Go.Proofs.Ytabnngcaohgppaa
open Go.RowKit Go.Sort Go.Lib

structure Sm where
  s : ByteArray
  t : Int
  v : Int
def Sm.cells (p : Sm) : List Value := [.string p.s, .int .i64 p.t, .int .i64 p.v]
def sms (l : List Sm) : List Value := l.flatMap Sm.cells
theorem sms_len (l : List Sm) : (sms l).length = l.length * 3 := by
  induction l with
  | nil => rfl
  | cons p l ih => simp [sms, Sm.cells] at ih ⊢; omega
theorem sms_one (l : List Sm) : ∀ u ∈ sms l, u.oneCell' = true := by
  intro u hu
  simp only [sms, List.mem_flatMap, Sm.cells] at hu
  obtain ⟨p, _, hu⟩ := hu
  simp at hu
  rcases hu with rfl | rfl | rfl <;> rfl
theorem sms_append (a b : List Sm) : sms (a ++ b) = sms a ++ sms b := by simp [sms]
theorem sms_at (l : List Sm) (k : Nat) (p : Sm) (h : l[k]? = some p) : (sms l)[k * 3]? = some (.string p.s) ∧ (sms l)[k * 3 + 1]? = some (.int .i64 p.t) ∧ (sms l)[k * 3 + 2]? = some (.int .i64 p.v) := by
  induction l generalizing k with
  | nil => simp at h
  | cons q l ih =>
    cases k with
    | zero => simp at h; subst h; simp [sms, Sm.cells]
    | succ k =>
      simp at h
      have := ih k h
      rw [show (k + 1) * 3 = k * 3 + 3 by omega]
      simpa [sms, Sm.cells] using this
theorem sms_src {w : World} {a : Option Addr} {n c : Nat} {l : List Sm} (h : Src w 3 (.slice a n c) n (sms l)) {k : Nat} (hk : k < n) :
    ∃ b off p, a = some ⟨b, off, none⟩ ∧ l[k]? = some p ∧ w.cell? ⟨b, off + k * 3, none⟩ = some (.string p.s) ∧ w.cell? ⟨b, off + k * 3 + 1, none⟩ = some (.int .i64 p.t) ∧ w.cell? ⟨b, off + k * 3 + 2, none⟩ = some (.int .i64 p.v) := by
  rcases h with ⟨_, h, _⟩ | ⟨ad, c', h, hl, h2, _⟩
  · omega
  · simp at h
    obtain ⟨rfl, rfl⟩ := h
    rw [sms_len] at hl
    have hkl : k < l.length := by omega
    obtain ⟨e0, e1, e2⟩ := sms_at l k l[k] (List.getElem?_eq_getElem hkl)
    have c0 := h2 _ _ e0
    have c1 := h2 _ _ e1
    have c2 := h2 _ _ e2
    obtain ⟨b, off, spot⟩ := ad
    have hz := h2 0 _ (sms_at l 0 _ (List.getElem?_eq_getElem (show 0 < l.length by omega))).1
    have hspot : spot = none := by simpa [Addr.add] using World.cell?_spot hz
    subst hspot
    rw [Go.WideShapes.add_plain] at c0 c1 c2
    exact ⟨b, off, l[k], rfl, List.getElem?_eq_getElem hkl, c0, c1, c2⟩
theorem sms_src_len {w : World} {v : Value} {n : Nat} {l : List Sm} (h : Src w 3 v n (sms l)) : l.length = n := by
  rcases h with ⟨_, rfl, h⟩ | ⟨_, _, _, h, _⟩
  · have := sms_len l; rw [h] at this; simp at this; omega
  · rw [sms_len] at h; omega

theorem elem_sm : ElemOk Try.prog 22 28 3 32 :=
  ⟨Try.underlying22, by
    obtain ⟨i0, hi, hz0, hz1, hz2⟩ := info_parts (show (Try.prog.info? 28).map (fun i => (i.zero, i.size, i.bytes)) = some (some (.agg #[.string ByteArray.empty, .int .i64 0, .int .i64 0]), 3, 32) from by kernel_rfl)
    exact ⟨i0, _, hi, hz0, hz1, hz2, rfl⟩, by decide⟩
theorem src_sm' {W : World} {b : Nat} {p : Sm} {t : TypeId} {fr : Nat × Nat} (h : W.heap[b]? = some (.cells #[.string p.s, .int .i64 p.t, .int .i64 p.v] t fr)) : Src W 3 (.slice (some ⟨b, 0, none⟩) 1 1) 1 (sms [p]) := by
  refine .inr ⟨_, _, rfl, rfl, fun j u hj => ?_, sms_one _⟩
  rw [Go.WideShapes.add_plain, Nat.zero_add, cell_of_block h]
  simpa [sms, Sm.cells] using hj

end Go.Proofs.Ytabnngcaohgppaa
