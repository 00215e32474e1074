/- Rows of bytes of one's own: an element, a place that is set; as a text. -/
import Derived.Test.YtdgmnhcgjbkafaaGreatDoorCut
import Derived.Laws.BytesArg
import Derived.Laws.IdiomStrings
namespace Go.Proofs.YtdgmnhcgjbkafaaGreatDoor
open Go.RowKit Go.Sort Go.Lib

theorem byt_elem : ElemOk Tryz.prog 28 5 1 1 :=
  ⟨Tryz.underlying28, by
    obtain ⟨i0, hi, hz0, hz1, hz2⟩ := info_parts (show (Tryz.prog.info? 5).map (fun i => (i.zero, i.size, i.bytes)) = some (some (.int .u8 0), 1, 1) from by kernel_rfl)
    exact ⟨i0, _, hi, hz0, hz1, hz2, rfl⟩, by decide⟩
theorem byt_src {W : World} {b : Nat} {x : UInt8} {t : TypeId} {fr : Nat × Nat} (h : W.heap[b]? = some (.cells #[.int .u8 (x.toNat : Int)] t fr)) : Src W 1 (.slice (some ⟨b, 0, none⟩) 1 1) 1 (u8s [x]) := by
  refine .inr ⟨_, _, rfl, rfl, fun j u hj => ?_, u8s_one _⟩
  rw [Go.WideShapes.add_plain, Nat.zero_add, cell_of_block h]
  simpa [u8s] using hj
theorem byt_conv {w : World} {a : Option Addr} {n c : Nat} {l : List UInt8} (h : Src w 1 (.slice a n c) n (u8s l)) : (Go.convert 28 9 (.slice a n c)).run Tryz.prog w = .ok (.string ⟨l.toArray⟩) w := by
  have hl := u8s_src_len h
  rcases h with ⟨e, h0, h1⟩ | ⟨ad, c', e, _, h2, h3⟩
  · simp only [Value.slice.injEq] at e
    obtain ⟨rfl, rfl, rfl⟩ := e
    have : l = [] := List.length_eq_zero_iff.1 (by omega)
    subst this
    exact run_convert_bytes_nil (P := Tryz.prog) (w := w) 28 5 Tryz.underlying28 Tryz.underlying5 0 0 9 Tryz.underlying9
  · simp only [Value.slice.injEq] at e
    obtain ⟨rfl, _, rfl⟩ := e
    subst hl
    exact run_convert_bytes_back (P := Tryz.prog) w 28 9 5 ad c l Tryz.underlying28 Tryz.underlying5 Tryz.underlying9 (fun j hj => h2 j _ (by simp [u8s, List.getElem?_eq_getElem hj]))

theorem u8s_get {L : List UInt8} {k : Nat} {x : UInt8} (h : L[k]? = some x) : (u8s L)[k]? = some (.int .u8 (x.toNat : Int)) := by
  unfold u8s
  rw [List.getElem?_map, h]; rfl
theorem u8s_set (L : List UInt8) (k : Nat) (x : UInt8) : (u8s L).set k (.int .u8 (x.toNat : Int)) = u8s (L.set k x) := by
  unfold u8s
  rw [List.map_set]

/-- Where a row of bytes lies. -/
theorem madeB_at {w0 w : World} {t : TypeId} {a : Option Addr} {n c : Nat} {L : List UInt8} (h : MadeTo w0 t 1 (.slice a n c) n (u8s L) w) (hn : 0 < n) :
    ∃ g, a = some ⟨g, 0, none⟩ ∧ w0.heap.size ≤ g ∧ (∀ k x, L[k]? = some x → w.cell? ⟨g, k, none⟩ = some (.int .u8 (x.toNat : Int))) ∧ ∀ k, w.frozen? ⟨g, k, none⟩ = false := by
  have ho := h.own
  obtain ⟨hl, ⟨e', _⟩ | ⟨g, cap, cur, e', hb0, hb, h1, h2, h3, h4⟩⟩ := h.row
  · simp only [Value.slice.injEq] at e'
    omega
  · simp only [Value.slice.injEq] at e'
    obtain ⟨rfl, _, rfl⟩ := e'
    refine ⟨g, rfl, ho g rfl, fun k x hk => ?_, fun k => free_of_block hb k⟩
    rw [cell_of_block hb]
    have h5 := u8s_get hk
    rw [← h4, List.getElem?_take] at h5
    split at h5
    · simpa using h5
    · cases h5
theorem MadeTo.setB {w0 w : World} {t : TypeId} {g n c k : Nat} {L : List UInt8} (h : MadeTo w0 t 1 (.slice (some ⟨g, 0, none⟩) n c) n (u8s L) w) (x : UInt8) :
    MadeTo w0 t 1 (.slice (some ⟨g, 0, none⟩) n c) n (u8s (L.set k x)) (w.setCell ⟨g, k, none⟩ (.int .u8 (x.toNat : Int))) := by
  have ho := h.own
  have hx := h.ext
  obtain ⟨hl, ⟨e', _⟩ | ⟨g', cap, cur, e', hb0, hb, h1, h2, h3, h4⟩⟩ := h.row
  · cases e'
  · simp only [Value.slice.injEq, Option.some.injEq, Addr.mk.injEq, and_true, true_and] at e'
    obtain ⟨rfl, rfl⟩ := e'
    refine ⟨⟨by rw [u8s_length, List.length_set]; rw [u8s_length] at hl; exact hl, .inr ⟨g, c, _, rfl, hb0, setCell_block hb _, h1, h2, by simpa using h3, ?_⟩⟩, ho, hx.setCell (ho g rfl) _⟩
    rw [Array.toList_setIfInBounds, List.take_set, h4, u8s_set]
end Go.Proofs.YtdgmnhcgjbkafaaGreatDoor
