/- Rows of strings that the program makes: made, appended to, written. -/
import Derived.Test.YtfndeocebpoeeaaDoorStr
import Derived.Test.YtfndeocebpoeeaaDoorApp
import Derived.Laws.OwnMore
namespace Go.Proofs.YtfndeocebpoeeaaDoor
open Go.RowKit Go.Sort Go.Lib

theorem info_str : (Tryd.prog.info? 9).map (fun i => (i.zero, i.size, i.bytes)) = some (some (.string ⟨#[]⟩), 1, 16) := by kernel_rfl
theorem make_strs (w : World) (n : Nat) (hn : n ≤ 8796093022208) :
    ∃ w' cs, (Instr.makeSlice 31 (.int .i64 (n : Int)) (.int .i64 (n : Int))).run Tryd.prog w = .ok (.slice (some ⟨w.heap.size, 0, none⟩) n n) w' ∧
      w'.heap[w.heap.size]? = some (.cells cs 9 (0, 0)) ∧ cs.size = n ∧ Ext w w' := by
  obtain ⟨i0, hi, hz0, hz1, hz2⟩ := info_parts info_str
  obtain ⟨w', h1, h2, h3⟩ := run_make_full (P := Tryd.prog) w 0 31 9 i0 (.string ⟨#[]⟩) 1 Tryd.underlying31 hi hz0 hz1 .i64 .i64 n (by rw [hz2]; omega) (by unfold maxLen; omega) (Nat.zero_le _)
  obtain ⟨_, ⟨e, _⟩ | ⟨g, cap, cur, e, _, hb, _, _, h6, _⟩⟩ := h2
  · cases e
  · simp only [Value.slice.injEq, Option.some.injEq, Addr.mk.injEq] at e
    obtain ⟨⟨rfl, _⟩, _, rfl⟩ := e
    exact ⟨w', cur, h1, hb, by simpa using h6, (Chg.of_grown h3).ext (fun _ _ e => by simp at e)⟩

/-- A slice of strings that a call made. -/
structure StrsTo (w : World) (l : List ByteArray) (v : Value) (w' : World) : Prop where
  row : Row w' 9 1 v l.length (strs l)
  own : ∀ g, v.ownBlock = some g → w.heap.size ≤ g
  ext : Ext w w'

theorem elem_str : ElemOk Tryd.prog 31 9 1 16 :=
  ⟨Tryd.underlying31, by
    obtain ⟨i0, hi, hz0, hz1, hz2⟩ := info_parts info_str
    exact ⟨i0, _, hi, hz0, hz1, hz2, rfl⟩, by decide⟩
theorem src_str' {W : World} {b : Nat} {s : ByteArray} {t : TypeId} {fr : Nat × Nat} (h : W.heap[b]? = some (.cells #[.string s] t fr)) : Src W 1 (.slice (some ⟨b, 0, none⟩) 1 1) 1 (strs [s]) := by
  refine .inr ⟨_, _, rfl, rfl, fun j u hj => ?_, strs_one _⟩
  rw [Go.WideShapes.add_plain, Nat.zero_add, cell_of_block h]
  simpa [strs] using hj
theorem row_made {W : World} {b : Nat} {t : TypeId} (h : W.heap[b]? = some (.cells #[] t (0, 0))) (size : Nat) : Row W t size (.slice (some ⟨b, 0, none⟩) 0 0) 0 [] :=
  ⟨by simp, .inr ⟨b, 0, #[], rfl, Nat.zero_le _, h, Nat.le_refl _, by unfold maxLen; omega, by simp, by simp⟩⟩

/-- A block that reads as strings at its beginning. -/
def StrBlk (w : World) (g cap : Nat) (L : List ByteArray) : Prop :=
  ∃ cur, w.heap[g]? = some (.cells cur 9 (0, 0)) ∧ cur.size = cap ∧ L.length ≤ cap ∧ cap ≤ maxLen ∧ cur.toList.take L.length = strs L
theorem StrBlk.row {w : World} {g cap : Nat} {L : List ByteArray} (h : StrBlk w g cap L) : Row w 9 1 (.slice (some ⟨g, 0, none⟩) L.length cap) L.length (strs L) := by
  obtain ⟨cur, h1, h2, h3, h4, h5⟩ := h
  exact ⟨by rw [strs_len]; omega, .inr ⟨g, cap, cur, rfl, Nat.zero_le _, h1, h3, h4, by omega, by rw [Nat.mul_one]; exact h5⟩⟩
theorem StrBlk.of_row {w : World} {v : Value} {L : List ByteArray} (h : Row w 9 1 v L.length (strs L)) (hp : 0 < L.length) : ∃ g cap, v = .slice (some ⟨g, 0, none⟩) L.length cap ∧ StrBlk w g cap L := by
  obtain ⟨_, ⟨_, h0⟩ | ⟨g, cap, cur, hv, _, h1, h2, h3, h4, h5⟩⟩ := h
  · omega
  · exact ⟨g, cap, hv, cur, h1, by omega, h2, h3, by rw [← h5, Nat.mul_one]⟩
theorem StrBlk.cell {w : World} {g cap : Nat} {L : List ByteArray} (h : StrBlk w g cap L) {k : Nat} {s : ByteArray} (hk : L[k]? = some s) : w.cell? ⟨g, k, none⟩ = some (.string s) := by
  obtain ⟨cur, h1, h2, h3, h4, h5⟩ := h
  rw [cell_of_block h1]
  have hkl := (List.getElem?_eq_some_iff.1 hk).1
  have := congrArg (fun l => l[k]?) h5
  simp only [List.getElem?_take, if_pos hkl, strs, List.getElem?_map, hk, Option.map_some] at this
  simpa using this
theorem StrBlk.free {w : World} {g cap : Nat} {L : List ByteArray} (h : StrBlk w g cap L) (k : Nat) : w.frozen? ⟨g, k, none⟩ = false := by
  obtain ⟨cur, h1, _⟩ := h
  exact free_of_block h1 k
theorem StrBlk.set {w : World} {g cap : Nat} {L : List ByteArray} (h : StrBlk w g cap L) (k : Nat) (s : ByteArray) : StrBlk (w.setCell ⟨g, k, none⟩ (.string s)) g cap (L.set k s) := by
  obtain ⟨cur, h1, h2, h3, h4, h5⟩ := h
  refine ⟨cur.setIfInBounds k (.string s), setCell_block h1 _, by simp [h2], by simpa using h3, h4, ?_⟩
  rw [Array.toList_setIfInBounds, List.length_set, List.take_set, h5]
  simp [strs, List.map_set]
theorem StrBlk.chg {S : Nat → Prop} {w w' : World} {g cap : Nat} {L : List ByteArray} (h : StrBlk w g cap L) (hc : Chg S w w') (hn : ¬ S g) : StrBlk w' g cap L := by
  obtain ⟨cur, h1, h2⟩ := h
  exact ⟨cur, (hc.block g (block_lt h1) hn).trans h1, h2⟩
theorem StrBlk.ext {w w' : World} {g cap : Nat} {L : List ByteArray} (h : StrBlk w g cap L) (hc : Ext w w') : StrBlk w' g cap L := h.chg (Chg.of_ext (S := fun _ => False) hc) id
theorem StrBlk.lt {w : World} {g cap : Nat} {L : List ByteArray} (h : StrBlk w g cap L) : g < w.heap.size := by
  obtain ⟨cur, h1, _⟩ := h
  exact block_lt h1

theorem src_pre {w : World} {ad : Addr} {n c k : Nat} {B : List ByteArray} (h : Src w 1 (.slice (some ad) n c) n (strs B)) (hk : k ≤ n) : Src w 1 (.slice (some ad) k c) k (strs (B.take k)) := by
  have hl := strs_src_len h
  rcases h with ⟨e, _⟩ | ⟨ad', c', e, _, h2, h3⟩
  · cases e
  · cases e
    refine .inr ⟨ad, c, rfl, by rw [strs_len]; simp; omega, fun j u hj => ?_, strs_one _⟩
    rw [strs, List.map_take, List.getElem?_take] at hj
    split at hj
    · exact h2 j u hj
    · cases hj

end Go.Proofs.YtfndeocebpoeeaaDoor
