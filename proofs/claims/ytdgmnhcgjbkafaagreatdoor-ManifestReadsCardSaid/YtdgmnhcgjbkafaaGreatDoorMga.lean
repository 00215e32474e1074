/- manifest.Bytes$1: a number is put behind the bytes in a box. -/
import Derived.Test.YtdgmnhcgjbkafaaGreatDoorMfd
namespace Go.Proofs.YtdgmnhcgjbkafaaGreatDoor
open Go.RowKit Go.Sort Go.Lib

/-- Bytes in a box. -/
structure BoxB (w0 : World) (g : Nat) (l : List UInt8) (k : Nat) (w : World) : Prop where
  blk : ∃ a n c, w.heap[g]? = some (.cells #[.slice a n c] 28 (0, 0)) ∧ Buf w0 l n a c w ∧ n ≤ k ∧ (Value.slice a n c).ownBlock ≠ some g
  new : w0.heap.size ≤ g
  ext : Ext w0 w
theorem BoxB.put {w0 w w1 : World} {g k k' : Nat} {l l' : List UInt8} {a' : Option Addr} {n' c' : Nat} (h : BoxB w0 g l k w) (hx : Ext w w1) (hB : Buf w l' n' a' c' w1) (hk : n' ≤ k') : BoxB w0 g l' k' (w1.setCell ⟨g, 0, none⟩ (.slice a' n' c')) := by
  obtain ⟨a, n, c, hb, hBuf, hn, ho⟩ := h.blk
  have hlt := block_lt hb
  have hb1 := hx.keep hb
  have hC := setCell_chg w1 g 0 (.slice a' n' c')
  have ho' : ∀ q, (Value.slice a' n' c').ownBlock = some q → q ≠ g := fun q hq => by have := hB.made.own q hq; omega
  have hx' : Ext w0 (w1.setCell ⟨g, 0, none⟩ (.slice a' n' c')) := (h.ext.trans hx).setCell (p := ⟨g, 0, none⟩) h.new _
  refine ⟨⟨a', n', c', by have := setCell_block hb1 (i := 0) (.slice a' n' c'); simpa using this, ⟨⟨hB.made.row.chg hC (fun q hq => ho' q hq), fun q hq => ?_, hx'⟩, hB.len⟩, hk, fun e => ho' g e rfl⟩, h.new, hx'⟩
  have h1 := hB.made.own q hq
  have h2 := h.ext.size
  omega
theorem BoxB.ext' {w0 w w1 : World} {g k : Nat} {l : List UInt8} (h : BoxB w0 g l k w) (hx : Ext w w1) : BoxB w0 g l k w1 := by
  obtain ⟨a, n, c, hb, hBuf, hn, ho⟩ := h.blk
  exact ⟨⟨a, n, c, hx.keep hb, hBuf.ext hx, hn, ho⟩, h.new, h.ext.trans hx⟩
theorem Buf.here {w0 w : World} {l : List UInt8} {n c : Nat} {a : Option Addr} (h : Buf w0 l n a c w) : Src w 1 (.slice a n c) n (u8s l) := h.src

set_option maxHeartbeats 4000000 in
set_option maxRecDepth 100000 in
theorem bytesNum_any (w0 w : World) (g k : Nat) (l : List UInt8) (z : Int) (h : BoxB w0 g l k w) (hk : k ≤ 35184372088832) :
    Calls Tryz.prog 12 #[.int .i64 z, .pointer (some ⟨g, 0, none⟩)] w fun e w' => e = .returned (.tuple #[]) ∧ BoxB w0 g (l ++ varP (u64n z)) (k + 10) w' ∧ Chg (· = g) w w' := by
  obtain ⟨a, n, c, hb, hB, hn, ho⟩ := h.blk
  have H := Lib.hid h
  have HB := Lib.hid hB
  have HBB := Lib.hid hb
  have HSRC := Lib.hid hB.src
  have c0 := cell_of_block hb 0
  have hlen := hB.len
  have HLEN := Lib.hid hlen
  clear h hb hB ho hlen
  go_enter Tryz.func12, Tryz.ntmps12
  go_wp2_with fail
  rw [u64n_wrap]
  refine (varPut' w a n c l (u64n z) (u64n_lt z) HSRC.out HB.out.le (by omega)).mono ?_
  rintro e w1 ⟨a1, c1, rfl, hm⟩
  obtain ⟨n1, hn1⟩ : ∃ n1, n1 = (l ++ varP (u64n z)).length := ⟨_, rfl⟩
  rw [← hn1] at hm ⊢
  have hk1 : n1 ≤ k + 10 := by
    have := varP_10 (u64n_lt z)
    have := HLEN.out
    rw [hn1, List.length_append]; omega
  have HN := Lib.hid (H.out.put hm.ext ⟨hm, hn1⟩ hk1)
  have HBB1 := Lib.hid (hm.ext.keep HBB.out)
  have HX := Lib.hid hm.ext
  have c1' := cell_of_block HBB1.out 0
  have z0 := free_of_block HBB1.out 0
  clear hm hn1 c0
  go_wp2_with fail
  go_end0
  exact ⟨rfl, HN.out, (Chg.of_ext HX.out).trans (setCell_chg _ _ _ _) (fun _ _ e => e)⟩
end Go.Proofs.YtdgmnhcgjbkafaaGreatDoor
