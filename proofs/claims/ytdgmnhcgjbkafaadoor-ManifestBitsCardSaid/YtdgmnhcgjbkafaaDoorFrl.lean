/- Frames: Little of four bytes (frame's and the document's). -/
import Derived.Test.YtdgmnhcgjbkafaaDoorFou
namespace Go.Proofs.YtdgmnhcgjbkafaaDoor
open Go.RowKit Go.Sort Go.Lib

theorem cf_little1 (i : Value) (a b : Value) : ∀ W : World, (callFunc 46 (#[i] ++ #[a, b])).run Tryd.prog W = .ok (.enter 46 (#[i] ++ #[a, b])) W := by
  intro W; simp [go_sem]

/-- The boxes of Little, and what is in them. -/
structure LitI (w : World) (ub bb : Nat) (a : Option Addr) (c u : Nat) (wr : World) : Prop where
  ext : Ext w wr
  ubx : wr.heap[ub]? = some (.cells #[.int .u64 (u : Int)] 44 (0, 0))
  bbx : wr.heap[bb]? = some (.cells #[.slice a 4 c] 30 (0, 0))
theorem LitI.facts {w : World} {ub bb c u : Nat} {a : Option Addr} {wr : World} (h : LitI w ub bb a c u wr) : wr.cell? ⟨ub, 0, none⟩ = some (.int .u64 (u : Int)) ∧ wr.frozen? ⟨ub, 0, none⟩ = false ∧ wr.cell? ⟨bb, 0, none⟩ = some (.slice a 4 c) :=
  ⟨by have := cell_of_block h.ubx 0; simpa using this, free_of_block h.ubx 0, by have := cell_of_block h.bbx 0; simpa using this⟩
theorem LitI.step {w : World} {ub bb c u v : Nat} {a : Option Addr} {wr w' : World} (h : LitI w ub bb a c u wr) (hne : bb ≠ ub) (hub : w.heap.size ≤ ub) (ht : Little1To wr ub v w') : LitI w ub bb a c v w' := by
  obtain ⟨W, hx, rfl⟩ := ht
  have hu := (hx.block (block_lt h.ubx)).trans h.ubx
  have hb := (hx.block (block_lt h.bbx)).trans h.bbx
  refine ⟨(h.ext.trans hx).setCell hub _, ?_, ?_⟩
  · have := setCell_block (i := 0) hu (.int .u64 (v : Int))
    simpa using this
  · rw [setCell_other hne]; exact hb
set_option maxHeartbeats 4000000 in
set_option maxRecDepth 100000 in
theorem little_any (w : World) (a : Option Addr) (c : Nat) (l : List UInt8) (hs : Src w 1 (.slice a 4 c) 4 (u8s l)) :
    Calls Tryd.prog 40 #[.slice a 4 c] w fun e w' => e = .returned (.int .u64 ((leN l : Nat) : Int)) ∧ Ext w w' := by
  have HS := Lib.hid hs
  have hlen := u8s_src_len hs
  have HL := Lib.hid hlen
  clear hs hlen
  go_enter Tryd.func40, Tryd.ntmps40
  have hm : min (4 : Int) 8 = 4 := by decide
  go_wp2_with fail
  clear hm
  obtain ⟨ub, hub⟩ : ∃ ub, ub = w.heap.size + 1 := ⟨_, rfl⟩
  obtain ⟨bb, hbb⟩ : ∃ bb, bb = w.heap.size := ⟨_, rfl⟩
  rw [← hub, ← hbb]
  have hd4 : 256 ^ (3 + 1) * leN (l.drop (3 + 1)) = 0 := by rw [List.drop_of_length_le (by rw [HL.out]; omega)]; rfl
  have H0 : Hid (LitI w ub bb a c (256 ^ (3 + 1) * leN (l.drop (3 + 1))) ((w.alloc (.cells #[.slice a 4 c] 30)).alloc (.cells #[.int .u64 0] 44))) := Lib.hid (by
    rw [hd4, hub, hbb]
    exact ⟨((Ext.refl w).alloc _).alloc _, heap_alloc2 w _ _, (((Ext.refl (w.alloc _)).alloc _).block (by simp)).trans (heap_alloc_new w _)⟩)
  generalize World.alloc _ _ = W at *
  have key : ∀ (i : Nat), i < 4 → ∀ wr, LitI w ub bb a c (256 ^ (i + 1) * leN (l.drop (i + 1))) wr → Calls Tryd.prog 46 #[.int .i64 (i : Int), .pointer (some ⟨ub, 0, none⟩), .pointer (some ⟨bb, 0, none⟩)] wr fun e w' => e = .returned (.tuple #[]) ∧ LitI w ub bb a c (256 ^ i * leN (l.drop i)) w' := fun i hi wr h =>
    (little1_any wr ub bb i a 4 c l hi rfl (HS.out.ext h.ext) h.facts.1 h.facts.2.1 h.facts.2.2).mono (by rintro e w' ⟨rfl, ht⟩; exact ⟨rfl, h.step (by omega) (by omega) ht⟩)
  have HK := Lib.hid key
  clear key hd4 hub hbb
  refine (HK.out 3 (by omega) W H0.out).mono ?_
  rintro e w1 ⟨rfl, h1⟩
  have H1 := Lib.hid h1
  clear h1
  go_wp2_with fail
  refine (HK.out 2 (by omega) w1 H1.out).mono ?_
  rintro e w2 ⟨rfl, h2⟩
  have H2 := Lib.hid h2
  clear h2
  go_wp2_with fail
  refine (HK.out 1 (by omega) w2 H2.out).mono ?_
  rintro e w3 ⟨rfl, h3⟩
  have H3 := Lib.hid h3
  clear h3
  go_wp2_with fail
  refine (HK.out 0 (by omega) w3 H3.out).mono ?_
  rintro e w4 ⟨rfl, h4⟩
  have H4 : Hid (LitI w ub bb a c (leN l) w4) := Lib.hid (by simpa using h4)
  clear h4
  have c4 := H4.out.facts.1
  go_wp2_with fail
  go_ret
  exact ⟨rfl, H4.out.ext⟩

end Go.Proofs.YtdgmnhcgjbkafaaDoor
