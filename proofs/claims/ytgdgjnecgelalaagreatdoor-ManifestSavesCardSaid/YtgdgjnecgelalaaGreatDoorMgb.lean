/- manifest.Bytes$1: a number is put behind the bytes in a box. -/
import Derived.Test.YtgdgjnecgelalaaGreatDoorMfd
import Derived.Test.YtgdgjnecgelalaaGreatDoorErr
import Derived.Test.YtgdgjnecgelalaaGreatDoorBox
import Derived.Test.YtgdgjnecgelalaaGreatDoorHeld
import Derived.Deep.DeepCutAuto
namespace Go.Proofs.YtgdgjnecgelalaaGreatDoor
open Go.RowKit Go.Sort Go.Lib

/-- Bytes in a box. -/
structure BoxB (w0 : World) (g : Nat) (l : List UInt8) (k : Nat) (w : World) : Prop where
  blk : ∃ a n c, w.heap[g]? = some (.cells #[.slice a n c] 56 (0, 0)) ∧ Buf w0 l n a c w ∧ n ≤ k ∧ (Value.slice a n c).ownBlock ≠ some g
  new : w0.heap.size ≤ g
  ext : Ext w0 w
theorem BoxB.put {w0 w w1 : World} {g k k' : Nat} {l l' : List UInt8} {a' : Option Addr} {n' c' : Nat} (h : BoxB w0 g l k w) (hx : Ext w w1) (hB : Buf w l' n' a' c' w1) (hk : n' ≤ k') : BoxB w0 g l' k' (w1.setCell ⟨g, 0, none⟩ (.slice a' n' c')) := by
  obtain ⟨a, n, c, hb, hBuf, hn, ho⟩ := h.blk
  have hlt := block_lt hb
  have hb1 := hx.keep hb
  have hC := setCell_chg w1 g 0 (.slice a' n' c')
  have ho' : ∀ q, (Value.slice a' n' c').ownBlock = some q → q ≠ g := fun q hq => by have := hB.made.own q hq; omega
  have hx' : Ext w0 (w1.setCell ⟨g, 0, none⟩ (.slice a' n' c')) := (h.ext.trans hx).setCell (p := ⟨g, 0, none⟩) h.new _
  refine ⟨⟨a', n', c', by have := setCell_block hb1 (i := 0) (.slice a' n' c'); simpa using this, ⟨⟨hB.made.row.chg hC (fun q hq => ho' q hq), fun q hq => ?_, hx'⟩, hB.len⟩, hk, fun e => ho' g e rfl⟩, h.new, hx'⟩
  have h1 := hB.made.own q hq
  have h2 := h.ext.size
  omega
theorem BoxB.ext' {w0 w w1 : World} {g k : Nat} {l : List UInt8} (h : BoxB w0 g l k w) (hx : Ext w w1) : BoxB w0 g l k w1 := by
  obtain ⟨a, n, c, hb, hBuf, hn, ho⟩ := h.blk
  exact ⟨⟨a, n, c, hx.keep hb, hBuf.ext hx, hn, ho⟩, h.new, h.ext.trans hx⟩
theorem Buf.here {w0 w : World} {l : List UInt8} {n c : Nat} {a : Option Addr} (h : Buf w0 l n a c w) : Src w 1 (.slice a n c) n (u8s l) := h.src

set_option maxHeartbeats 4000000 in
set_option maxRecDepth 100000 in
theorem bytesNum_any (w0 w : World) (g k : Nat) (l : List UInt8) (z : Int) (h : BoxB w0 g l k w) (hk : k ≤ 35184372088832) :
    Calls Tryz.prog 40 #[.int .i64 z, .pointer (some ⟨g, 0, none⟩)] w fun e w' => e = .returned (.tuple #[]) ∧ BoxB w0 g (l ++ varP (u64n z)) (k + 10) w' ∧ Chg (· = g) w w' := by
  obtain ⟨a, n, c, hb, hB, hn, ho⟩ := h.blk
  have H := Lib.hid h
  have HB := Lib.hid hB
  have HBB := Lib.hid hb
  have HSRC := Lib.hid hB.src
  have c0 := cell_of_block hb 0
  have hlen := hB.len
  have HLEN := Lib.hid hlen
  clear h hb hB ho hlen
  go_enter Tryz.func40, Tryz.ntmps40
  go_wp2_with fail
  rw [u64n_wrap]
  refine (varPut' w a n c l (u64n z) (u64n_lt z) HSRC.out HB.out.le (by omega)).mono ?_
  rintro e w1 ⟨a1, c1, rfl, hm⟩
  obtain ⟨n1, hn1⟩ : ∃ n1, n1 = (l ++ varP (u64n z)).length := ⟨_, rfl⟩
  rw [← hn1] at hm ⊢
  have hk1 : n1 ≤ k + 10 := by
    have := varP_10 (u64n_lt z)
    have := HLEN.out
    rw [hn1, List.length_append]; omega
  have HN := Lib.hid (H.out.put hm.ext ⟨hm, hn1⟩ hk1)
  have HBB1 := Lib.hid (hm.ext.keep HBB.out)
  have HX := Lib.hid hm.ext
  have c1' := cell_of_block HBB1.out 0
  have z0 := free_of_block HBB1.out 0
  clear hm hn1 c0
  go_wp2_with fail
  go_end0
  exact ⟨rfl, HN.out, (Chg.of_ext HX.out).trans (setCell_chg _ _ _ _) (fun _ _ e => e)⟩
end Go.Proofs.YtgdgjnecgelalaaGreatDoor

/-! Frames: four bytes, and back (frame's and the document's). -/

namespace Go.Proofs.YtgdgjnecgelalaaGreatDoor
open Go.RowKit Go.Sort Go.Lib

def four4 (u : Nat) : Array Value := #[.int .u8 ((UInt8.ofNat (u % 256)).toNat : Int), .int .u8 ((UInt8.ofNat (u / 256 % 256)).toNat : Int), .int .u8 ((UInt8.ofNat (u / 65536 % 256)).toNat : Int), .int .u8 ((UInt8.ofNat (u / 16777216 % 256)).toNat : Int)]
theorem four4_u8s (u : Nat) : (four4 u).toList = u8s (le4 u) := rfl
theorem b_eq (x : Nat) : (((UInt8.ofNat (x % 256)).toNat : Nat) : Int) = ((x % 256 : Nat) : Int) := by
  rw [UInt8.toNat_ofNat']; omega

theorem four4_vals (u : Nat) (hu : u < 4294967296) : (#[.int .u8 ((u : Int) % 256), .int .u8 ((u : Int) / 256 % 256), .int .u8 ((u : Int) / 65536 % 256), .int .u8 ((u : Int) / 16777216)] : Array Value) = four4 u := by
  unfold four4
  rw [b_eq, b_eq, b_eq, b_eq]
  have e1 : (u : Int) % 256 = ((u % 256 : Nat) : Int) := by omega
  have e2 : (u : Int) / 256 % 256 = ((u / 256 % 256 : Nat) : Int) := by omega
  have e3 : (u : Int) / 65536 % 256 = ((u / 65536 % 256 : Nat) : Int) := by omega
  have e4 : (u : Int) / 16777216 = ((u / 16777216 % 256 : Nat) : Int) := by omega
  rw [e1, e2, e3, e4]

set_option maxHeartbeats 4000000 in
set_option maxRecDepth 100000 in
theorem ref4four_any (w : World) (u : Nat) (hu : u < 4294967296) :
    Calls Tryz.prog 92 #[.int .u32 (u : Int)] w fun e w' => ∃ a c, e = .returned (.slice a 4 c) ∧ MadeTo w 5 1 (.slice a 4 c) 4 (u8s (le4 u)) w' := by
  go_enter Tryz.func92, Tryz.ntmps92
  go_wp2_with fail
  go_ret
  refine ⟨_, _, rfl, ⟨rfl, .inr ⟨w.heap.size, 4, four4 u, rfl, Nat.zero_le _, ?_, Nat.le_refl _, by unfold maxLen; omega, rfl, rfl⟩⟩, fun g hg => ?_, (Ext.refl _).alloc _⟩
  · rw [← four4_vals u hu]; exact heap_alloc_new w _
  · have e2 : w.heap.size = g := Option.some.inj hg; omega
set_option maxHeartbeats 4000000 in
set_option maxRecDepth 100000 in
theorem four_any (w : World) (u : Nat) (hu : u < 4294967296) :
    Calls Tryz.prog 82 #[.int .u32 (u : Int)] w fun e w' => e = .returned (.agg (four4 u)) ∧ Ext w w' := by
  go_enter Tryz.func82, Tryz.ntmps82
  go_wp2_with fail
  refine bodyPost_ret (results_box Tryz.results82 _ _ rfl (heap_alloc_new w _) Tryz.underlying140 rfl (by kernel_rfl)) rfl ⟨by rw [← four4_vals u hu], (Ext.refl _).alloc _⟩

theorem le_or (m x i : Nat) (hx : x < 256) (hb : (256 * m + x) * 256 ^ i < 18446744073709551616) :
    bits .or .u64 ((256 ^ (i + 1) * m : Nat) : Int) (IntKind.u64.wrap (IntKind.u64.wrap (x : Int) * 2 ^ (8 * i))) = ((256 ^ i * (256 * m + x) : Nat) : Int) := by
  have hn : (256 : Nat) ^ i = 2 ^ (8 * i) := by rw [Nat.pow_mul]
  have hp : (2 : Int) ^ (8 * i) = ((256 ^ i : Nat) : Int) := by rw [hn, Int.natCast_pow]; rfl
  have h1 : IntKind.u64.wrap (x : Int) = (x : Int) := by rw [IntKind.wrap_u64]; omega
  have h2 : x * 256 ^ i ≤ (256 * m + x) * 256 ^ i := Nat.mul_le_mul_right _ (by omega)
  rw [h1, hp, ← Int.natCast_mul, show IntKind.u64.wrap ((x * 256 ^ i : Nat) : Int) = ((x * 256 ^ i : Nat) : Int) by rw [IntKind.wrap_u64]; omega]
  have h3 : 256 ^ (i + 1) * m ≤ (256 * m + x) * 256 ^ i := by
    rw [Nat.pow_succ, Nat.mul_assoc, Nat.mul_comm]
    exact Nat.mul_le_mul_right _ (by omega)
  rw [bits_or_u64_nat _ _ (by omega) (by omega)]
  congr 1
  have h4 : (256 : Nat) ^ (i + 1) = 2 ^ (8 * (i + 1)) := by rw [Nat.pow_mul]
  have h5 : x * 256 ^ i < 2 ^ (8 * (i + 1)) := by
    rw [← h4, Nat.pow_succ, Nat.mul_comm (256 ^ i)]
    exact Nat.mul_lt_mul_of_pos_right hx (Nat.pow_pos (by decide))
  rw [h4, ← Nat.two_pow_add_eq_or_of_lt h5, ← h4, Nat.pow_succ, Nat.mul_add, Nat.mul_comm x, Nat.mul_assoc]
def Little1To (w : World) (ub : Nat) (u : Nat) (w' : World) : Prop := ∃ W, Ext w W ∧ w' = W.setCell ⟨ub, 0, none⟩ (.int .u64 (u : Int))
set_option maxHeartbeats 4000000 in
set_option maxRecDepth 100000 in
theorem little1_any (w : World) (ub bb i : Nat) (a : Option Addr) (n c : Nat) (l : List UInt8) (hi : i < 4) (hn : n = 4) (hs : Src w 1 (.slice a n c) n (u8s l)) (hu : w.cell? ⟨ub, 0, none⟩ = some (.int .u64 ((256 ^ (i + 1) * leN (l.drop (i + 1)) : Nat) : Int))) (hz : w.frozen? ⟨ub, 0, none⟩ = false) (hb : w.cell? ⟨bb, 0, none⟩ = some (.slice a n c)) :
    Calls Tryz.prog 141 #[.int .i64 (i : Int), .pointer (some ⟨ub, 0, none⟩), .pointer (some ⟨bb, 0, none⟩)] w fun e w' => e = .returned (.tuple #[]) ∧ Little1To w ub (256 ^ i * leN (l.drop i)) w' := by
  have hlen := u8s_src_len hs
  have hin : i < n := by omega
  obtain ⟨b, off, x, rfl, hx, cx⟩ := byte_src hs hin
  have hw : IntKind.i64.wrap (8 * (i : Int)) = ((8 * i : Nat) : Int) := by rw [IntWalk.i64_in _ (by omega)]; omega
  have hd : l.drop i = x :: l.drop (i + 1) := by
    obtain ⟨h1, h2⟩ := List.getElem?_eq_some_iff.1 hx
    rw [← h2]; exact List.drop_eq_getElem_cons h1
  have hv : leN (l.drop i) = 256 * leN (l.drop (i + 1)) + x.toNat := by rw [hd, leN]; omega
  have hor := le_or (leN (l.drop (i + 1))) x.toNat i x.toNat_lt (by
    rw [← hv]
    have h1 := leN_lt (l.drop i)
    have h2 : (l.drop i).length = 4 - i := by rw [List.length_drop]; omega
    rw [h2] at h1
    have h3 : leN (l.drop i) * 256 ^ i < 256 ^ (4 - i) * 256 ^ i := Nat.mul_lt_mul_of_pos_right h1 (Nat.pow_pos (by decide))
    rw [← Nat.pow_add, show 4 - i + i = 4 by omega] at h3
    omega)
  rw [← hv] at hor
  obtain ⟨u0, hu0⟩ : ∃ u0, u0 = 256 ^ (i + 1) * leN (l.drop (i + 1)) := ⟨_, rfl⟩
  obtain ⟨u1, hu1⟩ : ∃ u1, u1 = 256 ^ i * leN (l.drop i) := ⟨_, rfl⟩
  rw [← hu0] at hor hu
  rw [← hu1] at hor ⊢
  clear hs hx hd hv hu0 hu1 hlen hn
  go_enter Tryz.func141, Tryz.ntmps141
  refine wp_region_split_lit [] [0, 1, 2, 3, 4, 5, 6, 7, 8, 9] [10] (by kernel_rfl) (by kernel_rfl) (fun _ _ dd _ _ hh => by cases dd <;> exact hh) ?_
  simp only [pickOps, List.getElem?_cons_succ, List.getElem?_cons_zero]
  refine wpQuiet_nil ?_
  repeat (go_big_quiet_step (fail))
  first | rw [hor] | skip
  refine wpQuiet_nil ?_
  intro W hw'
  have HX : Hid (Ext w W) := Lib.hid (by obtain ⟨kk, rfl⟩ := hw'; exact Ext.drewN _ _)
  have hu2 : W.cell? ⟨ub, 0, none⟩ = some (.int .u64 (u0 : Int)) := by obtain ⟨kk, rfl⟩ := hw'; exact hu
  have hz2 : W.frozen? ⟨ub, 0, none⟩ = false := by obtain ⟨kk, rfl⟩ := hw'; exact hz
  clear hw' hor hu hz hb cx
  go_wp2_with fail
  go_end0
  exact ⟨rfl, W, HX.out, rfl⟩
end Go.Proofs.YtgdgjnecgelalaaGreatDoor

/-! Frames: Little of four bytes (frame's and the document's). -/

namespace Go.Proofs.YtgdgjnecgelalaaGreatDoor
open Go.RowKit Go.Sort Go.Lib

theorem cf_little1 (i : Value) (a b : Value) : ∀ W : World, (callFunc 141 (#[i] ++ #[a, b])).run Tryz.prog W = .ok (.enter 141 (#[i] ++ #[a, b])) W := by
  intro W; simp [go_sem]

/-- The boxes of Little, and what is in them. -/
structure LitI (w : World) (ub bb : Nat) (a : Option Addr) (c u : Nat) (wr : World) : Prop where
  ext : Ext w wr
  ubx : wr.heap[ub]? = some (.cells #[.int .u64 (u : Int)] 97 (0, 0))
  bbx : wr.heap[bb]? = some (.cells #[.slice a 4 c] 56 (0, 0))
theorem LitI.facts {w : World} {ub bb c u : Nat} {a : Option Addr} {wr : World} (h : LitI w ub bb a c u wr) : wr.cell? ⟨ub, 0, none⟩ = some (.int .u64 (u : Int)) ∧ wr.frozen? ⟨ub, 0, none⟩ = false ∧ wr.cell? ⟨bb, 0, none⟩ = some (.slice a 4 c) :=
  ⟨by have := cell_of_block h.ubx 0; simpa using this, free_of_block h.ubx 0, by have := cell_of_block h.bbx 0; simpa using this⟩
theorem LitI.step {w : World} {ub bb c u v : Nat} {a : Option Addr} {wr w' : World} (h : LitI w ub bb a c u wr) (hne : bb ≠ ub) (hub : w.heap.size ≤ ub) (ht : Little1To wr ub v w') : LitI w ub bb a c v w' := by
  obtain ⟨W, hx, rfl⟩ := ht
  have hu := (hx.block (block_lt h.ubx)).trans h.ubx
  have hb := (hx.block (block_lt h.bbx)).trans h.bbx
  refine ⟨(h.ext.trans hx).setCell hub _, ?_, ?_⟩
  · have := setCell_block (i := 0) hu (.int .u64 (v : Int))
    simpa using this
  · rw [setCell_other hne]; exact hb
set_option maxHeartbeats 4000000 in
set_option maxRecDepth 100000 in
theorem little_any (w : World) (a : Option Addr) (c : Nat) (l : List UInt8) (hs : Src w 1 (.slice a 4 c) 4 (u8s l)) :
    Calls Tryz.prog 127 #[.slice a 4 c] w fun e w' => e = .returned (.int .u64 ((leN l : Nat) : Int)) ∧ Ext w w' := by
  have HS := Lib.hid hs
  have hlen := u8s_src_len hs
  have HL := Lib.hid hlen
  clear hs hlen
  go_enter Tryz.func127, Tryz.ntmps127
  have hm : min (4 : Int) 8 = 4 := by decide
  go_wp2_with fail
  clear hm
  obtain ⟨ub, hub⟩ : ∃ ub, ub = w.heap.size + 1 := ⟨_, rfl⟩
  obtain ⟨bb, hbb⟩ : ∃ bb, bb = w.heap.size := ⟨_, rfl⟩
  rw [← hub, ← hbb]
  have hd4 : 256 ^ (3 + 1) * leN (l.drop (3 + 1)) = 0 := by rw [List.drop_of_length_le (by rw [HL.out]; omega)]; rfl
  have H0 : Hid (LitI w ub bb a c (256 ^ (3 + 1) * leN (l.drop (3 + 1))) ((w.alloc (.cells #[.slice a 4 c] 56)).alloc (.cells #[.int .u64 0] 97))) := Lib.hid (by
    rw [hd4, hub, hbb]
    exact ⟨((Ext.refl w).alloc _).alloc _, heap_alloc2 w _ _, (((Ext.refl (w.alloc _)).alloc _).block (by simp)).trans (heap_alloc_new w _)⟩)
  generalize World.alloc _ _ = W at *
  have key : ∀ (i : Nat), i < 4 → ∀ wr, LitI w ub bb a c (256 ^ (i + 1) * leN (l.drop (i + 1))) wr → Calls Tryz.prog 141 #[.int .i64 (i : Int), .pointer (some ⟨ub, 0, none⟩), .pointer (some ⟨bb, 0, none⟩)] wr fun e w' => e = .returned (.tuple #[]) ∧ LitI w ub bb a c (256 ^ i * leN (l.drop i)) w' := fun i hi wr h =>
    (little1_any wr ub bb i a 4 c l hi rfl (HS.out.ext h.ext) h.facts.1 h.facts.2.1 h.facts.2.2).mono (by rintro e w' ⟨rfl, ht⟩; exact ⟨rfl, h.step (by omega) (by omega) ht⟩)
  have HK := Lib.hid key
  clear key hd4 hub hbb
  refine (HK.out 3 (by omega) W H0.out).mono ?_
  rintro e w1 ⟨rfl, h1⟩
  have H1 := Lib.hid h1
  clear h1
  go_wp2_with fail
  refine (HK.out 2 (by omega) w1 H1.out).mono ?_
  rintro e w2 ⟨rfl, h2⟩
  have H2 := Lib.hid h2
  clear h2
  go_wp2_with fail
  refine (HK.out 1 (by omega) w2 H2.out).mono ?_
  rintro e w3 ⟨rfl, h3⟩
  have H3 := Lib.hid h3
  clear h3
  go_wp2_with fail
  refine (HK.out 0 (by omega) w3 H3.out).mono ?_
  rintro e w4 ⟨rfl, h4⟩
  have H4 : Hid (LitI w ub bb a c (leN l) w4) := Lib.hid (by simpa using h4)
  clear h4
  have c4 := H4.out.facts.1
  go_wp2_with fail
  go_ret
  exact ⟨rfl, H4.out.ext⟩

set_option maxHeartbeats 4000000 in
set_option maxRecDepth 100000 in
theorem ref4little_any (w : World) (a : Option Addr) (c : Nat) (l : List UInt8) (hs : Src w 1 (.slice a 4 c) 4 (u8s l)) :
    Calls Tryz.prog 131 #[.slice a 4 c] w fun e w' => e = .returned (.int .u64 ((leN l : Nat) : Int)) ∧ w = w' := by
  have HS := Lib.hid hs
  have hlen := u8s_src_len hs
  have HL := Lib.hid hlen
  clear hs hlen
  go_enter Tryz.func131, Tryz.ntmps131
  go_wp2_with fail
  go_loop [3, 4] (fun s3 s4 => ∃ (k u : Nat), k ≤ 8 ∧ s4 = .int .i64 ((k : Int) - 1) ∧ s3 = .int .u64 (u : Int) ∧ u < 4294967296 ∧ Hid (u = leN (l.drop k))) (fun _ s4 => ((RowKit.intOf s4) + 1).toNat)
  case atStart => exact ⟨8, 0, by omega, rfl, rfl, by omega, Lib.hid (by rw [List.drop_of_length_le (by rw [HL.out]; omega)]; rfl)⟩
  case round =>
    obtain ⟨k, u, hk, rfl, rfl, hu, HU⟩ := hrel
    rcases Nat.eq_zero_or_pos k with h0 | h0
    · subst h0
      have HE : Hid (u = leN l) := Lib.hid (by have := HU.out; simpa using this)
      go_wp2_with fail
      go_ret
      exact ⟨by rw [← HE.out]; rfl, rfl⟩
    · obtain ⟨j, rfl⟩ : ∃ j, k = j + 1 := ⟨k - 1, by omega⟩
      have hj : ((j + 1 : Nat) : Int) - 1 = (j : Int) := by omega
      rw [hj]
      have hj0 : (0 : Int) ≤ (j : Int) := by omega
      clear hj h0
      by_cases h4 : j < 4
      · obtain ⟨b, off, x, rfl, hx, cx⟩ := byte_src HS.out h4
        have hd : l.drop j = x :: l.drop (j + 1) := by
          obtain ⟨h1, h2⟩ := List.getElem?_eq_some_iff.1 hx
          rw [← h2]; exact List.drop_eq_getElem_cons h1
        have hv : leN (l.drop j) = u * 256 + x.toNat := by rw [hd, leN, ← HU.out]; omega
        have hlt : u * 256 + x.toNat < 4294967296 := by
          rw [← hv]
          have h1 := leN_lt (l.drop j)
          have h2 : (l.drop j).length = 4 - j := by rw [List.length_drop, HL.out]
          rw [h2] at h1
          have h3 : 256 ^ (4 - j) ≤ 256 ^ 4 := Nat.pow_le_pow_right (by decide) (by omega)
          omega
        have HV := Lib.hid hv
        have hxl := x.toNat_lt
        have h4' : (j : Int) < 4 := by omega
        clear hd hx hv
        go_wp2_with fail
        go_round
        case rel => exact ⟨j, u * 256 + x.toNat, by omega, rfl, by go_num, hlt, Lib.hid HV.out.symm⟩
        case measure => simp [RowKit.intOf]
      · have h4' : ¬ (j : Int) < 4 := by omega
        have HV : Hid (u = leN (l.drop j)) := Lib.hid (by
          rw [HU.out, List.drop_of_length_le (by rw [HL.out]; omega), List.drop_of_length_le (by rw [HL.out]; omega)])
        go_wp2_with fail
        go_round
        case rel => exact ⟨j, u, by omega, rfl, rfl, hu, HV⟩
        case measure => simp [RowKit.intOf]
end Go.Proofs.YtgdgjnecgelalaaGreatDoor

/-! Frames: Seal (frame's and the document's). -/

namespace Go.Proofs.YtgdgjnecgelalaaGreatDoor
open Go.RowKit Go.Sort Go.Lib

/-- A frame without its sum, and with it. -/
def headL (k : UInt8) (l : List UInt8) : List UInt8 := k :: (le4 l.length ++ l)
def sealL (k : UInt8) (l : List UInt8) : List UInt8 := headL k l ++ le4 (csum (headL k l))
theorem le4_len (u : Nat) : (le4 u).length = 4 := rfl
theorem headL_len (k : UInt8) (l : List UInt8) : (headL k l).length = l.length + 5 := by simp [headL, le4_len]; omega
theorem sealL_len (k : UInt8) (l : List UInt8) : (sealL k l).length = l.length + 9 := by simp [sealL, headL_len, le4_len]
theorem src_four {W : World} {b u : Nat} {t : TypeId} (h : W.heap[b]? = some (.cells (four4 u) t (0, 0))) : Src W 1 (.slice (some ⟨b, 0, none⟩) 4 4) 4 (u8s (le4 u)) := by
  refine .inr ⟨_, _, rfl, rfl, fun j u hj => ?_, u8s_one _⟩
  rw [Go.WideShapes.add_plain, Nat.zero_add, cell_of_block h]
  rw [← four4_u8s] at hj
  simpa using hj

set_option maxHeartbeats 4000000 in
set_option maxRecDepth 100000 in
theorem ref4seal_big (w : World) (k : UInt8) (a : Option Addr) (n c : Nat) (hn : 1048576 < n) :
    Calls Tryz.prog 57 #[.int .u8 (k.toNat : Int), .slice a n c] w fun e w' => e = .returned (.tuple #[.slice none 0 0, .int .i64 3]) ∧ w = w' := by
  go_enter Tryz.func57, Tryz.ntmps57
  go_wp2_with fail
  go_ret2
  exact ⟨rfl, rfl⟩
def SealPost (w : World) (k : UInt8) (l : List UInt8) (e : Ending) (w' : World) : Prop := ∃ a c, e = .returned (.tuple #[.slice a (sealL k l).length c, .int .i64 0]) ∧ MadeTo w 5 1 (.slice a (sealL k l).length c) (sealL k l).length (u8s (sealL k l)) w'

set_option maxHeartbeats 4000000 in
set_option maxRecDepth 100000 in
theorem ref4seal_any (w : World) (k : UInt8) (a : Option Addr) (n c : Nat) (l : List UInt8) (hl : Src w 1 (.slice a n c) n (u8s l)) (hn : n ≤ 1048576) :
    Calls Tryz.prog 57 #[.int .u8 (k.toNat : Int), .slice a n c] w (SealPost w k l) := by
  have HL := Lib.hid hl
  have hlen := u8s_src_len hl
  have HN := Lib.hid hlen
  have hnn : ¬ 1048576 < n := by omega
  have hmod : (n : Int) % 4294967296 = (n : Int) := by omega
  clear hl hlen
  go_enter Tryz.func57, Tryz.ntmps57
  go_wp2_with fail
  clear hmod
  refine (ref4four_any _ n (by omega)).mono ?_
  rintro e w1 ⟨a1, c1, rfl, h1⟩
  have H1 := Lib.hid h1
  clear h1
  have HK : Hid (MadeTo w 5 1 (.slice (some ⟨w.heap.size, 0, none⟩) 1 1) 1 (u8s [k]) w1) := Lib.hid (by
    have hb := heap_alloc_new w (.cells #[.int .u8 (k.toNat : Int)] 5 (0, 0))
    refine (⟨⟨rfl, .inr ⟨w.heap.size, 1, _, rfl, Nat.zero_le _, hb, Nat.le_refl _, by unfold maxLen; omega, rfl, rfl⟩⟩, fun g hg => ?_, (Ext.refl w).alloc _⟩ : MadeTo w 5 1 (.slice (some ⟨w.heap.size, 0, none⟩) 1 1) 1 (u8s [k]) _).ext' H1.out.ext
    have e2 : w.heap.size = g := Option.some.inj hg
    omega)
  go_upto_region 4 with (at_builtin; go_must (refine wpList_append_to (n := 1) (m := 4) byt_elem rfl _ _ rfl (v := .slice _ _ _) rfl rfl HK.out.row (H1.out.row.src (u8s_one _)) (by unfold maxLen; omega) (by omega) ?_; intro v2 w2 happ); obtain ⟨a2, c2, rfl⟩ := happ.row.shape; have H2 := Lib.hid (HK.out.more (Ext.refl _) happ); clear happ)
  clear H1 HK
  go_upto_region 5 with (at_builtin; go_must (refine wpList_append_to (n := 5) (m := n) byt_elem rfl _ _ rfl (v := .slice _ _ _) rfl rfl H2.out.row (HL.out.ext H2.out.ext) (by unfold maxLen; omega) (by omega) ?_; intro v3 w3 happ); obtain ⟨a3, c3, rfl⟩ := happ.row.shape; have H3 := Lib.hid (H2.out.more (Ext.refl _) happ); clear happ)
  have HM : Hid (MadeTo w 5 1 (.slice a3 (5 + n) c3) (5 + n) (u8s (headL k l)) w3) := Lib.hid (by
    have := H3.out
    have e2 : headL k l = [k] ++ le4 n ++ l := by rw [headL, HN.out]; rfl
    rw [e2, u8s_append, u8s_append]
    rw [show 1 + 4 + n = 5 + n by omega] at this
    exact this)
  clear H2 H3
  go_wp2_with fail
  refine (ref4sum_any w3 _ _ _ _ (HM.out.row.src (u8s_one _)) (by omega)).mono ?_
  rintro e w' ⟨rfl, rfl⟩
  have hcl := csum_lt (headL k l)
  obtain ⟨cs, hcs⟩ : ∃ cs, cs = csum (headL k l) := ⟨_, rfl⟩
  rw [← hcs] at hcl ⊢
  have HCS := Lib.hid hcs
  clear hcs
  go_wp2_with fail
  refine (ref4four_any _ cs hcl).mono ?_
  rintro e w4 ⟨a4, c4, rfl, h4⟩
  have H4 := Lib.hid h4
  clear h4
  go_wp2_with (at_builtin; go_must (refine wpList_append_to (n := 5 + n) (m := 4) byt_elem rfl _ _ rfl (v := .slice _ _ _) rfl rfl (HM.out.row.ext H4.out.ext) (H4.out.row.src (u8s_one _)) (by unfold maxLen; omega) (by omega) ?_; intro v5 w5 happ); obtain ⟨a5, c5, rfl⟩ := happ.row.shape; have H5 := Lib.hid (HM.out.more H4.out.ext happ); clear happ)
  go_ret2
  have e : 5 + n + 4 = (sealL k l).length := by rw [sealL_len, HN.out]; omega
  have h5 := H5.out
  rw [← u8s_append, HCS.out, e] at h5
  exact ⟨a5, c5, by rw [← e]; rfl, h5⟩

set_option maxHeartbeats 4000000 in
set_option maxRecDepth 100000 in
theorem seal_big (w : World) (k : UInt8) (a : Option Addr) (n c : Nat) (hn : 1048576 < n) :
    Calls Tryz.prog 45 #[.int .u8 (k.toNat : Int), .slice a n c] w fun e w' => e = .returned (.tuple #[.slice none 0 0, .int .i64 3]) ∧ w = w' := by
  go_enter Tryz.func45, Tryz.ntmps45
  go_wp2_with fail
  go_ret2
  exact ⟨rfl, rfl⟩

set_option maxHeartbeats 4000000 in
set_option maxRecDepth 100000 in
theorem seal_any (w : World) (k : UInt8) (a : Option Addr) (n c : Nat) (l : List UInt8) (hl : Src w 1 (.slice a n c) n (u8s l)) (hn : n ≤ 1048576) :
    Calls Tryz.prog 45 #[.int .u8 (k.toNat : Int), .slice a n c] w (SealPost w k l) := by
  have HL := Lib.hid hl
  have hlen := u8s_src_len hl
  have HN := Lib.hid hlen
  have hnn : ¬ 1048576 < n := by omega
  have hmod : (n : Int) % 4294967296 = (n : Int) := by omega
  clear hl hlen
  go_enter Tryz.func45, Tryz.ntmps45
  go_wp2_with fail
  clear hmod
  refine (four_any _ n (by omega)).mono ?_
  rintro e w1 ⟨rfl, hx1⟩
  have HX1 := Lib.hid hx1
  obtain ⟨q0, q1, q2, q3, hq⟩ : ∃ q0 q1 q2 q3 : Int, four4 n = #[.int .u8 q0, .int .u8 q1, .int .u8 q2, .int .u8 q3] := ⟨_, _, _, _, rfl⟩
  rw [hq]
  have HQ := Lib.hid hq
  clear hx1 hq
  go_upto_region 4 with fail
  obtain ⟨bm, hbm⟩ : ∃ bm, bm = w1.heap.size := ⟨_, rfl⟩
  rw [← hbm]
  have HW : Hid (Ext w1 (w1.alloc (.cells #[.int .u8 q0, .int .u8 q1, .int .u8 q2, .int .u8 q3] 140)) ∧ (w1.alloc (.cells #[.int .u8 q0, .int .u8 q1, .int .u8 q2, .int .u8 q3] 140)).heap[bm]? = some (.cells (four4 n) 140 (0, 0))) := Lib.hid ⟨(Ext.refl _).alloc _, by rw [hbm, HQ.out]; exact heap_alloc_new w1 _⟩
  generalize World.alloc _ _ = W at *
  obtain ⟨m, hw9⟩ : ∃ m : Nat, (n : Int) + 9 = (m : Int) := ⟨n + 9, by omega⟩
  obtain ⟨w3, hmk, hmade⟩ := make_room byt_elem W m (by omega) (by omega)
  have HMK := Lib.hid hmade
  have HBM : Hid (w3.heap[bm]? = some (.cells (four4 n) 140 (0, 0))) := Lib.hid ((HMK.out.ext.block (block_lt HW.out.2)).trans HW.out.2)
  clear hmade hbm
  go_upto_region 5 with (first
    | (at_make; refine wpList_makeS_run rfl _ _ _ rfl _ _ _ w3 rfl rfl hmk ?_; clear hmk hw9)
    | (at_builtin; go_must (refine wpList_append_to (n := 0) (m := 1) byt_elem rfl _ _ rfl (v := .slice _ _ _) rfl rfl (HMK.out.row.ext ((Ext.refl _).alloc _)) (byt_src (x := k) (heap_alloc_new _ _)) (by unfold maxLen; omega) (by omega) ?_; intro v4 w4 happ); obtain ⟨a4, c4, rfl⟩ := happ.row.shape; have H4 := Lib.hid (HMK.out.more ((Ext.refl _).alloc _) happ); have HX4 := Lib.hid (((Chg.of_ext (S := fun b => W.heap.size ≤ b) (HMK.out.ext.alloc (.cells #[.int .u8 (k.toNat : Int)] 5 (0, 0)))).trans happ.chg (fun i hi e => HMK.out.own i e)).block bm (block_lt HW.out.2) (by have := block_lt HW.out.2; omega)); clear happ))
  have H4' : Hid (MadeTo w 5 1 (.slice a4 1 c4) 1 (u8s [k]) w4) := Lib.hid (by
    have := H4.out
    exact MadeTo.trans (HX1.out.trans HW.out.1) this)
  have HB4 : Hid (w4.heap[bm]? = some (.cells (four4 n) 140 (0, 0))) := Lib.hid (HX4.out.trans HW.out.2)
  clear H4 HX4 HMK HW HX1
  go_upto_region 6 with (first
    | (refine wpList_append_to (n := 1) (m := 4) byt_elem rfl (.tmp 23) (.tmp 24) rfl rfl rfl H4'.out.row (src_four HB4.out) (by unfold maxLen; omega) (by omega) ?_; intro v5 w5 happ; obtain ⟨a5, c5, rfl⟩ := happ.row.shape; have H5 := Lib.hid (H4'.out.more (Ext.refl _) happ); clear happ)
    | (refine wpList_append_to (n := 1 + 4) (m := n) byt_elem rfl (.tmp 25) (.tmp 26) rfl rfl rfl H5.out.row (HL.out.ext H5.out.ext) (by unfold maxLen; omega) (by omega) ?_; intro v6 w6 happ; obtain ⟨a6, c6, rfl⟩ := happ.row.shape; have H6 := Lib.hid (H5.out.more (Ext.refl _) happ); clear happ))
  have HM : Hid (MadeTo w 5 1 (.slice a6 (5 + n) c6) (5 + n) (u8s (headL k l)) w6) := Lib.hid (by
    have := H6.out
    have e2 : headL k l = [k] ++ le4 n ++ l := by rw [headL, HN.out]; rfl
    rw [e2, u8s_append, u8s_append]
    rw [show 1 + 4 + n = 5 + n by omega] at this
    exact this)
  clear H6 H5 H4' HB4 HQ
  go_wp2_with fail
  refine (frameSum_any w6 _ _ _ _ (HM.out.row.src (u8s_one _)) (by omega)).mono ?_
  rintro e w' ⟨rfl, rfl⟩
  have hcl := csum_lt (headL k l)
  obtain ⟨cs, hcs⟩ : ∃ cs, cs = csum (headL k l) := ⟨_, rfl⟩
  rw [← hcs] at hcl ⊢
  have HCS := Lib.hid hcs
  clear hcs
  go_wp2_with fail
  refine (four_any _ cs hcl).mono ?_
  rintro e w7 ⟨rfl, hx7⟩
  have HX7 := Lib.hid hx7
  obtain ⟨p0, p1, p2, p3, hq⟩ : ∃ q0 q1 q2 q3 : Int, four4 cs = #[.int .u8 q0, .int .u8 q1, .int .u8 q2, .int .u8 q3] := ⟨_, _, _, _, rfl⟩
  rw [hq]
  have HQ := Lib.hid hq
  clear hx7 hq
  go_upto_region 7 with fail
  obtain ⟨bs, hbs⟩ : ∃ bs, bs = w7.heap.size := ⟨_, rfl⟩
  rw [← hbs]
  have HW : Hid (Ext w7 (w7.alloc (.cells #[.int .u8 p0, .int .u8 p1, .int .u8 p2, .int .u8 p3] 140)) ∧ (w7.alloc (.cells #[.int .u8 p0, .int .u8 p1, .int .u8 p2, .int .u8 p3] 140)).heap[bs]? = some (.cells (four4 cs) 140 (0, 0))) := Lib.hid ⟨(Ext.refl _).alloc _, by rw [hbs, HQ.out]; exact heap_alloc_new w7 _⟩
  generalize World.alloc _ _ = W8 at *
  clear hbs
  go_wp2_with (refine wpList_append_to (n := 5 + n) (m := 4) byt_elem rfl (.tmp 31) (.tmp 32) rfl rfl rfl (HM.out.row.ext (HX7.out.trans HW.out.1)) (src_four HW.out.2) (by unfold maxLen; omega) (by omega) ?_; intro v9 w9 happ; obtain ⟨a9, c9, rfl⟩ := happ.row.shape; have H9 := Lib.hid (HM.out.more (HX7.out.trans HW.out.1) happ); clear happ)
  go_ret2
  have e : 5 + n + 4 = (sealL k l).length := by rw [sealL_len, HN.out]; omega
  have h5 := H9.out
  rw [← u8s_append, HCS.out, e] at h5
  exact ⟨a9, c9, by rw [← e]; rfl, h5⟩
end Go.Proofs.YtgdgjnecgelalaaGreatDoor

/-! manifest.Bytes (under way): the plain form. -/

namespace Go.Proofs.YtgdgjnecgelalaaGreatDoor
open Go.RowKit Go.Sort Go.Lib

def filP (p : Fl) : List UInt8 := txtP p.nm ++ varP (zig p.a) ++ varP (zig p.b) ++ varP (u64n p.k)
def tirP (p : Tr) : List UInt8 := varP (u64n p.w) ++ varP (u64n p.o) ++ (if p.m then varP (u64n 1) ++ varP (zig p.u) ++ txtP p.f else varP (u64n 0))
/-- A state as bytes. -/
def staP (s : Sta) : List UInt8 := varP (u64n s.x) ++ varP (u64n s.r) ++ varP (u64n s.q) ++ markP s.km ++ varP (u64n (s.fl.length : Int)) ++ s.fl.flatMap filP ++ varP (u64n (s.ti.length : Int)) ++ s.ti.flatMap tirP
theorem flR_parts {p : Fl} (h : flR p = true) : p.nm.size ≤ 64 ∧ (-1152921504606846976 ≤ p.a ∧ p.a ≤ 1152921504606846976) ∧ (-1152921504606846976 ≤ p.b ∧ p.b ≤ 1152921504606846976) ∧ 0 < p.k ∧ p.k ≤ 1152921504606846976 := by
  simp [flR, nmB, tmB, z60, inB] at h
  omega
theorem trR_parts {p : Tr} (h : trR p = true) : 1 ≤ p.w ∧ p.w ≤ 1099511627776 ∧ 0 ≤ p.o ∧ p.o < p.w ∧ (p.m = true → p.f.size ≤ 64 ∧ (-1152921504606846976 ≤ p.u ∧ p.u ≤ 1152921504606846976)) := by
  obtain ⟨d, q, u, m, f⟩ := p
  cases m
  · simp [trR] at h ⊢; omega
  · simp [trR, nmB, tmB] at h ⊢; omega
theorem filP_len {p : Fl} (h : flR p = true) : (filP p).length ≤ 104 := by
  obtain ⟨h1, ⟨h2, h3⟩, ⟨h4, h5⟩, _, _⟩ := flR_parts h
  have e1 := txtP_len (s := p.nm) (by omega)
  have e2 := varP_10 (i64_zig (n := p.a) (by omega) (by omega))
  have e3 := varP_10 (i64_zig (n := p.b) (by omega) (by omega))
  have e4 := varP_10 (u64n_lt p.k)
  unfold filP
  simp only [List.length_append]
  omega
theorem tirP_len {p : Tr} (h : trR p = true) : (tirP p).length ≤ 114 := by
  obtain ⟨_, _, _, _, h5⟩ := trR_parts h
  have e1 := varP_10 (u64n_lt p.w)
  have e2 := varP_10 (u64n_lt p.o)
  have e3 := varP_10 (u64n_lt 1)
  have e4 := varP_10 (u64n_lt 0)
  unfold tirP
  simp only [List.length_append]
  split
  · rename_i hm
    obtain ⟨h6, h7, h8⟩ := h5 hm
    have e5 := txtP_len (s := p.f) (by omega)
    have e6 := varP_10 (i64_zig (n := p.u) (by omega) (by omega))
    simp only [List.length_append]
    omega
  · omega
theorem staR_parts {s : Sta} (h : staR s = true) : s.fl.length ≤ 512 ∧ s.ti.length ≤ 4 ∧ (∀ p ∈ s.fl, flR p = true) ∧ (∀ p ∈ s.ti, trR p = true) := by
  simp only [staR, staB, Bool.and_eq_true, decide_eq_true_eq, List.all_eq_true] at h
  exact ⟨h.1.1.1.2, h.1.1.2, h.1.2, h.2⟩
end Go.Proofs.YtgdgjnecgelalaaGreatDoor
