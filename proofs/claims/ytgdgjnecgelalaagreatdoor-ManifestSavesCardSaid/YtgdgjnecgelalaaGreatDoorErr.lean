/- Check sums: frame's and the document's. -/
import Derived.Test.YtgdgjnecgelalaaGreatDoorCrb
import Derived.Test.YtgdgjnecgelalaaGreatDoorByt
import Derived.Test.YtgdgjnecgelalaaGreatDoorMap
import Derived.WalkKit
import Derived.LaidEql
import Derived.Stop.Asserts
import Derived.RowKitTokens
import Derived.Test.YtgdgjnecgelalaaGreatDoorProg
namespace Go.Proofs.YtgdgjnecgelalaaGreatDoor
open Go.RowKit Go.Sort Go.Lib

theorem u32_xor (a c : Nat) (ha : a < 4294967296) (hc : c < 4294967296) : bits .xor .u32 (a : Int) (c : Int) = ((a ^^^ c : Nat) : Int) := by
  show IntKind.u32.wrap ((BitVec.ofInt 32 (a : Int) ^^^ BitVec.ofInt 32 (c : Int)).toNat : Nat) = _
  rw [BitVec.toNat_xor, BitVec.toNat_ofInt, BitVec.toNat_ofInt]
  have e1 : ((a : Int) % ((2 ^ 32 : Nat) : Int)).toNat = a := by omega
  have e2 : ((c : Int) % ((2 ^ 32 : Nat) : Int)).toNat = c := by omega
  rw [e1, e2, IntKind.wrap_u32]
  have : a ^^^ c < 2 ^ 32 := Nat.xor_lt_two_pow (by omega) (by omega)
  omega
theorem u32_and15 (a : Nat) (ha : a < 4294967296) : bits .and .u32 (a : Int) 15 = ((a % 16 : Nat) : Int) := by
  have h1 : (BitVec.ofInt 32 15).toNat = 2 ^ 4 - 1 := by decide
  show IntKind.u32.wrap ((BitVec.ofInt 32 (a : Int) &&& BitVec.ofInt 32 15).toNat : Nat) = _
  rw [BitVec.toNat_and, h1, Nat.and_two_pow_sub_one_eq_mod, BitVec.toNat_ofInt, IntKind.wrap_u32]
  omega

set_option maxHeartbeats 4000000 in
set_option maxRecDepth 100000 in
theorem ref4sum_any (w : World) (a : Option Addr) (n c : Nat) (l : List UInt8) (hl : Src w 1 (.slice a n c) n (u8s l)) (hn : n < 4611686018427387904) :
    Calls Tryz.prog 93 #[.slice a n c] w fun e w' => e = .returned (.int .u32 (csum l : Nat)) ∧ w = w' := by
  have HL := Lib.hid hl
  have HN := Lib.hid (u8s_src_len hl)
  clear hl
  go_enter Tryz.func93, Tryz.ntmps93
  go_wp2_with fail
  go_loop [3, 4, 5] (fun s3 s4 s5 => ∃ (k s : Nat), k ≤ n ∧ s4 = .int .i64 k ∧ s3 = .int .u32 (s : Int) ∧ s < 4294967296 ∧ Hid (s = creg 4294967295 (l.take k))) (fun _ s4 _ => n - (RowKit.intOf s4).toNat)
  case atStart => exact ⟨0, 4294967295, by omega, rfl, rfl, by omega, Lib.hid rfl⟩
  case round =>
    obtain ⟨k, s, hk, rfl, rfl, hs, HS⟩ := hrel
    by_cases hlt : k < n
    · obtain ⟨b, off, x, rfl, hx, cx⟩ := byte_src HL.out hlt
      have HNX : Hid (creg 4294967295 (l.take (k + 1)) = cstepN 8 (s ^^^ x.toNat)) := Lib.hid (by
        rw [List.take_add_one, hx, creg_append, ← HS.out]; rfl)
      have hx0 : bits .xor .u32 (s : Int) ((x.toNat : Int) % 4294967296) = ((s ^^^ x.toNat : Nat) : Int) := by
        rw [show (x.toNat : Int) % 4294967296 = (x.toNat : Int) by have := u8_lt32 x; omega]
        exact u32_xor _ _ hs (u8_lt32 x)
      have hs1 : s ^^^ x.toNat < 4294967296 := Nat.xor_lt_two_pow (n := 32) hs (u8_lt32 x)
      obtain ⟨t0, ht0⟩ : ∃ t0, t0 = s ^^^ x.toNat := ⟨_, rfl⟩
      rw [← ht0] at HNX hx0 hs1
      clear ht0 hx
      go_wp2_with fail
      go_loop [3, 5] (fun s3 s5 => ∃ (j t : Nat), j ≤ 8 ∧ s5 = .int .i64 j ∧ s3 = .int .u32 (t : Int) ∧ t < 4294967296 ∧ Hid (cstepN (8 - j) t = cstepN 8 t0)) (fun _ s5 => 8 - (RowKit.intOf s5).toNat)
      case atStart => exact ⟨0, t0, by omega, rfl, rfl, hs1, Lib.hid rfl⟩
      case round =>
        obtain ⟨j, t, hj, rfl, rfl, ht, HT⟩ := hrel
        by_cases hj8 : j < 8
        · have HT2 : Hid (cstepN (8 - (j + 1)) (cstep t) = cstepN 8 t0) := Lib.hid (by
            have := HT.out
            rw [show 8 - j = (8 - (j + 1)) + 1 by omega] at this; exact this)
          have hct := cstep_lt ht
          have hcs := cstep_eq t
          obtain ⟨t2, ht2⟩ : ∃ t2, t2 = cstep t := ⟨_, rfl⟩
          rw [← ht2] at HT2 hct hcs
          have ho : t % 2 = 0 ∨ t % 2 = 1 := by omega
          rcases ho with ho | ho
          · have hb : ((t : Int) % 2 == 1) = false := by simp; omega
            rw [if_neg (by omega)] at hcs
            have hdiv : (t : Int) / 2 = (t2 : Int) := by omega
            clear hcs ht2 ho
            go_wp2_with fail
            go_round
            case rel => exact ⟨j + 1, t2, by omega, by go_num, rfl, hct, HT2⟩
            case measure => simp [RowKit.intOf]; omega
          · have hb : ((t : Int) % 2 == 1) = true := by simp; omega
            rw [if_pos ho] at hcs
            have hxr : bits .xor .u32 ((t : Int) / 2) 3988292384 = (t2 : Int) := by
              rw [hcs, show (t : Int) / 2 = ((t / 2 : Nat) : Int) by omega]
              exact u32_xor _ _ (by omega) (by decide)
            clear hcs ht2 ho
            go_wp2_with fail
            go_round
            case rel => exact ⟨j + 1, t2, by omega, by go_num, rfl, hct, HT2⟩
            case measure => simp [RowKit.intOf]; omega
        · have HT2 : Hid (t = cstepN 8 t0) := Lib.hid (by
            have := HT.out
            rw [show 8 - j = 0 by omega] at this; exact this)
          go_wp2_with fail
          go_round
          case rel => exact ⟨k + 1, t, by omega, by go_num, rfl, ht, Lib.hid (by rw [HNX.out, HT2.out])⟩
          case measure => simp [RowKit.intOf]; omega
    · have hxr : bits .xor .u32 (s : Int) 4294967295 = ((csum l : Nat) : Int) := by
        have := HS.out
        rw [List.take_of_length_le (by have := HN.out; omega)] at this
        unfold csum
        rw [← this]
        exact u32_xor _ _ hs (by decide)
      go_wp2_with fail
      go_ret
      exact ⟨rfl, rfl⟩

theorem quarter_tab (W : World) (m : Nat) (hm : m < 16) : (Instr.index 185 (.agg #[.int .u32 0, .int .u32 498536548, .int .u32 997073096, .int .u32 651767980, .int .u32 1994146192, .int .u32 1802195444, .int .u32 1303535960, .int .u32 1342533948, .int .u32 3988292384, .int .u32 4027552580, .int .u32 3604390888, .int .u32 3412177804, .int .u32 2607071920, .int .u32 2262029012, .int .u32 2685067896, .int .u32 3183342108]) (.int .u32 (m : Int))).run Tryz.prog W = .ok (.int .u32 ((ctab.getD m 0 : Nat) : Int)) W := by
  have hm2 : m = 0 ∨ m = 1 ∨ m = 2 ∨ m = 3 ∨ m = 4 ∨ m = 5 ∨ m = 6 ∨ m = 7 ∨ m = 8 ∨ m = 9 ∨ m = 10 ∨ m = 11 ∨ m = 12 ∨ m = 13 ∨ m = 14 ∨ m = 15 := by omega
  clear hm
  rcases hm2 with rfl | rfl | rfl | rfl | rfl | rfl | rfl | rfl | rfl | rfl | rfl | rfl | rfl | rfl | rfl | rfl <;> (show _ = _; kernel_rfl)
set_option maxHeartbeats 4000000 in
set_option maxRecDepth 100000 in
theorem quarter_any (k : Nat) (hk : k < 4294967296) (w : World) :
    Calls Tryz.prog 112 #[.int .u32 (k : Int)] w fun e w' => e = .returned (.int .u32 ((ctab.getD (k % 16) 0 : Nat) : Int)) ∧ w = w' := by
  have hb := u32_and15 k hk
  have hm : k % 16 < 16 := Nat.mod_lt _ (by decide)
  have hx := quarter_tab w _ hm
  generalize k % 16 = m at hb hm hx ⊢
  generalize ctab.getD m 0 = g at hx ⊢
  go_enter Tryz.func112, Tryz.ntmps112
  go_wp2_with fail
  go_ret
  exact ⟨rfl, rfl⟩

set_option maxHeartbeats 4000000 in
set_option maxRecDepth 100000 in
theorem frameSum_any (w : World) (a : Option Addr) (n c : Nat) (l : List UInt8) (hl : Src w 1 (.slice a n c) n (u8s l)) (hn : n < 4611686018427387904) :
    Calls Tryz.prog 83 #[.slice a n c] w fun e w' => e = .returned (.int .u32 (csum l : Nat)) ∧ w = w' := by
  have HL := Lib.hid hl
  have HN := Lib.hid (u8s_src_len hl)
  clear hl
  go_enter Tryz.func83, Tryz.ntmps83
  go_wp2_with fail
  go_loop [3, 5, 8] (fun s3 s5 s8 => ∃ (k s : Nat), k ≤ n ∧ s8 = .int .i64 k ∧ s3 = .int .u32 (s : Int) ∧ s < 4294967296 ∧ Hid (s = creg 4294967295 (l.take k))) (fun _ _ s8 => n - (RowKit.intOf s8).toNat)
  case atStart => exact ⟨0, 4294967295, by omega, rfl, rfl, by omega, Lib.hid rfl⟩
  case round =>
    obtain ⟨k, s, hk, rfl, rfl, hs, HS⟩ := hrel
    by_cases hlt : k < n
    · obtain ⟨b, off, x, rfl, hx, cx⟩ := byte_src HL.out hlt
      have HNX : Hid (creg 4294967295 (l.take (k + 1)) = cstepN 8 (s ^^^ x.toNat)) := Lib.hid (by
        rw [List.take_add_one, hx, creg_append, ← HS.out]; rfl)
      have hx0 : bits .xor .u32 (s : Int) ((x.toNat : Int) % 4294967296) = ((s ^^^ x.toNat : Nat) : Int) := by
        rw [show (x.toNat : Int) % 4294967296 = (x.toNat : Int) by have := u8_lt32 x; omega]
        exact u32_xor _ _ hs (u8_lt32 x)
      have hs1 : s ^^^ x.toNat < 4294967296 := Nat.xor_lt_two_pow (n := 32) hs (u8_lt32 x)
      obtain ⟨t0, ht0⟩ : ∃ t0, t0 = s ^^^ x.toNat := ⟨_, rfl⟩
      rw [← ht0] at HNX hx0 hs1
      have e1 := cstep4 t0
      have e2 := cstep4 (cstepN 4 t0)
      rw [← cstepN_add] at e2
      obtain ⟨t1, ht1⟩ : ∃ t1, t1 = cstepN 4 t0 := ⟨_, rfl⟩
      obtain ⟨t2, ht2⟩ : ∃ t2, t2 = cstepN 8 t0 := ⟨_, rfl⟩
      have l1 : t1 < 4294967296 := by rw [ht1]; exact cstepN_lt 4 hs1
      have l2 : t2 < 4294967296 := by rw [ht2]; exact cstepN_lt 8 hs1
      have tl : ∀ i, ctab.getD i 0 < 4294967296 := by
        intro i
        by_cases hi : i < 16
        · have key : ∀ k, k < 16 → ctab.getD k 0 < 4294967296 := by decide
          exact key i hi
        · rw [List.getD_eq_getElem?_getD, List.getElem?_eq_none (by simp [ctab]; omega)]; decide
      rw [← ht1] at e1 e2
      rw [show cstepN (4 + 4) t0 = t2 from ht2.symm] at e2
      rw [← ht2] at HNX
      have x1 : bits .xor .u32 ((t0 : Int) / 16) ((ctab.getD (t0 % 16) 0 : Nat) : Int) = (t1 : Int) := by
        rw [e1, show (t0 : Int) / 16 = ((t0 / 16 : Nat) : Int) by omega]
        exact u32_xor _ _ (by omega) (tl _)
      have x2 : bits .xor .u32 ((t1 : Int) / 16) ((ctab.getD (t1 % 16) 0 : Nat) : Int) = (t2 : Int) := by
        rw [e2, show (t1 : Int) / 16 = ((t1 / 16 : Nat) : Int) by omega]
        exact u32_xor _ _ (by omega) (tl _)
      have HQ1 := Lib.hid (fun w => quarter_any t0 hs1 w)
      have HQ2 := Lib.hid (fun w => quarter_any t1 l1 w)
      generalize ctab.getD (t0 % 16) 0 = g1 at x1 HQ1
      generalize ctab.getD (t1 % 16) 0 = g2 at x2 HQ2
      clear ht0 hx e1 e2 ht1 ht2 tl
      go_wp2_with fail
      refine (HQ1.out _).mono ?_
      rintro e w' ⟨rfl, rfl⟩
      go_wp2_with fail
      refine (HQ2.out _).mono ?_
      rintro e w' ⟨rfl, rfl⟩
      go_wp2_with fail
      go_round
      case rel => exact ⟨k + 1, t2, by omega, by go_num, rfl, l2, Lib.hid HNX.out.symm⟩
      case measure => simp [RowKit.intOf]; omega
    · have hxr : bits .xor .u32 (s : Int) 4294967295 = ((csum l : Nat) : Int) := by
        have := HS.out
        rw [List.take_of_length_le (by have := HN.out; omega)] at this
        unfold csum
        rw [← this]
        exact u32_xor _ _ hs (by decide)
      go_wp2_with fail
      go_ret
      exact ⟨rfl, rfl⟩
end Go.Proofs.YtgdgjnecgelalaaGreatDoor

/-! Numbers that may be below 0: Zig and Zag (word's and the document's). -/

namespace Go.Proofs.YtgdgjnecgelalaaGreatDoor
open Go.RowKit Go.Sort Go.Lib

def zig (n : Int) : Nat := if 0 ≤ n then (2 * n).toNat else (-2 * n - 1).toNat
def zag (u : Nat) : Int := if u % 2 = 0 then (u / 2 : Nat) else -((u / 2 : Nat) : Int) - 1
theorem zag_zig (n : Int) : zag (zig n) = n := by
  unfold zag zig
  split
  · split <;> omega
  · split <;> omega
theorem zig_lt {n : Int} (h0 : -9223372036854775808 ≤ n) (h1 : n ≤ 9223372036854775807) : zig n < 18446744073709551616 := by
  unfold zig; split <;> omega
theorem zag_range {u : Nat} (h : u < 18446744073709551616) : -9223372036854775808 ≤ zag u ∧ zag u ≤ 9223372036854775807 := by
  unfold zag; split <;> omega

theorem xor_ones (x : Nat) (h : x < 18446744073709551616) : x ^^^ 18446744073709551615 = 18446744073709551615 - x := by
  have e := congrArg BitVec.toNat (BitVec.xor_allOnes (x := BitVec.ofNat 64 x))
  rw [BitVec.toNat_xor, BitVec.toNat_not, BitVec.toNat_allOnes, BitVec.toNat_ofNat, Nat.mod_eq_of_lt (by omega)] at e
  exact e
theorem zig_bits (n : Int) (h0 : -9223372036854775808 ≤ n) (h1 : n ≤ 9223372036854775807) : bits .xor .u64 (IntKind.u64.wrap (IntKind.u64.wrap n * 2)) (IntKind.u64.wrap (n / 9223372036854775808)) = ((zig n : Nat) : Int) := by
  by_cases hn : 0 ≤ n
  · have e1 : IntKind.u64.wrap (IntKind.u64.wrap n * 2) = ((2 * n.toNat : Nat) : Int) := by rw [IntKind.wrap_u64, IntKind.wrap_u64]; omega
    have e2 : IntKind.u64.wrap (n / 9223372036854775808) = ((0 : Nat) : Int) := by rw [IntKind.wrap_u64]; omega
    rw [e1, e2, bits_xor_u64_nat _ _ (by omega) (by omega), Nat.xor_zero]
    unfold zig; rw [if_pos hn]; omega
  · have e1 : IntKind.u64.wrap (IntKind.u64.wrap n * 2) = (((2 * n + 18446744073709551616).toNat : Nat) : Int) := by rw [IntKind.wrap_u64, IntKind.wrap_u64]; omega
    have e2 : IntKind.u64.wrap (n / 9223372036854775808) = ((18446744073709551615 : Nat) : Int) := by rw [IntKind.wrap_u64]; omega
    rw [e1, e2, bits_xor_u64_nat _ _ (by omega) (by omega), xor_ones _ (by omega)]
    unfold zig; rw [if_neg hn]; omega
theorem and1_bits (u : Nat) (h : u < 18446744073709551616) : bits .and .u64 (u : Int) 1 = ((u % 2 : Nat) : Int) := by
  have := bits_and_u64_nat u 1 h (by decide)
  rw [show ((1 : Nat) : Int) = 1 from rfl] at this
  rw [this, Nat.and_one_is_mod]
theorem zag_bits (u : Nat) (h : u < 18446744073709551616) : bits .xor .i64 ((u : Int) / 2) (wrap64 (-wrap64 (bits .and .u64 (u : Int) 1))) = zag u := by
  rw [and1_bits u h]
  have ho : u % 2 = 0 ∨ u % 2 = 1 := by omega
  unfold zag
  rcases ho with ho | ho
  · rw [ho, if_pos rfl]
    show IntKind.i64.wrap ((BitVec.ofInt 64 ((u : Int) / 2) ^^^ BitVec.ofInt 64 (wrap64 (-wrap64 ((0 : Nat) : Int)))).toNat : Nat) = _
    rw [show wrap64 (-wrap64 ((0 : Nat) : Int)) = 0 by decide +kernel, show BitVec.ofInt 64 0 = 0#64 by decide, BitVec.xor_zero, BitVec.toNat_ofInt, IntKind.wrap_i64]
    omega
  · rw [ho, if_neg (by omega)]
    show IntKind.i64.wrap ((BitVec.ofInt 64 ((u : Int) / 2) ^^^ BitVec.ofInt 64 (wrap64 (-wrap64 ((1 : Nat) : Int)))).toNat : Nat) = _
    rw [show wrap64 (-wrap64 ((1 : Nat) : Int)) = -1 by decide +kernel, show BitVec.ofInt 64 (-1) = BitVec.allOnes 64 by decide, BitVec.xor_allOnes, BitVec.toNat_not, BitVec.toNat_ofInt, IntKind.wrap_i64]
    omega

set_option maxHeartbeats 4000000 in
set_option maxRecDepth 100000 in
theorem ref1zig_any (n : Int) (w : World) (h0 : -9223372036854775808 ≤ n) (h1 : n ≤ 9223372036854775807) :
    Calls Tryz.prog 126 #[.int .i64 n] w fun e w' => e = .returned (.int .u64 ((zig n : Nat) : Int)) ∧ w = w' := by
  by_cases hn : 0 ≤ n
  · go_enter Tryz.func126, Tryz.ntmps126
    go_wp2_with fail
    go_ret
    exact ⟨congrArg (fun z => Ending.returned (.int .u64 z)) (show n * 2 = _ by unfold zig; rw [if_pos hn]; omega), rfl⟩
  · go_enter Tryz.func126, Tryz.ntmps126
    go_wp2_with fail
    go_ret
    exact ⟨congrArg (fun z => Ending.returned (.int .u64 z)) (show -(n + 1) * 2 + 1 = _ by unfold zig; rw [if_neg (by omega)]; omega), rfl⟩
set_option maxHeartbeats 4000000 in
set_option maxRecDepth 100000 in
theorem zig_any (n : Int) (w : World) (h0 : -9223372036854775808 ≤ n) (h1 : n ≤ 9223372036854775807) :
    Calls Tryz.prog 81 #[.int .i64 n] w fun e w' => e = .returned (.int .u64 ((zig n : Nat) : Int)) ∧ w = w' := by
  go_enter Tryz.func81, Tryz.ntmps81
  go_wp2_with fail
  go_ret
  exact ⟨congrArg (fun z => Ending.returned (.int .u64 z)) (zig_bits n h0 h1), rfl⟩
set_option maxHeartbeats 4000000 in
set_option maxRecDepth 100000 in
theorem ref1zag_any (u : Nat) (w : World) (h : u < 18446744073709551616) :
    Calls Tryz.prog 132 #[.int .u64 (u : Int)] w fun e w' => e = .returned (.int .i64 (zag u)) ∧ w = w' := by
  by_cases hu : u % 2 = 0
  · have hb : ((u : Int) % 2 == 0) = true := by simp; omega
    go_enter Tryz.func132, Tryz.ntmps132
    go_wp2_with fail
    go_ret
    exact ⟨congrArg (fun z => Ending.returned (.int .i64 z)) (show (u : Int) / 2 = _ by unfold zag; rw [if_pos hu]; omega), rfl⟩
  · have hb : ((u : Int) % 2 == 0) = false := by simp; omega
    go_enter Tryz.func132, Tryz.ntmps132
    go_wp2_with fail
    go_ret
    exact ⟨congrArg (fun z => Ending.returned (.int .i64 z)) (show -((u : Int) / 2) - 1 = _ by unfold zag; rw [if_neg hu]; omega), rfl⟩
set_option maxHeartbeats 4000000 in
set_option maxRecDepth 100000 in
theorem zag_any (u : Nat) (w : World) (h : u < 18446744073709551616) :
    Calls Tryz.prog 133 #[.int .u64 (u : Int)] w fun e w' => e = .returned (.int .i64 (zag u)) ∧ w = w' := by
  go_enter Tryz.func133, Tryz.ntmps133
  go_wp2_with fail
  go_ret
  exact ⟨congrArg (fun z => Ending.returned (.int .i64 z)) (zag_bits u h), rfl⟩
end Go.Proofs.YtgdgjnecgelalaaGreatDoor

/-! errors.Is and errors.As on varint's own error: Go's own text walked, on the model's entries for reflectlite. -/

namespace Go.Proofs.YtgdgjnecgelalaaGreatDoor
open Go.RowKit Go.Extern.Stop Go.Stop Go.Extern Go.Lib

/-- The block of the types' handles, as reflectlite has them. -/
noncomputable def hB : Nat := match typeHandle Tryz.prog 0 with | .pointer (some a) => a.block | _ => 0

/-- The entry of (rtype).Comparable. -/
noncomputable def erComp : Array Value → Sem Value := ReflectliteType.method fun t => do Rtype.noPackHeld "Comparable" t; pure (.bool (← typeInfo t).comparable)

/-! What reflectlite's entries say at this program's types. -/
theorem er_typeOfN (v : Value) (w : World) : (ReflectliteType.typeOf #[.iface 24 v]).run Tryz.prog w = .ok (.iface 215 (.agg #[.pointer (some ⟨hB, 24, none⟩)])) w := by kernel_rfl
theorem er_typeOfF (v : Value) (w : World) : (ReflectliteType.typeOf #[.iface 193 v]).run Tryz.prog w = .ok (.iface 215 (.agg #[.pointer (some ⟨hB, 193, none⟩)])) w := by kernel_rfl
theorem er_comparable (w : World) : (erComp #[.agg #[.pointer (some ⟨hB, 24, none⟩)]]).run Tryz.prog w = .ok (.bool true) w := by kernel_rfl
theorem er_mComparable (n : Nat) (v : Value) (w : World) : (Go.method (n + 1) 215 v "Comparable").run Tryz.prog w = .ok (178, v) w := by kernel_rfl
theorem er_noIsF (v : Value) (xT : TypeId) (w : World) : (Instr.typeAssert (.iface 193 v) xT 217 true).run Tryz.prog w = .ok (.tuple #[.nilIface, .bool false]) w := run_typeAssert_lacksB Tryz.underlying217 (by kernel_rfl) (by kernel_rfl) v xT w
theorem er_hasUnwrapF (v : Value) (xT : TypeId) (w : World) : (Instr.typeAssert (.iface 193 v) xT 220 true).run Tryz.prog w = .ok (.tuple #[.iface 193 v, .bool true]) w := run_typeAssert_hasB Tryz.underlying220 (by kernel_rfl) v xT w
theorem er_noIsN (v : Value) (xT : TypeId) (w : World) : (Instr.typeAssert (.iface 24 v) xT 217 true).run Tryz.prog w = .ok (.tuple #[.nilIface, .bool false]) w := run_typeAssert_lacksB Tryz.underlying217 (by kernel_rfl) (by kernel_rfl) v xT w
theorem er_noUnwrapN (v : Value) (xT : TypeId) (w : World) : (Instr.typeAssert (.iface 24 v) xT 220 true).run Tryz.prog w = .ok (.tuple #[.nilIface, .bool false]) w := run_typeAssert_lacksB Tryz.underlying220 (by kernel_rfl) (by kernel_rfl) v xT w
theorem er_noUnwrapsN (v : Value) (xT : TypeId) (w : World) : (Instr.typeAssert (.iface 24 v) xT 222 true).run Tryz.prog w = .ok (.tuple #[.nilIface, .bool false]) w := run_typeAssert_lacksB Tryz.underlying222 (by kernel_rfl) (by kernel_rfl) v xT w
theorem er_mUnwrap (n : Nat) (v : Value) (w : World) : (Go.method (n + 1) 193 v "Unwrap").run Tryz.prog w = .ok (172, v) w := by kernel_rfl
theorem er_same (w : World) : (binOp .eql 179 (.iface 24 (.int .i64 10)) (.iface 24 (.int .i64 10))).run Tryz.prog w = .ok (.bool true) w := by kernel_rfl
theorem er_other (w : World) : (binOp .eql 179 (.iface 24 (.int .i64 11)) (.iface 24 (.int .i64 10))).run Tryz.prog w = .ok (.bool false) w := by kernel_rfl

/-- (fault).Unwrap. -/
theorem unwrap_any (at' why : Int) (w : World) : Calls Tryz.prog 172 #[.agg #[.int .i64 at', .int .i64 why]] w fun e w' => e = .returned (.iface 24 (.int .i64 why)) ∧ Ext w w' := by
  go_enter Tryz.func172, Tryz.ntmps172
  go_wp2
  go_ret
  exact ⟨rfl, (Ext.refl w).alloc _⟩

theorem is_nil (n : Int) (w : World) : Calls Tryz.prog 142 #[.nilIface, .iface 24 (.int .i64 n)] w fun e w' => e = .returned (.bool false) ∧ w' = w := by
  have hn := run_eql_iface_nil_left (P := Tryz.prog) w 24 (.int .i64 n) Tryz.underlying179
  go_enter Tryz.func142, Tryz.ntmps142
  go_wp2
  go_ret
  exact ⟨rfl, rfl⟩

set_option maxHeartbeats 4000000 in
/-- errors.Is of a fault that wraps ErrEnd (10) or ErrForm (11), against ErrEnd. -/
theorem is_fault (at' why : Int) (hw : why = 10 ∨ why = 11) (w : World) : Calls Tryz.prog 142 #[.iface 193 (.agg #[.int .i64 at', .int .i64 why]), .iface 24 (.int .i64 10)] w fun e w' => e = .returned (.bool (decide (why = 10))) ∧ Ext w w' := by
  have h8 := @run_callFunc_extern Tryz.prog 145 _ ReflectliteType.typeOf Tryz.func145 (by kernel_rfl) (by kernel_rfl) (by kernel_rfl) (by kernel_rfl)
  have h32 := @run_callFunc_extern Tryz.prog 178 _ erComp Tryz.func178 (by kernel_rfl) (by kernel_rfl) (by kernel_rfl) (by kernel_rfl)
  have tT := er_typeOfN
  have cT := er_comparable
  have mR := er_mComparable
  have nF := er_noIsF
  have uF := er_hasUnwrapF
  have mU := er_mUnwrap
  have nN := er_noIsN
  have uN := er_noUnwrapN
  have vN := er_noUnwrapsN
  have es := er_same
  have eo := er_other
  have hty := fun w => run_eql_iface_types (P := Tryz.prog) 193 24 (.agg #[.int .i64 at', .int .i64 why]) (.int .i64 10) Tryz.underlying179 (by decide) w
  rcases hw with rfl | rfl
  all_goals
    go_enter Tryz.func142, Tryz.ntmps142
    go_wp2
    refine wp_loop_rounds 2 ?_
    rw [rounds_succ]
    go_wp2_with (go_at_call 172; refine (unwrap_any _ _ _).mono ?_; rintro e w1 ⟨rfl, hx⟩)
    rw [rounds_succ]
    go_wp2
    go_ret
    exact ⟨rfl, hx⟩
end Go.Proofs.YtgdgjnecgelalaaGreatDoor
