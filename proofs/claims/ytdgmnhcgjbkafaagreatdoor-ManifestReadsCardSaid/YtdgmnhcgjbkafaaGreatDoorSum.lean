/- Check sums: frame's and the document's. -/
import Derived.Test.YtdgmnhcgjbkafaaGreatDoorCrb
import Derived.Test.YtdgmnhcgjbkafaaGreatDoorByt
namespace Go.Proofs.YtdgmnhcgjbkafaaGreatDoor
open Go.RowKit Go.Sort Go.Lib

theorem u32_xor (a c : Nat) (ha : a < 4294967296) (hc : c < 4294967296) : bits .xor .u32 (a : Int) (c : Int) = ((a ^^^ c : Nat) : Int) := by
  show IntKind.u32.wrap ((BitVec.ofInt 32 (a : Int) ^^^ BitVec.ofInt 32 (c : Int)).toNat : Nat) = _
  rw [BitVec.toNat_xor, BitVec.toNat_ofInt, BitVec.toNat_ofInt]
  have e1 : ((a : Int) % ((2 ^ 32 : Nat) : Int)).toNat = a := by omega
  have e2 : ((c : Int) % ((2 ^ 32 : Nat) : Int)).toNat = c := by omega
  rw [e1, e2, IntKind.wrap_u32]
  have : a ^^^ c < 2 ^ 32 := Nat.xor_lt_two_pow (by omega) (by omega)
  omega
theorem u32_and15 (a : Nat) (ha : a < 4294967296) : bits .and .u32 (a : Int) 15 = ((a % 16 : Nat) : Int) := by
  have h1 : (BitVec.ofInt 32 15).toNat = 2 ^ 4 - 1 := by decide
  show IntKind.u32.wrap ((BitVec.ofInt 32 (a : Int) &&& BitVec.ofInt 32 15).toNat : Nat) = _
  rw [BitVec.toNat_and, h1, Nat.and_two_pow_sub_one_eq_mod, BitVec.toNat_ofInt, IntKind.wrap_u32]
  omega

set_option maxHeartbeats 4000000 in
set_option maxRecDepth 100000 in
theorem ref4sum_any (w : World) (a : Option Addr) (n c : Nat) (l : List UInt8) (hl : Src w 1 (.slice a n c) n (u8s l)) (hn : n < 4611686018427387904) :
    Calls Tryz.prog 45 #[.slice a n c] w fun e w' => e = .returned (.int .u32 (csum l : Nat)) ∧ w = w' := by
  have HL := Lib.hid hl
  have HN := Lib.hid (u8s_src_len hl)
  clear hl
  go_enter Tryz.func45, Tryz.ntmps45
  go_wp2_with fail
  go_loop [3, 4, 5] (fun s3 s4 s5 => ∃ (k s : Nat), k ≤ n ∧ s4 = .int .i64 k ∧ s3 = .int .u32 (s : Int) ∧ s < 4294967296 ∧ Hid (s = creg 4294967295 (l.take k))) (fun _ s4 _ => n - (RowKit.intOf s4).toNat)
  case atStart => exact ⟨0, 4294967295, by omega, rfl, rfl, by omega, Lib.hid rfl⟩
  case round =>
    obtain ⟨k, s, hk, rfl, rfl, hs, HS⟩ := hrel
    by_cases hlt : k < n
    · obtain ⟨b, off, x, rfl, hx, cx⟩ := byte_src HL.out hlt
      have HNX : Hid (creg 4294967295 (l.take (k + 1)) = cstepN 8 (s ^^^ x.toNat)) := Lib.hid (by
        rw [List.take_add_one, hx, creg_append, ← HS.out]; rfl)
      have hx0 : bits .xor .u32 (s : Int) ((x.toNat : Int) % 4294967296) = ((s ^^^ x.toNat : Nat) : Int) := by
        rw [show (x.toNat : Int) % 4294967296 = (x.toNat : Int) by have := u8_lt32 x; omega]
        exact u32_xor _ _ hs (u8_lt32 x)
      have hs1 : s ^^^ x.toNat < 4294967296 := Nat.xor_lt_two_pow (n := 32) hs (u8_lt32 x)
      obtain ⟨t0, ht0⟩ : ∃ t0, t0 = s ^^^ x.toNat := ⟨_, rfl⟩
      rw [← ht0] at HNX hx0 hs1
      clear ht0 hx
      go_wp2_with fail
      go_loop [3, 5] (fun s3 s5 => ∃ (j t : Nat), j ≤ 8 ∧ s5 = .int .i64 j ∧ s3 = .int .u32 (t : Int) ∧ t < 4294967296 ∧ Hid (cstepN (8 - j) t = cstepN 8 t0)) (fun _ s5 => 8 - (RowKit.intOf s5).toNat)
      case atStart => exact ⟨0, t0, by omega, rfl, rfl, hs1, Lib.hid rfl⟩
      case round =>
        obtain ⟨j, t, hj, rfl, rfl, ht, HT⟩ := hrel
        by_cases hj8 : j < 8
        · have HT2 : Hid (cstepN (8 - (j + 1)) (cstep t) = cstepN 8 t0) := Lib.hid (by
            have := HT.out
            rw [show 8 - j = (8 - (j + 1)) + 1 by omega] at this; exact this)
          have hct := cstep_lt ht
          have hcs := cstep_eq t
          obtain ⟨t2, ht2⟩ : ∃ t2, t2 = cstep t := ⟨_, rfl⟩
          rw [← ht2] at HT2 hct hcs
          have ho : t % 2 = 0 ∨ t % 2 = 1 := by omega
          rcases ho with ho | ho
          · have hb : ((t : Int) % 2 == 1) = false := by simp; omega
            rw [if_neg (by omega)] at hcs
            have hdiv : (t : Int) / 2 = (t2 : Int) := by omega
            clear hcs ht2 ho
            go_wp2_with fail
            go_round
            case rel => exact ⟨j + 1, t2, by omega, by go_num, rfl, hct, HT2⟩
            case measure => simp [RowKit.intOf]; omega
          · have hb : ((t : Int) % 2 == 1) = true := by simp; omega
            rw [if_pos ho] at hcs
            have hxr : bits .xor .u32 ((t : Int) / 2) 3988292384 = (t2 : Int) := by
              rw [hcs, show (t : Int) / 2 = ((t / 2 : Nat) : Int) by omega]
              exact u32_xor _ _ (by omega) (by decide)
            clear hcs ht2 ho
            go_wp2_with fail
            go_round
            case rel => exact ⟨j + 1, t2, by omega, by go_num, rfl, hct, HT2⟩
            case measure => simp [RowKit.intOf]; omega
        · have HT2 : Hid (t = cstepN 8 t0) := Lib.hid (by
            have := HT.out
            rw [show 8 - j = 0 by omega] at this; exact this)
          go_wp2_with fail
          go_round
          case rel => exact ⟨k + 1, t, by omega, by go_num, rfl, ht, Lib.hid (by rw [HNX.out, HT2.out])⟩
          case measure => simp [RowKit.intOf]; omega
    · have hxr : bits .xor .u32 (s : Int) 4294967295 = ((csum l : Nat) : Int) := by
        have := HS.out
        rw [List.take_of_length_le (by have := HN.out; omega)] at this
        unfold csum
        rw [← this]
        exact u32_xor _ _ hs (by decide)
      go_wp2_with fail
      go_ret
      exact ⟨rfl, rfl⟩

theorem quarter_tab (W : World) (m : Nat) (hm : m < 16) : (Instr.index 123 (.agg #[.int .u32 0, .int .u32 498536548, .int .u32 997073096, .int .u32 651767980, .int .u32 1994146192, .int .u32 1802195444, .int .u32 1303535960, .int .u32 1342533948, .int .u32 3988292384, .int .u32 4027552580, .int .u32 3604390888, .int .u32 3412177804, .int .u32 2607071920, .int .u32 2262029012, .int .u32 2685067896, .int .u32 3183342108]) (.int .u32 (m : Int))).run Tryz.prog W = .ok (.int .u32 ((ctab.getD m 0 : Nat) : Int)) W := by
  have hm2 : m = 0 ∨ m = 1 ∨ m = 2 ∨ m = 3 ∨ m = 4 ∨ m = 5 ∨ m = 6 ∨ m = 7 ∨ m = 8 ∨ m = 9 ∨ m = 10 ∨ m = 11 ∨ m = 12 ∨ m = 13 ∨ m = 14 ∨ m = 15 := by omega
  clear hm
  rcases hm2 with rfl | rfl | rfl | rfl | rfl | rfl | rfl | rfl | rfl | rfl | rfl | rfl | rfl | rfl | rfl | rfl <;> (show _ = _; kernel_rfl)
set_option maxHeartbeats 4000000 in
set_option maxRecDepth 100000 in
theorem quarter_any (k : Nat) (hk : k < 4294967296) (w : World) :
    Calls Tryz.prog 64 #[.int .u32 (k : Int)] w fun e w' => e = .returned (.int .u32 ((ctab.getD (k % 16) 0 : Nat) : Int)) ∧ w = w' := by
  have hb := u32_and15 k hk
  have hm : k % 16 < 16 := Nat.mod_lt _ (by decide)
  have hx := quarter_tab w _ hm
  generalize k % 16 = m at hb hm hx ⊢
  generalize ctab.getD m 0 = g at hx ⊢
  go_enter Tryz.func64, Tryz.ntmps64
  go_wp2_with fail
  go_ret
  exact ⟨rfl, rfl⟩

set_option maxHeartbeats 4000000 in
set_option maxRecDepth 100000 in
theorem frameSum_any (w : World) (a : Option Addr) (n c : Nat) (l : List UInt8) (hl : Src w 1 (.slice a n c) n (u8s l)) (hn : n < 4611686018427387904) :
    Calls Tryz.prog 40 #[.slice a n c] w fun e w' => e = .returned (.int .u32 (csum l : Nat)) ∧ w = w' := by
  have HL := Lib.hid hl
  have HN := Lib.hid (u8s_src_len hl)
  clear hl
  go_enter Tryz.func40, Tryz.ntmps40
  go_wp2_with fail
  go_loop [3, 5, 8] (fun s3 s5 s8 => ∃ (k s : Nat), k ≤ n ∧ s8 = .int .i64 k ∧ s3 = .int .u32 (s : Int) ∧ s < 4294967296 ∧ Hid (s = creg 4294967295 (l.take k))) (fun _ _ s8 => n - (RowKit.intOf s8).toNat)
  case atStart => exact ⟨0, 4294967295, by omega, rfl, rfl, by omega, Lib.hid rfl⟩
  case round =>
    obtain ⟨k, s, hk, rfl, rfl, hs, HS⟩ := hrel
    by_cases hlt : k < n
    · obtain ⟨b, off, x, rfl, hx, cx⟩ := byte_src HL.out hlt
      have HNX : Hid (creg 4294967295 (l.take (k + 1)) = cstepN 8 (s ^^^ x.toNat)) := Lib.hid (by
        rw [List.take_add_one, hx, creg_append, ← HS.out]; rfl)
      have hx0 : bits .xor .u32 (s : Int) ((x.toNat : Int) % 4294967296) = ((s ^^^ x.toNat : Nat) : Int) := by
        rw [show (x.toNat : Int) % 4294967296 = (x.toNat : Int) by have := u8_lt32 x; omega]
        exact u32_xor _ _ hs (u8_lt32 x)
      have hs1 : s ^^^ x.toNat < 4294967296 := Nat.xor_lt_two_pow (n := 32) hs (u8_lt32 x)
      obtain ⟨t0, ht0⟩ : ∃ t0, t0 = s ^^^ x.toNat := ⟨_, rfl⟩
      rw [← ht0] at HNX hx0 hs1
      have e1 := cstep4 t0
      have e2 := cstep4 (cstepN 4 t0)
      rw [← cstepN_add] at e2
      obtain ⟨t1, ht1⟩ : ∃ t1, t1 = cstepN 4 t0 := ⟨_, rfl⟩
      obtain ⟨t2, ht2⟩ : ∃ t2, t2 = cstepN 8 t0 := ⟨_, rfl⟩
      have l1 : t1 < 4294967296 := by rw [ht1]; exact cstepN_lt 4 hs1
      have l2 : t2 < 4294967296 := by rw [ht2]; exact cstepN_lt 8 hs1
      have tl : ∀ i, ctab.getD i 0 < 4294967296 := by
        intro i
        by_cases hi : i < 16
        · have key : ∀ k, k < 16 → ctab.getD k 0 < 4294967296 := by decide
          exact key i hi
        · rw [List.getD_eq_getElem?_getD, List.getElem?_eq_none (by simp [ctab]; omega)]; decide
      rw [← ht1] at e1 e2
      rw [show cstepN (4 + 4) t0 = t2 from ht2.symm] at e2
      rw [← ht2] at HNX
      have x1 : bits .xor .u32 ((t0 : Int) / 16) ((ctab.getD (t0 % 16) 0 : Nat) : Int) = (t1 : Int) := by
        rw [e1, show (t0 : Int) / 16 = ((t0 / 16 : Nat) : Int) by omega]
        exact u32_xor _ _ (by omega) (tl _)
      have x2 : bits .xor .u32 ((t1 : Int) / 16) ((ctab.getD (t1 % 16) 0 : Nat) : Int) = (t2 : Int) := by
        rw [e2, show (t1 : Int) / 16 = ((t1 / 16 : Nat) : Int) by omega]
        exact u32_xor _ _ (by omega) (tl _)
      have HQ1 := Lib.hid (fun w => quarter_any t0 hs1 w)
      have HQ2 := Lib.hid (fun w => quarter_any t1 l1 w)
      generalize ctab.getD (t0 % 16) 0 = g1 at x1 HQ1
      generalize ctab.getD (t1 % 16) 0 = g2 at x2 HQ2
      clear ht0 hx e1 e2 ht1 ht2 tl
      go_wp2_with fail
      refine (HQ1.out _).mono ?_
      rintro e w' ⟨rfl, rfl⟩
      go_wp2_with fail
      refine (HQ2.out _).mono ?_
      rintro e w' ⟨rfl, rfl⟩
      go_wp2_with fail
      go_round
      case rel => exact ⟨k + 1, t2, by omega, by go_num, rfl, l2, Lib.hid HNX.out.symm⟩
      case measure => simp [RowKit.intOf]; omega
    · have hxr : bits .xor .u32 (s : Int) 4294967295 = ((csum l : Nat) : Int) := by
        have := HS.out
        rw [List.take_of_length_le (by have := HN.out; omega)] at this
        unfold csum
        rw [← this]
        exact u32_xor _ _ hs (by decide)
      go_wp2_with fail
      go_ret
      exact ⟨rfl, rfl⟩
end Go.Proofs.YtdgmnhcgjbkafaaGreatDoor
