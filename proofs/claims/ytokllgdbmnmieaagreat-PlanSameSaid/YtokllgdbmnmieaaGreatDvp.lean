/- math/bits.Div64 by 10^19: the walk. -/
import Derived.Test.YtokllgdbmnmieaaGreatGpp
import Derived.Test.YtokllgdbmnmieaaGreatU8
import Derived.Test.YtokllgdbmnmieaaGreatShelf
import Derived.Deep.DeepCutAuto
import Derived.Deep.CutBlock
import Derived.BigQuiet
import Derived.Lib.QuietBelow
import Derived.Deep.QuietTactic
namespace Go.Proofs.YtokllgdbmnmieaaGreat
open Go.RowKit Go.Lib Go.Sort

/-! Knuth's division, two digits of 32 bits by 10^19. -/
theorem kn_start {hi u1 : Int} (h0 : 0 ≤ hi) (h1 : hi < 10000000000000000000) (u0 : 0 ≤ u1) (u2 : u1 < 4294967296) : (hi * 4294967296 + u1) / 10000000000000000000 ≤ hi / 2328306436 ∧ 0 ≤ hi / 2328306436 ∧ hi / 2328306436 ≤ 4294967296 ∧ hi = hi / 2328306436 * 2328306436 + hi % 2328306436 ∧ 0 ≤ hi % 2328306436 ∧ hi % 2328306436 < 4294967296 := by omega
theorem kn_step {hi u1 q r : Int} (h0 : 0 ≤ hi) (h1 : hi < 10000000000000000000) (u0 : 0 ≤ u1) (u2 : u1 < 4294967296) (he : hi = q * 2328306436 + r) (hq : (hi * 4294967296 + u1) / 10000000000000000000 ≤ q) (r0 : 0 ≤ r)
    (hc : 4294967296 ≤ q ∨ 4294967296 * r + u1 < q * 2313682944) : 1 ≤ q ∧ hi = (q - 1) * 2328306436 + (r + 2328306436) ∧ (hi * 4294967296 + u1) / 10000000000000000000 ≤ q - 1 := by
  rcases hc with h | h <;> omega
theorem kn_done {hi u1 q r : Int} (h0 : 0 ≤ hi) (h1 : hi < 10000000000000000000) (u0 : 0 ≤ u1) (u2 : u1 < 4294967296) (he : hi = q * 2328306436 + r) (hq : (hi * 4294967296 + u1) / 10000000000000000000 ≤ q) (r0 : 0 ≤ r)
    (hc : q < 4294967296 ∧ q * 2313682944 ≤ 4294967296 * r + u1) : q = (hi * 4294967296 + u1) / 10000000000000000000 := by omega
theorem kn_break {hi u1 q r : Int} (h0 : 0 ≤ hi) (h1 : hi < 10000000000000000000) (u0 : 0 ≤ u1) (u2 : u1 < 4294967296) (he : hi = q * 2328306436 + r) (hq : (hi * 4294967296 + u1) / 10000000000000000000 ≤ q) (q2 : q ≤ 4294967295) (r0 : 4294967296 ≤ r) : q = (hi * 4294967296 + u1) / 10000000000000000000 := by omega

theorem u64_and32 (n : Int) (h1 : 0 ≤ n) (h2 : n < 18446744073709551616) : bits .and .u64 n 4294967295 = n % 4294967296 := by
  have h : (BitVec.ofInt 64 4294967295).toNat = 2 ^ 32 - 1 := by decide
  have key : (BitVec.ofInt 64 n &&& BitVec.ofInt 64 4294967295).toNat = (n % ((2 ^ 64 : Nat) : Int)).toNat % 2 ^ 32 := by
    rw [BitVec.toNat_and, BitVec.toNat_ofInt, h, Nat.and_two_pow_sub_one_eq_mod]
  show IntKind.u64.wrap ((BitVec.ofInt 64 n &&& BitVec.ofInt 64 4294967295).toNat : Nat) = n % 4294967296
  rw [key, IntKind.wrap_u64]
  omega
theorem u64_or0 (n : Int) (h1 : 0 ≤ n) (h2 : n < 18446744073709551616) : bits .or .u64 n 0 = n := by
  have key : (BitVec.ofInt 64 n ||| BitVec.ofInt 64 0).toNat = (n % ((2 ^ 64 : Nat) : Int)).toNat := by
    rw [show BitVec.ofInt 64 0 = 0#64 from rfl, BitVec.or_zero, BitVec.toNat_ofInt]
  show IntKind.u64.wrap ((BitVec.ofInt 64 n ||| BitVec.ofInt 64 0).toNat : Nat) = n
  rw [key, IntKind.wrap_u64]
  omega

set_option maxHeartbeats 4000000 in
set_option maxRecDepth 100000 in
theorem div64_any (y hi lo : Int) (w : World) (hy : y = 10000000000000000000) (h0 : 0 ≤ hi) (h1 : hi < y) (l0 : 0 ≤ lo) (l1 : lo < 18446744073709551616) :
    Calls Tryz.prog 113 #[.int .u64 hi, .int .u64 lo, .int .u64 y] w fun e w' => e = .returned (.tuple #[.int .u64 ((hi * 18446744073709551616 + lo) / y), .int .u64 ((hi * 18446744073709551616 + lo) % y)]) ∧ Ext w w' := by
  have HY := Lib.hid hy
  have HLZ : Hid (∀ W, Calls Tryz.prog 132 #[.int .u64 y] W fun e w' => e = .returned (.int .i64 0) ∧ w' = W) := Lib.hid (fun W => by
    have h := Tryz.bits_LeadingZeros64 y W (by omega) (by omega)
    have e : (64 - (Lib.bitLen y.toNat : Int)) = 0 := by rw [hy]; decide
    rw [e] at h
    exact h)
  have z0 : (y == 0) = false := by simp; omega
  have z1 : decide (y ≤ hi) = false := by simp; omega
  have hyp : 0 < y := by omega
  have hyl : y ≤ 18446744073709551615 := by omega
  have hhl : hi ≤ 18446744073709551615 := by omega
  obtain ⟨y1, hy1, HY1⟩ : ∃ y1, y / 4294967296 = y1 ∧ Hid (y1 = 2328306436) := ⟨_, rfl, Lib.hid (by omega)⟩
  obtain ⟨y0, hy0, HY0⟩ : ∃ y0, bits .and .u64 y 4294967295 = y0 ∧ Hid (y0 = 2313682944) := ⟨_, rfl, Lib.hid (by rw [u64_and32 y (by omega) (by omega)]; omega)⟩
  obtain ⟨u1, hu1, HU1⟩ : ∃ u1, lo / 4294967296 = u1 ∧ Hid (lo / 4294967296 = u1 ∧ 0 ≤ u1 ∧ u1 < 4294967296) := ⟨_, rfl, Lib.hid ⟨rfl, by omega, by omega⟩⟩
  obtain ⟨u0, hu0, HU0⟩ : ∃ u0, bits .and .u64 lo 4294967295 = u0 ∧ Hid (lo % 4294967296 = u0 ∧ 0 ≤ u0 ∧ u0 < 4294967296) := ⟨_, rfl, Lib.hid (by rw [u64_and32 lo l0 l1]; exact ⟨rfl, by omega, by omega⟩)⟩
  have hl64 : lo / 18446744073709551616 = 0 := by omega
  have hor : bits .or .u64 hi 0 = hi := u64_or0 hi h0 (by omega)
  have y1p : 0 < y1 := by have := HY1.out; omega
  have y1l : y1 < 4294967296 := by have := HY1.out; omega
  have zy1 : (y1 == 0) = false := by simp; omega
  have y00 : 0 ≤ y0 := by have := HY0.out; omega
  have y0l : y0 < 4294967296 := by have := HY0.out; omega
  have u10 : 0 ≤ u1 := HU1.out.2.1
  have u1l : u1 < 4294967296 := HU1.out.2.2
  have u00 : 0 ≤ u0 := HU0.out.2.1
  have u0l : u0 < 4294967296 := HU0.out.2.2
  have HH := Lib.hid (show hi < 10000000000000000000 by omega)
  clear hy
  obtain ⟨Q, hQ⟩ : ∃ Q, Q = (hi * 18446744073709551616 + lo) / y := ⟨_, rfl⟩
  obtain ⟨R, hR⟩ : ∃ R, R = (hi * 18446744073709551616 + lo) % y := ⟨_, rfl⟩
  rw [← hQ, ← hR]
  have HQ0 := Lib.hid hQ
  have HR0 := Lib.hid hR
  clear hQ hR
  go_enter Tryz.func113, Tryz.ntmps113
  by_cases hz : hi = 0
  · subst hz
    go_wp2_with fail
    refine wp_region_quiet_below (by kernel_rfl) (by kernel_rfl) ?_
    repeat (go_big_quiet_step (fail))
    refine wpQuiet_nil ?_
    intro _ hw'
    obtain ⟨pr, rfl⟩ := hw'
    go_wp2_with fail
    go_ret2
    refine ⟨by rw [HQ0.out, HR0.out]; simp, Ext.regrown _ _ _⟩
  · have hzz : (hi == 0) = false := by simp [hz]
    go_upto_region 16 with (go_at_call 132; refine (HLZ.out _).mono ?_; rintro e w1 ⟨rfl, rfl⟩)
    clear hy1 hy0 hu1 hu0 hl64 hor HLZ z0 z1 hzz
    obtain ⟨Q1, HQ1⟩ : ∃ Q1, Hid (Q1 = (hi * 4294967296 + u1) / 10000000000000000000) := ⟨_, Lib.hid rfl⟩
    obtain ⟨q, hq⟩ : ∃ q, q = hi / y1 := ⟨_, rfl⟩
    obtain ⟨m, hm⟩ : ∃ m, m = q * y1 := ⟨_, rfl⟩
    have hst := kn_start h0 HH.out u10 u1l
    have HQ : Hid (hi = q * 2328306436 + (hi - m) ∧ (hi * 4294967296 + u1) / 10000000000000000000 ≤ q) := Lib.hid (by
      rw [hm, hq, HY1.out]
      refine ⟨by omega, hst.1⟩)
    have q0 : 0 ≤ q := by rw [hq, HY1.out]; omega
    have q1 : q ≤ 4294967296 := by rw [hq, HY1.out]; omega
    have m0 : 0 ≤ m := by rw [hm, hq, HY1.out]; omega
    have m1 : m ≤ hi := by rw [hm, hq, HY1.out]; omega
    have m2 : hi - m < 4294967296 := by rw [hm, hq, HY1.out]; omega
    have hwm : IntKind.u64.wrap (q * y1) = m := by rw [← hm, IntKind.wrap_u64]; omega
    rw [← hq]
    clear hst hm hq
    go_upto_block 0 with fail
    clear hwm
    go_cut [15, 16] (fun sq s16 wx => ∃ r : Int, sq = .int .u64 Q1 ∧ s16 = .int .u64 r ∧ wx = w1)
    case first =>
      go_wp2_with fail
      go_loopw [15, 16] (fun sq s16 wr => ∃ q r : Int, sq = .int .u64 q ∧ s16 = .int .u64 r ∧ 0 ≤ q ∧ q ≤ 4294967296 ∧ 0 ≤ r ∧ r < 4294967296 ∧ Hid (hi = q * 2328306436 + r ∧ (hi * 4294967296 + u1) / 10000000000000000000 ≤ q) ∧ wr = w1) (fun sq _ _ => (RowKit.intOf sq).toNat)
      case atStart => exact ⟨q, hi - m, rfl, rfl, q0, q1, by omega, m2, HQ, rfl⟩
      case round =>
        obtain ⟨q, r, rfl, rfl, q0, q1, r0, r1, HI, hwr⟩ := hrel
        subst hwr
        obtain ⟨t, ht⟩ : ∃ t, t = q * y0 := ⟨_, rfl⟩
        have HT : Hid (t = q * 2313682944) := Lib.hid (by rw [ht, HY0.out])
        by_cases hc : 4294967296 ≤ q ∨ 4294967296 * r + u1 < t
        · have hst := kn_step h0 HH.out u10 u1l HI.out.1 HI.out.2 r0 (by rw [← HT.out]; exact hc)
          have HI2 : Hid (hi = (q - 1) * 2328306436 + (r + y1) ∧ (hi * 4294967296 + u1) / 10000000000000000000 ≤ q - 1) := Lib.hid (by rw [HY1.out]; exact hst.2)
          have hq1 := hst.1
          clear hst
          have HBR : Hid (4294967296 ≤ r + y1 → q - 1 = Q1) := Lib.hid (fun h => by rw [HQ1.out]; exact kn_break h0 HH.out u10 u1l HI2.out.1 HI2.out.2 (by omega) h)
          by_cases hq : 4294967296 ≤ q
          case' pos =>
            clear ht hc
            go_upto_region 20 with fail
          case' neg =>
            have hc2 : 4294967296 * r + u1 < t := hc.resolve_left hq
            have hwt : IntKind.u64.wrap (q * y0) = t := by rw [← ht, IntKind.wrap_u64]; have := HT.out; omega
            have hq' : ¬ 4294967296 ≤ q := hq
            clear ht hc
            go_upto_region 20 with fail
          all_goals
            rcases Int.lt_or_le (r + y1) 4294967296 with hb | hb
            case' inl =>
              go_wp2_with fail
              exact ⟨⟨q - 1, r + y1, rfl, rfl, by omega, by omega, by omega, by omega, HI2, by first | rfl | trivial⟩, by simp [RowKit.intOf]; omega⟩
            case' inr =>
              go_wp2_with fail
              go_meet
              exact ⟨_, by rw [HBR.out hb], rfl, rfl⟩
        · have hc1 : ¬ 4294967296 ≤ q := fun h => hc (.inl h)
          have hc2 : ¬ 4294967296 * r + u1 < t := fun h => hc (.inr h)
          have hwt : IntKind.u64.wrap (q * y0) = t := by rw [← ht, IntKind.wrap_u64]; have := HT.out; omega
          have HD : Hid (q = Q1) := Lib.hid (by rw [HQ1.out]; exact kn_done h0 HH.out u10 u1l HI.out.1 HI.out.2 r0 ⟨by omega, by have := HT.out; omega⟩)
          clear ht hc
          go_wp2_with fail
          go_meet
          exact ⟨_, by rw [HD.out], rfl, rfl⟩
    case rest =>
      obtain ⟨r, rfl, rfl, rfl⟩ := hcut
      obtain ⟨R1, HR1⟩ : ∃ R1, Hid (R1 = (hi * 4294967296 + u1) % 10000000000000000000) := ⟨_, Lib.hid rfl⟩
      have hw1 : IntKind.u64.wrap (IntKind.u64.wrap (IntKind.u64.wrap (hi * 4294967296) + u1) - IntKind.u64.wrap (Q1 * y)) = R1 := by
        rw [HY.out, HQ1.out, HR1.out]
        simp only [IntKind.wrap_u64]
        have := HH.out
        omega
      have r10 : 0 ≤ R1 := by rw [HR1.out]; omega
      have r1l : R1 ≤ 18446744073709551615 := by rw [HR1.out]; omega
      have HR : Hid (R1 < 10000000000000000000) := Lib.hid (by rw [HR1.out]; omega)
      obtain ⟨Q2, HQ2⟩ : ∃ Q2, Hid (Q2 = (R1 * 4294967296 + u0) / 10000000000000000000) := ⟨_, Lib.hid rfl⟩
      clear HQ q0 q1 m0 m1 m2
      go_upto_region 23 with fail
      clear hw1
      obtain ⟨q, hq⟩ : ∃ q, q = R1 / y1 := ⟨_, rfl⟩
      obtain ⟨m, hm⟩ : ∃ m, m = q * y1 := ⟨_, rfl⟩
      have hst := kn_start r10 HR.out u00 u0l
      have HQ : Hid (R1 = q * 2328306436 + (R1 - m) ∧ (R1 * 4294967296 + u0) / 10000000000000000000 ≤ q) := Lib.hid (by
        rw [hm, hq, HY1.out]
        refine ⟨by omega, hst.1⟩)
      have q0 : 0 ≤ q := by rw [hq, HY1.out]; omega
      have q1 : q ≤ 4294967296 := by rw [hq, HY1.out]; omega
      have m0 : 0 ≤ m := by rw [hm, hq, HY1.out]; omega
      have m1 : m ≤ R1 := by rw [hm, hq, HY1.out]; omega
      have m2 : R1 - m < 4294967296 := by rw [hm, hq, HY1.out]; omega
      have hwm : IntKind.u64.wrap (q * y1) = m := by rw [← hm, IntKind.wrap_u64]; omega
      rw [← hq]
      clear hst hm hq
      go_upto_block 2 with fail
      clear hwm
      go_cut [18, 16] (fun sq s16 wx => ∃ r : Int, sq = .int .u64 Q2 ∧ s16 = .int .u64 r ∧ wx = wc)
      case first =>
        go_wp2_with fail
        go_loopw [18, 16] (fun sq s16 wr => ∃ q r : Int, sq = .int .u64 q ∧ s16 = .int .u64 r ∧ 0 ≤ q ∧ q ≤ 4294967296 ∧ 0 ≤ r ∧ r < 4294967296 ∧ Hid (R1 = q * 2328306436 + r ∧ (R1 * 4294967296 + u0) / 10000000000000000000 ≤ q) ∧ wr = wc) (fun sq _ _ => (RowKit.intOf sq).toNat)
        case atStart => exact ⟨q, R1 - m, rfl, rfl, q0, q1, by omega, m2, HQ, rfl⟩
        case round =>
          obtain ⟨q, r, rfl, rfl, q0, q1, r0, r1, HI, hwr⟩ := hrel
          subst hwr
          obtain ⟨t, ht⟩ : ∃ t, t = q * y0 := ⟨_, rfl⟩
          have HT : Hid (t = q * 2313682944) := Lib.hid (by rw [ht, HY0.out])
          by_cases hc : 4294967296 ≤ q ∨ 4294967296 * r + u0 < t
          · have hst := kn_step r10 HR.out u00 u0l HI.out.1 HI.out.2 r0 (by rw [← HT.out]; exact hc)
            have HI2 : Hid (R1 = (q - 1) * 2328306436 + (r + y1) ∧ (R1 * 4294967296 + u0) / 10000000000000000000 ≤ q - 1) := Lib.hid (by rw [HY1.out]; exact hst.2)
            have hq1 := hst.1
            clear hst
            have HBR : Hid (4294967296 ≤ r + y1 → q - 1 = Q2) := Lib.hid (fun h => by rw [HQ2.out]; exact kn_break r10 HR.out u00 u0l HI2.out.1 HI2.out.2 (by omega) h)
            by_cases hq : 4294967296 ≤ q
            case' pos =>
              clear ht hc
              go_upto_region 27 with fail
            case' neg =>
              have hc2 : 4294967296 * r + u0 < t := hc.resolve_left hq
              have hwt : IntKind.u64.wrap (q * y0) = t := by rw [← ht, IntKind.wrap_u64]; have := HT.out; omega
              have hq' : ¬ 4294967296 ≤ q := hq
              clear ht hc
              go_upto_region 27 with fail
            all_goals
              rcases Int.lt_or_le (r + y1) 4294967296 with hb | hb
              case' inl =>
                go_wp2_with fail
                exact ⟨⟨q - 1, r + y1, rfl, rfl, by omega, by omega, by omega, by omega, HI2, by first | rfl | trivial⟩, by simp [RowKit.intOf]; omega⟩
              case' inr =>
                go_wp2_with fail
                go_meet
                exact ⟨_, by rw [HBR.out hb], rfl, rfl⟩
          · have hc1 : ¬ 4294967296 ≤ q := fun h => hc (.inl h)
            have hc2 : ¬ 4294967296 * r + u0 < t := fun h => hc (.inr h)
            have hwt : IntKind.u64.wrap (q * y0) = t := by rw [← ht, IntKind.wrap_u64]; have := HT.out; omega
            have HD : Hid (q = Q2) := Lib.hid (by rw [HQ2.out]; exact kn_done r10 HR.out u00 u0l HI.out.1 HI.out.2 r0 ⟨by omega, by have := HT.out; omega⟩)
            clear ht hc
            go_wp2_with fail
            go_meet
            exact ⟨_, by rw [HD.out], rfl, rfl⟩
      case rest =>
        obtain ⟨r, rfl, rfl, rfl⟩ := hcut
        clear HQ q0 q1 m0 m1 m2
        obtain ⟨R2, HR2⟩ : ∃ R2, Hid (R2 = (R1 * 4294967296 + u0) % 10000000000000000000) := ⟨_, Lib.hid rfl⟩
        have hw1 : IntKind.u64.wrap (IntKind.u64.wrap (IntKind.u64.wrap (R1 * 4294967296) + u0) - IntKind.u64.wrap (Q2 * y)) = R2 := by
          rw [HY.out, HQ2.out, HR2.out]
          simp only [IntKind.wrap_u64]
          have := HR.out
          omega
        have hlo : lo = u1 * 4294967296 + u0 := by have h1 := HU1.out.1; have h2 := HU0.out.1; omega
        have hw2 : IntKind.u64.wrap (IntKind.u64.wrap (Q1 * 4294967296) + Q2) = Q := by
          rw [HQ0.out, hlo, HY.out]
          simp only [IntKind.wrap_u64]
          have h1 := HQ1.out
          have h2 := HQ2.out
          have h3 := HR1.out
          have h4 := HH.out
          omega
        have HRR : Hid (R2 = R) := Lib.hid (by
          rw [HR0.out, hlo, HY.out]
          have h1 := HQ1.out
          have h2 := HR2.out
          have h3 := HR1.out
          have h4 := HH.out
          omega)
        have r20 : 0 ≤ R2 := by rw [HR2.out]; omega
        have r2l : R2 ≤ 18446744073709551615 := by rw [HR2.out]; omega
        clear hlo
        go_wp2_with fail
        go_ret2
        exact ⟨by rw [← HRR.out]; rfl, Ext.refl _⟩
end Go.Proofs.YtokllgdbmnmieaaGreat

/-! Plain: Knuth's division of two digits of 32 bits by a number of 64 bits whose top bit is set; what a shift does. -/

namespace Go.Proofs.YtokllgdbmnmieaaGreat

structure KnY (y1 y0 y : Int) : Prop where
  a : 2147483648 ≤ y1
  b : y1 < 4294967296
  c : 0 ≤ y0
  d : y0 < 4294967296
  e : y = y1 * 4294967296 + y0

theorem kg_pos {y1 y0 y : Int} (Y : KnY y1 y0 y) : 9223372036854775808 ≤ y ∧ y < 18446744073709551616 := by
  obtain ⟨a, b, c, d, e⟩ := Y
  omega
theorem kg_lt {y h u : Int} (h1 : h < y) (u2 : u < 4294967296) : (h * 4294967296 + u) < 4294967296 * y := by omega
theorem kg_q0 {y1 y0 y h u : Int} (Y : KnY y1 y0 y) (h0 : 0 ≤ h) (u0 : 0 ≤ u) : 0 ≤ (h * 4294967296 + u) / y := Int.ediv_nonneg (by omega) (by have := kg_pos Y; omega)
theorem kg_qb {y1 y0 y h u : Int} (Y : KnY y1 y0 y) (h1 : h < y) (u2 : u < 4294967296) : (h * 4294967296 + u) / y < 4294967296 :=
  Int.ediv_lt_of_lt_mul (by have := kg_pos Y; omega) (by have := kg_lt (u := u) h1 u2; omega)
theorem kg_mul {y1 y0 y : Int} (Y : KnY y1 y0 y) (q : Int) : q * y = q * y1 * 4294967296 + q * y0 := by rw [Y.e, Int.mul_add, Int.mul_assoc]
theorem kg_start {y1 y0 y h u : Int} (Y : KnY y1 y0 y) (h0 : 0 ≤ h) (h1 : h < y) (u0 : 0 ≤ u) (u2 : u < 4294967296) :
    (h * 4294967296 + u) / y ≤ h / y1 ∧ 0 ≤ h / y1 ∧ h / y1 ≤ 4294967297 ∧ 0 ≤ h / y1 * y1 ∧ h / y1 * y1 ≤ h ∧ h - h / y1 * y1 < 4294967296 := by
  have hy := kg_pos Y
  have a := Y.a
  have b := Y.b
  have d := Y.d
  have e := Y.e
  have k1 : y1 * (h / y1) ≤ h := Int.mul_ediv_self_le (by omega)
  have k2 : h < y1 * (h / y1) + y1 := Int.lt_mul_ediv_self_add (by omega)
  have k3 : 0 ≤ h / y1 := Int.ediv_nonneg h0 (by omega)
  have k4 : h / y1 ≤ 4294967297 := by
    have : h / y1 < 4294967298 := Int.ediv_lt_of_lt_mul (by omega) (by omega)
    omega
  have k5 : h / y1 * y1 = y1 * (h / y1) := Int.mul_comm _ _
  have k6 : 0 ≤ y1 * (h / y1) := Int.mul_nonneg (by omega) k3
  refine ⟨?_, k3, k4, by omega, by omega, by omega⟩
  have : (h * 4294967296 + u) / y < h / y1 + 1 := by
    refine Int.ediv_lt_of_lt_mul (by omega) ?_
    have m := kg_mul Y (h / y1 + 1)
    have m0 : 0 ≤ (h / y1 + 1) * y0 := Int.mul_nonneg (by omega) Y.c
    have m1 : (h / y1 + 1) * y1 = y1 * (h / y1) + y1 := by rw [Int.add_mul, Int.one_mul, k5]
    rw [m1] at m
    omega
  omega
theorem kg_step {y1 y0 y h u q r : Int} (Y : KnY y1 y0 y) (h0 : 0 ≤ h) (h1 : h < y) (u0 : 0 ≤ u) (u2 : u < 4294967296) (he : h = q * y1 + r) (hq : (h * 4294967296 + u) / y ≤ q)
    (hc : 4294967296 ≤ q ∨ 4294967296 * r + u < q * y0) : 1 ≤ q ∧ h = (q - 1) * y1 + (r + y1) ∧ (h * 4294967296 + u) / y ≤ q - 1 := by
  have hy := kg_pos Y
  have k0 := kg_q0 Y h0 u0
  have kb := kg_qb (u := u) Y h1 u2
  have k1 : h = (q - 1) * y1 + (r + y1) := by rw [Int.sub_mul, Int.one_mul]; omega
  have k2 : (h * 4294967296 + u) / y ≤ q - 1 := by
    rcases hc with hc | hc
    · omega
    · have : (h * 4294967296 + u) / y < q := by
        refine Int.ediv_lt_of_lt_mul (by omega) ?_
        have m := kg_mul Y q
        omega
      omega
  exact ⟨by omega, k1, k2⟩
theorem kg_done {y1 y0 y h u q r : Int} (Y : KnY y1 y0 y) (he : h = q * y1 + r) (hq : (h * 4294967296 + u) / y ≤ q) (hc : q * y0 ≤ 4294967296 * r + u) : q = (h * 4294967296 + u) / y := by
  have hy := kg_pos Y
  have m := kg_mul Y q
  have : q ≤ (h * 4294967296 + u) / y := (Int.le_ediv_iff_mul_le (by omega)).2 (by omega)
  omega
theorem kg_break {y1 y0 y h u q r : Int} (Y : KnY y1 y0 y) (h1 : h < y) (u0 : 0 ≤ u) (he : h = q * y1 + r) (hq : (h * 4294967296 + u) / y ≤ q) (q0 : 0 ≤ q) (r0 : 4294967296 ≤ r) : q = (h * 4294967296 + u) / y := by
  have hy := kg_pos Y
  have a := Y.a
  have d := Y.d
  have e := Y.e
  have hqb : q < 4294967296 := by
    rcases Int.lt_or_le q 4294967296 with h | h
    · exact h
    · have := Int.mul_le_mul_of_nonneg_right h (show 0 ≤ y1 by omega)
      omega
  refine kg_done Y he hq ?_
  have m1 : q * y0 ≤ 4294967295 * y0 := Int.mul_le_mul_of_nonneg_right (by omega) Y.c
  omega

/-- Two steps are one division. -/
theorem kg_two {y h u1 u0 Q1 R1 Q2 R2 : Int} (hy : 0 < y) (q1 : Q1 = (h * 4294967296 + u1) / y) (r1 : R1 = (h * 4294967296 + u1) % y) (q2 : Q2 = (R1 * 4294967296 + u0) / y) (r2 : R2 = (R1 * 4294967296 + u0) % y) :
    Q1 * 4294967296 + Q2 = (h * 18446744073709551616 + (u1 * 4294967296 + u0)) / y ∧ R2 = (h * 18446744073709551616 + (u1 * 4294967296 + u0)) % y := by
  have e1 := Int.mul_ediv_add_emod (h * 4294967296 + u1) y
  rw [← q1, ← r1] at e1
  have e : h * 18446744073709551616 + (u1 * 4294967296 + u0) = R1 * 4294967296 + u0 + y * (Q1 * 4294967296) := by
    rw [← Int.mul_assoc]; omega
  rw [e, Int.add_mul_ediv_left _ _ (by omega), Int.add_mul_emod_self_left, ← q2, ← r2]
  exact ⟨by omega, rfl⟩

theorem u64_or_low {s : Nat} {a b : Int} (hs : s ≤ 64) (a0 : 0 ≤ a) (b0 : 0 ≤ b) (hb : b < ((2 ^ s : Nat) : Int)) (ha : a * ((2 ^ s : Nat) : Int) + b < 18446744073709551616) : bits .or .u64 (a * ((2 ^ s : Nat) : Int)) b = a * ((2 ^ s : Nat) : Int) + b := by
  obtain ⟨x, rfl⟩ := Int.eq_ofNat_of_zero_le a0
  obtain ⟨z, rfl⟩ := Int.eq_ofNat_of_zero_le b0
  have hz : z < 2 ^ s := Int.ofNat_lt.1 hb
  have hx : x * 2 ^ s + z < 18446744073709551616 := by
    rw [← Int.natCast_mul, ← Int.natCast_add] at ha
    omega
  have key : (BitVec.ofInt 64 ((x : Int) * ((2 ^ s : Nat) : Int)) ||| BitVec.ofInt 64 (z : Int)).toNat = x * 2 ^ s + z := by
    rw [BitVec.toNat_or, BitVec.toNat_ofInt, BitVec.toNat_ofInt]
    have e1 : ((x : Int) * ((2 ^ s : Nat) : Int) % ((2 ^ 64 : Nat) : Int)).toNat = x * 2 ^ s := by
      rw [← Int.natCast_mul, ← Int.natCast_emod, Int.toNat_natCast]
      exact Nat.mod_eq_of_lt (by omega)
    have e2 : ((z : Int) % ((2 ^ 64 : Nat) : Int)).toNat = z := by
      rw [← Int.natCast_emod, Int.toNat_natCast]
      exact Nat.mod_eq_of_lt (by omega)
    rw [e1, e2, ← Nat.shiftLeft_eq, ← Nat.shiftLeft_add_eq_or_of_lt hz]
  show IntKind.u64.wrap ((BitVec.ofInt 64 ((x : Int) * ((2 ^ s : Nat) : Int)) ||| BitVec.ofInt 64 (z : Int)).toNat : Nat) = _
  rw [key, IntKind.wrap_u64]
  have : ((x * 2 ^ s + z : Nat) : Int) = (x : Int) * ((2 ^ s : Nat) : Int) + (z : Int) := by rw [Int.natCast_add, Int.natCast_mul]
  omega
end Go.Proofs.YtokllgdbmnmieaaGreat
