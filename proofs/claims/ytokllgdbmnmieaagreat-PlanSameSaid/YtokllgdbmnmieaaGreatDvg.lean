/- math/bits.Div64: the walk, by any number. -/
import Derived.Test.YtokllgdbmnmieaaGreatDvp
import Derived.Lib.ItoaNum
namespace Go.Proofs.YtokllgdbmnmieaaGreat
open Go.RowKit Go.Lib Go.Sort

theorem pow_cast (s : Nat) : ((2 ^ s : Nat) : Int) = (2 : Int) ^ s := by simp
theorem norm_len (y : Int) (h1 : 1 ≤ y) (h2 : y < 18446744073709551616) : ∃ s : Nat, (64 - (Lib.bitLen y.toNat : Int)) = (s : Int) ∧ s ≤ 63 ∧ 9223372036854775808 ≤ y * ((2 ^ s : Nat) : Int) ∧ y * ((2 ^ s : Nat) : Int) < 18446744073709551616 := by
  obtain ⟨n, rfl⟩ := Int.eq_ofNat_of_zero_le (show 0 ≤ y by omega)
  obtain ⟨b1, b2, b3⟩ := Lib.bitLenAux_bounds 64 n (by omega) (by omega)
  have e : Lib.bitLen ((n : Int)).toNat = Lib.bitLenAux 64 n := by rw [Int.toNat_natCast]; rfl
  rw [e]
  obtain ⟨L, hL⟩ : ∃ L, L = Lib.bitLenAux 64 n := ⟨_, rfl⟩
  rw [← hL] at b1 b2 b3 ⊢
  have hL64 : L ≤ 64 := by
    rcases Nat.lt_or_ge 64 L with h | h
    · have := Nat.pow_le_pow_right (show 0 < 2 by decide) (show 64 ≤ L - 1 by omega)
      omega
    · exact h
  refine ⟨64 - L, by omega, by omega, ?_, ?_⟩
  · have h3 : 2 ^ (L - 1) * 2 ^ (64 - L) ≤ n * 2 ^ (64 - L) := Nat.mul_le_mul_right _ b2
    rw [← Nat.pow_add, show L - 1 + (64 - L) = 63 by omega] at h3
    rw [← Int.natCast_mul]
    omega
  · have h3 : n * 2 ^ (64 - L) < 2 ^ L * 2 ^ (64 - L) := Nat.mul_lt_mul_of_pos_right b3 (Nat.pow_pos (by decide))
    rw [← Nat.pow_add, show L + (64 - L) = 64 by omega] at h3
    rw [← Int.natCast_mul]
    omega

/-- What the shifts leave: the number, times 2^s. -/
theorem shift_two {y hi lo Y : Int} {s : Nat} (hs : s ≤ 63) (hy : 1 ≤ y) (h0 : 0 ≤ hi) (h1 : hi < y) (l0 : 0 ≤ lo) (l1 : lo < 18446744073709551616) (eY : Y = y * ((2 ^ s : Nat) : Int)) (hY : Y < 18446744073709551616) :
    ∃ U V : Int, bits .or .u64 (IntKind.u64.wrap (hi * 2 ^ s)) (lo / 2 ^ (64 - s)) = U ∧ IntKind.u64.wrap (lo * 2 ^ s) = V ∧ 0 ≤ U ∧ U < Y ∧ 0 ≤ V ∧ V < 18446744073709551616 ∧ U * 18446744073709551616 + V = (hi * 18446744073709551616 + lo) * ((2 ^ s : Nat) : Int) := by
  have hp := Nat.pow_pos (n := s) (show 0 < 2 by decide)
  have hq := Nat.pow_pos (n := 64 - s) (show 0 < 2 by decide)
  have hpq : (2 ^ s : Nat) * 2 ^ (64 - s) = 18446744073709551616 := by rw [← Nat.pow_add, show s + (64 - s) = 64 by omega]
  rw [← pow_cast, ← pow_cast]
  have hor := fun a b => u64_or_low (s := s) (a := a) (b := b) (by omega)
  obtain ⟨P, hP⟩ : ∃ P, P = 2 ^ s := ⟨_, rfl⟩
  obtain ⟨Q, hQ⟩ : ∃ Q, Q = 2 ^ (64 - s) := ⟨_, rfl⟩
  rw [← hP] at hp hpq eY hor ⊢
  rw [← hQ] at hq hpq ⊢
  have hpq' : (P : Int) * (Q : Int) = 18446744073709551616 := by rw [← Int.natCast_mul, hpq]; rfl
  obtain ⟨a, ha⟩ : ∃ a, a = lo / (Q : Int) := ⟨_, rfl⟩
  obtain ⟨b, hb⟩ : ∃ b, b = lo % (Q : Int) := ⟨_, rfl⟩
  have hd := Int.mul_ediv_add_emod lo (Q : Int)
  rw [← ha, ← hb] at hd
  have a0 : 0 ≤ a := by rw [ha]; exact Int.ediv_nonneg l0 (by omega)
  have a1 : a < (P : Int) := by rw [ha]; exact Int.ediv_lt_of_lt_mul (by omega) (by rw [hpq']; exact l1)
  have b0 : 0 ≤ b := by rw [hb]; exact Int.emod_nonneg _ (by omega)
  have b1 : b < (Q : Int) := by rw [hb]; exact Int.emod_lt_of_pos _ (by omega)
  rw [← ha]
  have hle : (hi + 1) * (P : Int) ≤ y * (P : Int) := Int.mul_le_mul_of_nonneg_right (by omega) (by omega)
  rw [Int.add_mul, Int.one_mul, ← eY] at hle
  have hh0 : 0 ≤ hi * (P : Int) := Int.mul_nonneg h0 (by omega)
  have hw : IntKind.u64.wrap (hi * (P : Int)) = hi * (P : Int) := by rw [IntKind.wrap_u64]; exact Int.emod_eq_of_lt hh0 (by omega)
  have hbp : b * (P : Int) < 18446744073709551616 := by
    have h2 := Int.mul_lt_mul_of_pos_right b1 (show (0 : Int) < (P : Int) by omega)
    rw [Int.mul_comm (Q : Int), hpq'] at h2
    exact h2
  have hbp0 : 0 ≤ b * (P : Int) := Int.mul_nonneg b0 (by omega)
  have hlo : lo * (P : Int) = b * (P : Int) + 18446744073709551616 * a := by
    rw [← hd, Int.add_mul, ← hpq', Int.mul_comm (Q : Int) a, Int.mul_assoc, Int.mul_comm (Q : Int) (P : Int), Int.mul_comm a]
    omega
  rw [hw, hor hi a h0 a0 a1 (by omega)]
  refine ⟨_, b * (P : Int), rfl, ?_, by omega, by omega, hbp0, hbp, ?_⟩
  · rw [hlo, IntKind.wrap_u64, Int.add_mul_emod_self_left]
    exact Int.emod_eq_of_lt hbp0 hbp
  · rw [Int.add_mul, Int.add_mul, hlo, Int.mul_assoc hi 18446744073709551616, Int.mul_comm 18446744073709551616 (P : Int), ← Int.mul_assoc]
    omega

theorem div_back {y N Y : Int} {s : Nat} (hy : 1 ≤ y) (eY : Y = y * ((2 ^ s : Nat) : Int)) : N * ((2 ^ s : Nat) : Int) / Y = N / y ∧ N * ((2 ^ s : Nat) : Int) % Y / 2 ^ s = N % y := by
  have hp := Nat.pow_pos (n := s) (show 0 < 2 by decide)
  rw [← pow_cast]
  obtain ⟨P, hP⟩ : ∃ P, P = 2 ^ s := ⟨_, rfl⟩
  rw [← hP] at hp eY ⊢
  rw [eY, Int.mul_ediv_mul_of_pos_left _ _ (show (0 : Int) < (P : Int) by omega)]
  refine ⟨rfl, ?_⟩
  rw [Int.mul_comm N, Int.mul_comm y, Int.mul_emod_mul_of_pos _ _ (show (0 : Int) < (P : Int) by omega), Int.mul_ediv_cancel_left _ (by omega)]

set_option maxHeartbeats 4000000 in
set_option maxRecDepth 100000 in
theorem div64_gen (y hi lo : Int) (w : World) (hy : 1 ≤ y) (hy2 : y < 18446744073709551616) (h0 : 0 ≤ hi) (h1 : hi < y) (l0 : 0 ≤ lo) (l1 : lo < 18446744073709551616) :
    Calls Tryz.prog 113 #[.int .u64 hi, .int .u64 lo, .int .u64 y] w fun e w' => e = .returned (.tuple #[.int .u64 ((hi * 18446744073709551616 + lo) / y), .int .u64 ((hi * 18446744073709551616 + lo) % y)]) ∧ Ext w w' := by
  obtain ⟨s, hs, hs63, hn1, hn2⟩ := norm_len y hy hy2
  have HLZ : Hid (∀ W, Calls Tryz.prog 132 #[.int .u64 y] W fun e w' => e = .returned (.int .i64 (s : Int)) ∧ w' = W) := Lib.hid (fun W => by
    have h := Tryz.bits_LeadingZeros64 y W (by omega) (by omega)
    rw [hs] at h
    exact h)
  have z0 : (y == 0) = false := by simp; omega
  have z1 : decide (y ≤ hi) = false := by simp; omega
  have hyp : 0 < y := by omega
  clear hs
  obtain ⟨Q, hQ⟩ : ∃ Q, Q = (hi * 18446744073709551616 + lo) / y := ⟨_, rfl⟩
  obtain ⟨R, hR⟩ : ∃ R, R = (hi * 18446744073709551616 + lo) % y := ⟨_, rfl⟩
  have HQ9 : Hid (0 ≤ Q ∧ Q < 18446744073709551616) := Lib.hid (by
    rw [hQ]
    exact ⟨Int.ediv_nonneg (by omega) (by omega), Int.ediv_lt_of_lt_mul (by omega) (by omega)⟩)
  by_cases hz : hi = 0
  · subst hz
    go_enter Tryz.func113, Tryz.ntmps113
    rw [← hQ, ← hR]
    have hQ' : lo / y = Q := by rw [hQ]; simp
    have hR' : lo % y = R := by rw [hR]; simp
    clear hQ hR hn1 hn2 HQ9
    go_wp2_with fail
    refine wp_region_quiet_below (by kernel_rfl) (by kernel_rfl) ?_
    repeat (go_big_quiet_step (fail))
    refine wpQuiet_nil ?_
    intro _ hw'
    obtain ⟨pr, rfl⟩ := hw'
    go_wp2_with fail
    go_ret2
    refine ⟨by first | rfl | simp [hQ', hR'], Ext.regrown _ _ _⟩
  · have hzz : (hi == 0) = false := by simp [hz]
    obtain ⟨Y, hY, HY⟩ : ∃ Y, IntKind.u64.wrap (y * 2 ^ s) = Y ∧ Hid (Y = y * ((2 ^ s : Nat) : Int)) := ⟨y * ((2 ^ s : Nat) : Int), by rw [IntKind.wrap_u64, ← pow_cast]; exact Int.emod_eq_of_lt (by omega) hn2, Lib.hid rfl⟩
    have Y0 : 9223372036854775808 ≤ Y := by rw [HY.out]; exact hn1
    have Y1 : Y < 18446744073709551616 := by rw [HY.out]; exact hn2
    clear hn1 hn2
    obtain ⟨U, V, hU, hV, U0, U1, V0, V1, hUV⟩ := shift_two hs63 hy h0 h1 l0 l1 HY.out Y1
    have HDB := Lib.hid (div_back (N := hi * 18446744073709551616 + lo) hy HY.out)
    rw [← hUV, ← hQ, ← hR] at HDB
    obtain ⟨y1, hy1, HY1⟩ : ∃ y1, Y / 4294967296 = y1 ∧ Hid (y1 = Y / 4294967296) := ⟨_, rfl, Lib.hid rfl⟩
    obtain ⟨y0, hy0, HY0⟩ : ∃ y0, bits .and .u64 Y 4294967295 = y0 ∧ Hid (y0 = Y % 4294967296) := ⟨_, rfl, Lib.hid (u64_and32 Y (by omega) (by omega))⟩
    obtain ⟨u1, hu1, HU1⟩ : ∃ u1, V / 4294967296 = u1 ∧ Hid (V / 4294967296 = u1) := ⟨_, rfl, Lib.hid rfl⟩
    obtain ⟨u0, hu0, HU0⟩ : ∃ u0, bits .and .u64 V 4294967295 = u0 ∧ Hid (V % 4294967296 = u0) := ⟨_, rfl, Lib.hid (u64_and32 V V0 V1).symm⟩
    have K : Hid (KnY y1 y0 Y) := Lib.hid ⟨by have := HY1.out; omega, by have := HY1.out; omega, by have := HY0.out; omega, by have := HY0.out; omega, by have := HY0.out; have := HY1.out; omega⟩
    have y1p : 2147483648 ≤ y1 := K.out.a
    have y1l : y1 < 4294967296 := K.out.b
    have zy1 : (y1 == 0) = false := by simp; omega
    have zy2 : ¬ y1 = 0 := by omega
    have y00 : 0 ≤ y0 := K.out.c
    have y0l : y0 < 4294967296 := K.out.d
    have u10 : 0 ≤ u1 := by have := HU1.out; omega
    have u1l : u1 < 4294967296 := by have := HU1.out; omega
    have u00 : 0 ≤ u0 := by have := HU0.out; omega
    have u0l : u0 < 4294967296 := by have := HU0.out; omega
    have HV : Hid (V = u1 * 4294967296 + u0) := Lib.hid (by have := HU0.out; have := HU1.out; omega)
    rw [← hQ, ← hR]
    clear hUV hQ hR
    go_enter Tryz.func113, Tryz.ntmps113
    go_upto_region 16 with (go_at_call 132; refine (HLZ.out _).mono ?_; rintro e w1 ⟨rfl, rfl⟩)
    clear hy1 hy0 hu1 hu0 hU hV hY HLZ z0 z1 hzz
    obtain ⟨Q1, HQ1⟩ : ∃ Q1, Hid (Q1 = (U * 4294967296 + u1) / Y) := ⟨_, Lib.hid rfl⟩
    obtain ⟨q, hq⟩ : ∃ q, q = U / y1 := ⟨_, rfl⟩
    obtain ⟨m, hm⟩ : ∃ m, m = q * y1 := ⟨_, rfl⟩
    have hst := kg_start K.out U0 U1 u10 u1l
    rw [← hq, ← hm] at hst
    have HQ : Hid (U = q * y1 + (U - m) ∧ (U * 4294967296 + u1) / Y ≤ q) := Lib.hid ⟨by rw [← hm]; omega, hst.1⟩
    have q0 : 0 ≤ q := hst.2.1
    have q1 : q ≤ 4294967297 := hst.2.2.1
    have m0 : 0 ≤ m := hst.2.2.2.1
    have m1 : m ≤ U := hst.2.2.2.2.1
    have m2 : U - m < 4294967296 := hst.2.2.2.2.2
    have hwm : IntKind.u64.wrap (q * y1) = m := by rw [← hm, IntKind.wrap_u64]; omega
    rw [← hq]
    clear hst hm hq
    go_upto_block 0 with fail
    clear hwm
    go_cut [15, 16] (fun sq s16 wx => ∃ r : Int, sq = .int .u64 Q1 ∧ s16 = .int .u64 r ∧ wx = w1)
    case first =>
      go_wp2_with fail
      go_loopw [15, 16] (fun sq s16 wr => ∃ q r : Int, sq = .int .u64 q ∧ s16 = .int .u64 r ∧ 0 ≤ q ∧ q ≤ 4294967297 ∧ 0 ≤ r ∧ r < 4294967296 ∧ Hid (U = q * y1 + r ∧ (U * 4294967296 + u1) / Y ≤ q) ∧ wr = w1) (fun sq _ _ => (RowKit.intOf sq).toNat)
      case atStart => exact ⟨q, U - m, rfl, rfl, q0, q1, by omega, m2, HQ, rfl⟩
      case round =>
        obtain ⟨q, r, rfl, rfl, q0, q1, r0, r1, HI, hwr⟩ := hrel
        subst hwr
        obtain ⟨t, ht⟩ : ∃ t, t = q * y0 := ⟨_, rfl⟩
        have HT : Hid (t = q * y0) := Lib.hid ht
        have t0 : 0 ≤ t := by rw [ht]; exact Int.mul_nonneg q0 y00
        by_cases hc : 4294967296 ≤ q ∨ 4294967296 * r + u1 < t
        · have hst := kg_step K.out U0 U1 u10 u1l HI.out.1 HI.out.2 (by rw [← HT.out]; exact hc)
          have HI2 : Hid (U = (q - 1) * y1 + (r + y1) ∧ (U * 4294967296 + u1) / Y ≤ q - 1) := Lib.hid hst.2
          have hq1 := hst.1
          clear hst
          have HBR : Hid (4294967296 ≤ r + y1 → q - 1 = Q1) := Lib.hid (fun h => by rw [HQ1.out]; exact kg_break K.out U1 u10 HI2.out.1 HI2.out.2 (by omega) h)
          by_cases hq : 4294967296 ≤ q
          case' pos =>
            clear ht hc
            go_upto_region 20 with fail
          case' neg =>
            have hc2 : 4294967296 * r + u1 < t := hc.resolve_left hq
            have htl : t < 18446744073709551616 := by
              have h5 : q * y0 ≤ 4294967295 * y0 := Int.mul_le_mul_of_nonneg_right (by omega) y00
              rw [ht]
              omega
            have hwt : IntKind.u64.wrap (q * y0) = t := by rw [← ht, IntKind.wrap_u64]; omega
            have hq' : ¬ 4294967296 ≤ q := hq
            clear ht hc
            go_upto_region 20 with fail
          all_goals
            rcases Int.lt_or_le (r + y1) 4294967296 with hb | hb
            case' inl =>
              go_wp2_with fail
              exact ⟨⟨q - 1, r + y1, rfl, rfl, by omega, by omega, by omega, by omega, HI2, by first | rfl | trivial⟩, by simp [RowKit.intOf]; omega⟩
            case' inr =>
              go_wp2_with fail
              go_meet
              exact ⟨_, by rw [HBR.out hb], rfl, rfl⟩
        · have hc1 : ¬ 4294967296 ≤ q := fun h => hc (.inl h)
          have hc2 : ¬ 4294967296 * r + u1 < t := fun h => hc (.inr h)
          have hwt : IntKind.u64.wrap (q * y0) = t := by rw [← ht, IntKind.wrap_u64]; omega
          have HD : Hid (q = Q1) := Lib.hid (by rw [HQ1.out]; exact kg_done K.out HI.out.1 HI.out.2 (by rw [← HT.out]; omega))
          clear ht hc
          go_wp2_with fail
          go_meet
          exact ⟨_, by rw [HD.out], rfl, rfl⟩
    case rest =>
      obtain ⟨r, rfl, rfl, rfl⟩ := hcut
      obtain ⟨R1, HR1⟩ : ∃ R1, Hid (R1 = (U * 4294967296 + u1) % Y) := ⟨_, Lib.hid rfl⟩
      have HE1 : Hid (Q1 * Y + R1 = U * 4294967296 + u1) := Lib.hid (by rw [HQ1.out, HR1.out, Int.mul_comm]; exact Int.mul_ediv_add_emod _ _)
      have r10 : 0 ≤ R1 := by rw [HR1.out]; exact Int.emod_nonneg _ (by omega)
      have r1l : R1 < Y := by rw [HR1.out]; exact Int.emod_lt_of_pos _ (by omega)
      have hw1 : IntKind.u64.wrap (IntKind.u64.wrap (IntKind.u64.wrap (U * 4294967296) + u1) - IntKind.u64.wrap (Q1 * Y)) = R1 := by
        have := HE1.out
        obtain ⟨T, hT⟩ : ∃ T, T = Q1 * Y := ⟨_, rfl⟩
        rw [← hT] at this ⊢
        simp only [IntKind.wrap_u64]
        omega
      obtain ⟨Q2, HQ2⟩ : ∃ Q2, Hid (Q2 = (R1 * 4294967296 + u0) / Y) := ⟨_, Lib.hid rfl⟩
      clear HQ q0 q1 m0 m1 m2
      go_upto_region 23 with fail
      clear hw1
      obtain ⟨q, hq⟩ : ∃ q, q = R1 / y1 := ⟨_, rfl⟩
      obtain ⟨m, hm⟩ : ∃ m, m = q * y1 := ⟨_, rfl⟩
      have hst := kg_start K.out r10 r1l u00 u0l
      rw [← hq, ← hm] at hst
      have HQ : Hid (R1 = q * y1 + (R1 - m) ∧ (R1 * 4294967296 + u0) / Y ≤ q) := Lib.hid ⟨by rw [← hm]; omega, hst.1⟩
      have q0 : 0 ≤ q := hst.2.1
      have q1 : q ≤ 4294967297 := hst.2.2.1
      have m0 : 0 ≤ m := hst.2.2.2.1
      have m1 : m ≤ R1 := hst.2.2.2.2.1
      have m2 : R1 - m < 4294967296 := hst.2.2.2.2.2
      have hwm : IntKind.u64.wrap (q * y1) = m := by rw [← hm, IntKind.wrap_u64]; omega
      rw [← hq]
      clear hst hm hq
      go_upto_block 2 with fail
      clear hwm
      go_cut [18, 16] (fun sq s16 wx => ∃ r : Int, sq = .int .u64 Q2 ∧ s16 = .int .u64 r ∧ wx = wc)
      case first =>
        go_wp2_with fail
        go_loopw [18, 16] (fun sq s16 wr => ∃ q r : Int, sq = .int .u64 q ∧ s16 = .int .u64 r ∧ 0 ≤ q ∧ q ≤ 4294967297 ∧ 0 ≤ r ∧ r < 4294967296 ∧ Hid (R1 = q * y1 + r ∧ (R1 * 4294967296 + u0) / Y ≤ q) ∧ wr = wc) (fun sq _ _ => (RowKit.intOf sq).toNat)
        case atStart => exact ⟨q, R1 - m, rfl, rfl, q0, q1, by omega, m2, HQ, rfl⟩
        case round =>
          obtain ⟨q, r, rfl, rfl, q0, q1, r0, r1, HI, hwr⟩ := hrel
          subst hwr
          obtain ⟨t, ht⟩ : ∃ t, t = q * y0 := ⟨_, rfl⟩
          have HT : Hid (t = q * y0) := Lib.hid ht
          have t0 : 0 ≤ t := by rw [ht]; exact Int.mul_nonneg q0 y00
          by_cases hc : 4294967296 ≤ q ∨ 4294967296 * r + u0 < t
          · have hst := kg_step K.out r10 r1l u00 u0l HI.out.1 HI.out.2 (by rw [← HT.out]; exact hc)
            have HI2 : Hid (R1 = (q - 1) * y1 + (r + y1) ∧ (R1 * 4294967296 + u0) / Y ≤ q - 1) := Lib.hid hst.2
            have hq1 := hst.1
            clear hst
            have HBR : Hid (4294967296 ≤ r + y1 → q - 1 = Q2) := Lib.hid (fun h => by rw [HQ2.out]; exact kg_break K.out r1l u00 HI2.out.1 HI2.out.2 (by omega) h)
            by_cases hq : 4294967296 ≤ q
            case' pos =>
              clear ht hc
              go_upto_region 27 with fail
            case' neg =>
              have hc2 : 4294967296 * r + u0 < t := hc.resolve_left hq
              have htl : t < 18446744073709551616 := by
                have h5 : q * y0 ≤ 4294967295 * y0 := Int.mul_le_mul_of_nonneg_right (by omega) y00
                rw [ht]
                omega
              have hwt : IntKind.u64.wrap (q * y0) = t := by rw [← ht, IntKind.wrap_u64]; omega
              have hq' : ¬ 4294967296 ≤ q := hq
              clear ht hc
              go_upto_region 27 with fail
            all_goals
              rcases Int.lt_or_le (r + y1) 4294967296 with hb | hb
              case' inl =>
                go_wp2_with fail
                exact ⟨⟨q - 1, r + y1, rfl, rfl, by omega, by omega, by omega, by omega, HI2, by first | rfl | trivial⟩, by simp [RowKit.intOf]; omega⟩
              case' inr =>
                go_wp2_with fail
                go_meet
                exact ⟨_, by rw [HBR.out hb], rfl, rfl⟩
          · have hc1 : ¬ 4294967296 ≤ q := fun h => hc (.inl h)
            have hc2 : ¬ 4294967296 * r + u0 < t := fun h => hc (.inr h)
            have hwt : IntKind.u64.wrap (q * y0) = t := by rw [← ht, IntKind.wrap_u64]; omega
            have HD : Hid (q = Q2) := Lib.hid (by rw [HQ2.out]; exact kg_done K.out HI.out.1 HI.out.2 (by rw [← HT.out]; omega))
            clear ht hc
            go_wp2_with fail
            go_meet
            exact ⟨_, by rw [HD.out], rfl, rfl⟩
      case rest =>
        obtain ⟨r, rfl, rfl, rfl⟩ := hcut
        clear HQ q0 q1 m0 m1 m2
        obtain ⟨R2, HR2⟩ : ∃ R2, Hid (R2 = (R1 * 4294967296 + u0) % Y) := ⟨_, Lib.hid rfl⟩
        have HE2 : Hid (Q2 * Y + R2 = R1 * 4294967296 + u0) := Lib.hid (by rw [HQ2.out, HR2.out, Int.mul_comm]; exact Int.mul_ediv_add_emod _ _)
        have r20 : 0 ≤ R2 := by rw [HR2.out]; exact Int.emod_nonneg _ (by omega)
        have r2l : R2 < Y := by rw [HR2.out]; exact Int.emod_lt_of_pos _ (by omega)
        have hw1 : IntKind.u64.wrap (IntKind.u64.wrap (IntKind.u64.wrap (R1 * 4294967296) + u0) - IntKind.u64.wrap (Q2 * Y)) = R2 := by
          have := HE2.out
          obtain ⟨T, hT⟩ : ∃ T, T = Q2 * Y := ⟨_, rfl⟩
          rw [← hT] at this ⊢
          simp only [IntKind.wrap_u64]
          omega
        have h2 := kg_two (show 0 < Y by omega) HQ1.out HR1.out HQ2.out HR2.out
        rw [← HV.out] at h2
        have hw2 : IntKind.u64.wrap (IntKind.u64.wrap (Q1 * 4294967296) + Q2) = Q := by
          have h3 := HDB.out.1
          have h4 := HQ9.out
          simp only [IntKind.wrap_u64]
          omega
        have hRR : R2 / 2 ^ s = R := by rw [← HDB.out.2, h2.2]
        clear h2
        go_wp2_with fail
        go_ret2
        exact ⟨by first | rfl | rw [hRR], Ext.refl _⟩
end Go.Proofs.YtokllgdbmnmieaaGreat
