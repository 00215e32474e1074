/- Plain: digits, so many, without the zeros ahead, are the numeral. -/
import Derived.Test.YtipbniaehhoaaaaDoorChu
import Derived.Lib.ItoaNum
import Derived.Lib.TrimByte
namespace Go.Proofs.YtipbniaehhoaaaaDoor
open Go.RowKit Go.Sort Go.Lib

theorem lows_cons (k u : Nat) : lows (k + 1) u = dgt u :: lows k (u / 10) := by
  unfold lows
  rw [List.range_succ_eq_map, List.map_cons, List.map_map]
  congr 1
  · simp
  · refine List.map_congr_left (fun i _ => ?_)
    show dgt (u / 10 ^ (i + 1)) = dgt (u / 10 / 10 ^ i)
    rw [Nat.pow_succ, Nat.mul_comm, Nat.div_div_eq_div_mul]
theorem dec_succ (k u : Nat) : dec (k + 1) u = dec k (u / 10) ++ [dgt u] := by
  unfold dec
  rw [lows_cons, List.reverse_cons]
theorem dec_len (k u : Nat) : (dec k u).length = k := by simp [dec, lows_len]
theorem dgt_mod (u M : Nat) : dgt (u % (10 * M)) = dgt u := by
  unfold dgt
  rw [Nat.mod_mul_right_mod]
theorem dec_mod : ∀ (k u : Nat), dec k (u % 10 ^ k) = dec k u
  | 0, u => by simp [dec, lows]
  | k + 1, u => by
    rw [dec_succ, dec_succ, show 10 ^ (k + 1) = 10 * 10 ^ k by rw [Nat.pow_succ, Nat.mul_comm], dgt_mod, Nat.mod_mul_right_div_self, dec_mod k]
theorem dec_add (a : Nat) : ∀ (b u : Nat), dec (a + b) u = dec a (u / 10 ^ b) ++ dec b u
  | 0, u => by simp [dec, lows]
  | b + 1, u => by
    rw [show a + (b + 1) = (a + b) + 1 by omega, dec_succ, dec_add a b, dec_succ, List.append_assoc, Nat.div_div_eq_div_mul, show 10 * 10 ^ b = 10 ^ (b + 1) by rw [Nat.pow_succ, Nat.mul_comm]]
theorem decDigits_ne (u : Nat) : decDigits u ≠ [] := by
  rw [decDigits]
  split <;> simp
theorem dec_trim : ∀ (k u : Nat), u < 10 ^ k → trimLeftB (dec k u) 48 = if u = 0 then [] else decDigits u
  | 0, u, h => by
    have : u = 0 := by simpa using h
    subst this
    simp [dec, lows, trimLeftB]
  | k + 1, u, h => by
    have ih := dec_trim k (u / 10) (by rw [Nat.pow_succ] at h; omega)
    unfold trimLeftB at ih ⊢
    rw [dec_succ, List.dropWhile_append, ih]
    by_cases h0 : u / 10 = 0
    · have hlt : u < 10 := by omega
      rw [if_pos h0]
      by_cases hz : u = 0
      · subst hz
        rw [if_pos rfl]
        rfl
      · rw [if_neg hz, decDigits, dif_pos hlt]
        have hne : dgt u ≠ 48 := by
          intro e
          have := congrArg UInt8.toNat e
          rw [dgt_nat] at this
          have h48 : (48 : UInt8).toNat = 48 := rfl
          omega
        simp [hne]
        unfold dgt
        rw [Nat.mod_eq_of_lt hlt, UInt8.ofNat_add]
        rfl
    · rw [if_neg h0, if_neg (by omega : ¬ u = 0)]
      have h1 := decDigits_ne (u / 10)
      have h2 : (decDigits (u / 10)).isEmpty = false := by simpa using h1
      rw [h2]
      conv => rhs; rw [decDigits, dif_neg (by omega : ¬ u < 10)]
      rfl

/-- Three parts of a number, told one behind the other. -/
theorem three_parts (a : Nat) : dec 1 (a / 10000000000000000000 / 10000000000000000000) ++ dec 19 (a / 10000000000000000000 % 10000000000000000000) ++ dec 19 (a % 10000000000000000000) = dec 39 a := by
  have e : (10000000000000000000 : Nat) = 10 ^ 19 := by decide
  rw [e, dec_mod, dec_mod, show (39 : Nat) = 20 + 19 from rfl, dec_add 20 19, show (20 : Nat) = 1 + 19 from rfl, dec_add 1 19]
theorem three_trim (a : Nat) (h : a < 340282366920938463463374607431768211456) : trimLeftB (dec 39 a) 48 = if a = 0 then [] else decDigits a :=
  dec_trim 39 a (Nat.lt_trans h (by decide))
end Go.Proofs.YtipbniaehhoaaaaDoor
