/- varint: number, scan, Read. -/
import Derived.Test.YtfablbhkmddnbaaDoorErx
import Derived.IntWalk
import Derived.Sort.Walk0
import Derived.Test.YtfablbhkmddnbaaDoorZin
import Derived.Laws.BitsLemmas
namespace Go.Proofs.YtfablbhkmddnbaaDoor
open Go.RowKit Go.Sort Go.Lib

theorem HasET.ext {w w' : World} (h : HasET w) (hx : Ext w w') : HasET w' := by
  have hlt := World.block_lt_of_cell? _ _ h
  unfold HasET
  rw [hx.cell hlt]; exact h
theorem HasET.chg {S : Nat → Prop} {w w' : World} (h : HasET w) (hx : Chg S w w') (hn : ¬ S 0) : HasET w' := by
  have hlt := World.block_lt_of_cell? _ _ h
  unfold HasET
  rw [hx.cell hlt hn]; exact h
theorem HasET.lt {w : World} (h : HasET w) : 0 < w.heap.size := World.block_lt_of_cell? _ _ h

/-! The document's reading of a number. -/
/-- The number of the bytes of a number. -/
def valL : List UInt8 → Nat
  | [] => 0
  | c :: l => c.toNat % 128 + 128 * valL l
theorem valL_lt (l : List UInt8) : valL l < 128 ^ l.length := by
  induction l with
  | nil => simp [valL]
  | cons c l ih =>
    simp only [valL, List.length_cons, Nat.pow_succ]
    have := Nat.mod_lt c.toNat (show 0 < 128 by omega)
    omega
theorem valL_snoc (l : List UInt8) (c : UInt8) : valL (l ++ [c]) = valL l + (c.toNat % 128) * 128 ^ l.length := by
  induction l with
  | nil => simp [valL]
  | cons d l ih =>
    simp only [List.cons_append, valL, ih, List.length_cons, Nat.pow_succ, Nat.mul_add]
    rw [Nat.mul_left_comm, Nat.mul_comm (128 ^ l.length) 128, Nat.add_assoc]
/-- How many bytes are followed by another. -/
def conts : List UInt8 → Nat
  | [] => 0
  | c :: l => if 128 ≤ c.toNat then conts l + 1 else 0
/-- What is read: the number, how many bytes it has, the error. -/
def varR (l : List UInt8) : Nat × Nat × Int :=
  if 10 ≤ conts l then (0, 0, 11)
  else match l[conts l]? with
    | none => (0, 0, 10)
    | some c => if (conts l = 9 ∧ 1 < c.toNat) ∨ (0 < conts l ∧ c.toNat = 0) then (0, 0, 11) else (valL (l.take (conts l + 1)), conts l + 1, 0)
theorem conts_of {l : List UInt8} {k : Nat} (h : ∀ i, i < k → ∃ c, l[i]? = some c ∧ 128 ≤ c.toNat) : k ≤ conts l ∧ (∀ c, l[k]? = some c → c.toNat < 128 → conts l = k) ∧ (l[k]? = none → conts l = k) := by
  induction k generalizing l with
  | zero =>
    refine ⟨Nat.zero_le _, fun c hc hlt => ?_, fun hn => ?_⟩
    · cases l with
      | nil => simp at hc
      | cons d l => simp at hc; subst hc; simp [conts]; omega
    · cases l with
      | nil => rfl
      | cons d l => simp at hn
  | succ k ih =>
    obtain ⟨c, hc, hge⟩ := h 0 (by omega)
    cases l with
    | nil => simp at hc
    | cons d l =>
      simp at hc; subst hc
      obtain ⟨h1, h2, h3⟩ := ih (l := l) (fun i hi => by simpa using h (i + 1) (by omega))
      simp only [conts, if_pos hge, List.getElem?_cons_succ]
      exact ⟨by omega, fun c hc hlt => by rw [h2 c hc hlt], fun hn => by rw [h3 hn]⟩
end Go.Proofs.YtfablbhkmddnbaaDoor

/-! varint: scan. -/

namespace Go.Proofs.YtfablbhkmddnbaaDoor
open Go.RowKit Go.Sort Go.Lib

theorem ret3 {a a' b b' : Int} (h : a = a') (h' : b = b') : Ending.returned (.tuple #[.int .u64 a, .int .i64 b, .nilIface]) = .returned (.tuple #[.int .u64 a', .int .i64 b', .nilIface]) := by rw [h, h']

theorem varR_big {l : List UInt8} (h : 10 ≤ conts l) : varR l = (0, 0, 11) := by unfold varR; rw [if_pos h]
theorem varR_end {l : List UInt8} {k : Nat} (h : conts l = k) (hk : k < 10) (hn : l[k]? = none) : varR l = (0, 0, 10) := by
  subst h; unfold varR; rw [if_neg (by omega), hn]
theorem varR_bad {l : List UInt8} {k : Nat} {c : UInt8} (h : conts l = k) (hk : k < 10) (hc : l[k]? = some c) (hb : (k = 9 ∧ 1 < c.toNat) ∨ (0 < k ∧ c.toNat = 0)) : varR l = (0, 0, 11) := by
  subst h; unfold varR; rw [if_neg (by omega), hc]; simp only; rw [if_pos hb]
theorem varR_ok {l : List UInt8} {k : Nat} {c : UInt8} (h : conts l = k) (hk : k < 10) (hc : l[k]? = some c) (hb : ¬ ((k = 9 ∧ 1 < c.toNat) ∨ (0 < k ∧ c.toNat = 0))) : varR l = (valL (l.take (k + 1)), k + 1, 0) := by
  subst h; unfold varR; rw [if_neg (by omega), hc]; simp only; rw [if_neg hb]

theorem u8_and127 (x : UInt8) : bits .and .u8 (x.toNat : Int) 127 = ((x.toNat % 128 : Nat) : Int) := by
  have h : (BitVec.ofInt 8 127).toNat = 2 ^ 7 - 1 := by decide
  have hx := x.toNat_lt
  have key : (BitVec.ofInt 8 (x.toNat : Int) &&& BitVec.ofInt 8 127).toNat = x.toNat % 2 ^ 7 := by
    rw [BitVec.toNat_and, h, Nat.and_two_pow_sub_one_eq_mod, BitVec.toNat_ofInt]
    congr 1
    omega
  show IntKind.u8.wrap ((BitVec.ofInt 8 (x.toNat : Int) &&& BitVec.ofInt 8 127).toNat : Nat) = _
  rw [key, IntKind.wrap_u8]
  omega
theorem u64_or_nat (a b : Int) : ∃ c : Nat, bits .or .u64 a b = (c : Int) ∧ c < 18446744073709551616 := by
  refine ⟨((BitVec.ofInt 64 a ||| BitVec.ofInt 64 b).toNat), ?_, BitVec.isLt _⟩
  show IntKind.u64.wrap ((BitVec.ofInt 64 a ||| BitVec.ofInt 64 b).toNat : Nat) = _
  have := (BitVec.ofInt 64 a ||| BitVec.ofInt 64 b).isLt
  rw [IntKind.wrap_u64]
  omega
theorem scan_step {u k x : Nat} (hu : u < 128 ^ k) (hk : k ≤ 9) (hx : x < 128) (h9 : k = 9 → x ≤ 1) :
    bits .or .u64 (u : Int) (IntKind.u64.wrap ((x : Int) * 2 ^ (7 * k))) = ((u + x * 128 ^ k : Nat) : Int) := by
  have hp : (128 : Nat) ^ k = 2 ^ (7 * k) := by rw [show (128 : Nat) = 2 ^ 7 by rfl, ← Nat.pow_mul]
  have hb : x * 128 ^ k < 2 ^ 64 - 128 ^ k + 1 := by
    have : k = 0 ∨ k = 1 ∨ k = 2 ∨ k = 3 ∨ k = 4 ∨ k = 5 ∨ k = 6 ∨ k = 7 ∨ k = 8 ∨ k = 9 := by omega
    rcases this with rfl | rfl | rfl | rfl | rfl | rfl | rfl | rfl | rfl | rfl <;> omega
  have hpos : 0 < 128 ^ k := Nat.pow_pos (by omega)
  have hlt : u + x * 128 ^ k < 2 ^ 64 := by
    have : (128 : Nat) ^ k ≤ 2 ^ 64 := by rw [hp]; exact Nat.pow_le_pow_right (by omega) (by omega)
    omega
  have e2 : ((x : Int) * 2 ^ (7 * k)) = ((x * 128 ^ k : Nat) : Int) := by rw [hp]; simp
  rw [e2]
  have e3 : IntKind.u64.wrap (((x * 128 ^ k : Nat)) : Int) = ((x * 128 ^ k : Nat) : Int) := by rw [IntKind.wrap_u64]; omega
  rw [e3]
  have key : (BitVec.ofInt 64 (u : Int) ||| BitVec.ofInt 64 ((x * 128 ^ k : Nat) : Int)).toNat = u + x * 128 ^ k := by
    rw [BitVec.toNat_or, BitVec.toNat_ofInt, BitVec.toNat_ofInt]
    have a1 : ((u : Int) % ((2 ^ 64 : Nat) : Int)).toNat = u := by omega
    have a2 : (((x * 128 ^ k : Nat) : Int) % ((2 ^ 64 : Nat) : Int)).toNat = x * 128 ^ k := by omega
    rw [a1, a2, Nat.or_comm, hp, Nat.mul_comm, ← Nat.two_pow_add_eq_or_of_lt (by rw [← hp]; exact hu)]
    omega
  show IntKind.u64.wrap ((BitVec.ofInt 64 (u : Int) ||| BitVec.ofInt 64 ((x * 128 ^ k : Nat) : Int)).toNat : Nat) = _
  rw [key, IntKind.wrap_u64]
  omega

end Go.Proofs.YtfablbhkmddnbaaDoor
