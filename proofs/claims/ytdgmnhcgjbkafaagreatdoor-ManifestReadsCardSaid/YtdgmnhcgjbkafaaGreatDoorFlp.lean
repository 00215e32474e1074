/- Bits of bytes that are turned: plain. -/
import Derived.Test.YtdgmnhcgjbkafaaGreatDoorU8
import Derived.Test.YtdgmnhcgjbkafaaGreatDoorBase
namespace Go.Proofs.YtdgmnhcgjbkafaaGreatDoor
open Go.RowKit Go.Sort Go.Lib

/-- The i-th bit of a number. -/
def bitN (b i : Nat) : Nat := b / 2 ^ i % 2
theorem bitN_lt (b i : Nat) : bitN b i < 2 := Nat.mod_lt _ (by decide)
def flipB (b p i : Nat) (x : UInt8) : UInt8 := x ^^^ UInt8.ofNat (bitN b i * 2 ^ ((p + i) % 8))
def flipStep (b p : Nat) (bs : List UInt8) (i : Nat) : List UInt8 := bs.set ((p + i) / 8) (flipB b p i (bs.getD ((p + i) / 8) 0))
def flipTo (b p : Nat) (bs : List UInt8) : Nat → List UInt8
  | 0 => bs
  | i + 1 => flipStep b p (flipTo b p bs i) i
/-- The bytes, of which from bit p on the bits of b are turned. -/
def flipL (b p : Nat) (bs : List UInt8) : List UInt8 := flipTo b p bs (min 32 (8 * bs.length - p))
theorem flipStep_len (b p : Nat) (bs : List UInt8) (i : Nat) : (flipStep b p bs i).length = bs.length := by simp [flipStep]
theorem flipTo_len (b p : Nat) (bs : List UInt8) : ∀ i, (flipTo b p bs i).length = bs.length
  | 0 => rfl
  | i + 1 => by rw [flipTo, flipStep_len, flipTo_len b p bs i]
theorem flipL_len (b p : Nat) (bs : List UInt8) : (flipL b p bs).length = bs.length := flipTo_len _ _ _ _
theorem flipStep_zero {b p : Nat} {bs : List UInt8} {i : Nat} (h : bitN b i = 0) : flipStep b p bs i = bs := by
  unfold flipStep flipB
  rw [h, Nat.zero_mul]
  have : ∀ x : UInt8, x ^^^ UInt8.ofNat 0 = x := fun x => by simp
  rw [this]
  by_cases hl : (p + i) / 8 < bs.length
  · rw [List.getD_eq_getElem?_getD, List.getElem?_eq_getElem hl, Option.getD_some, List.set_getElem_self]
  · rw [List.set_eq_of_length_le (by omega)]

theorem u32_bit (b i : Nat) (h : b < 4294967296) : bits .and .u32 ((b : Int) / 2 ^ i) 1 = (bitN b i : Nat) := by
  have e : (b : Int) / 2 ^ i = ((b / 2 ^ i : Nat) : Int) := by push_cast; rfl
  have hlt : b / 2 ^ i < 4294967296 := Nat.lt_of_le_of_lt (Nat.div_le_self _ _) h
  rw [e]
  have h1 : (BitVec.ofInt 32 1).toNat = 2 ^ 1 - 1 := by decide
  show IntKind.u32.wrap ((BitVec.ofInt 32 ((b / 2 ^ i : Nat) : Int) &&& BitVec.ofInt 32 1).toNat : Nat) = _
  rw [BitVec.toNat_and, h1, Nat.and_two_pow_sub_one_eq_mod, BitVec.toNat_ofInt, IntKind.wrap_u32]
  unfold bitN
  omega
theorem u8_xor (a c : Nat) (ha : a < 256) (hc : c < 256) : bits .xor .u8 (a : Int) (c : Int) = ((a ^^^ c : Nat) : Int) := by
  show IntKind.u8.wrap ((BitVec.ofInt 8 (a : Int) ^^^ BitVec.ofInt 8 (c : Int)).toNat : Nat) = _
  rw [BitVec.toNat_xor, BitVec.toNat_ofInt, BitVec.toNat_ofInt]
  have e1 : ((a : Int) % ((2 ^ 8 : Nat) : Int)).toNat = a := by omega
  have e2 : ((c : Int) % ((2 ^ 8 : Nat) : Int)).toNat = c := by omega
  rw [e1, e2, IntKind.wrap_u8]
  have : a ^^^ c < 2 ^ 8 := Nat.xor_lt_two_pow (by omega) (by omega)
  omega
theorem flipB_toNat (b p i : Nat) (x : UInt8) : (flipB b p i x).toNat = x.toNat ^^^ (bitN b i * 2 ^ ((p + i) % 8)) := by
  unfold flipB
  rw [UInt8.toNat_xor, UInt8.toNat_ofNat']
  have h1 := bitN_lt b i
  have h2 : (p + i) % 8 < 8 := Nat.mod_lt _ (by decide)
  have h3 : 2 ^ ((p + i) % 8) < 256 := by
    have := Nat.pow_lt_pow_right (a := 2) (by decide) h2
    omega
  congr 1
  apply Nat.mod_eq_of_lt
  have : bitN b i = 0 ∨ bitN b i = 1 := by omega
  rcases this with e | e <;> rw [e] <;> omega
theorem pow8_lt (n : Nat) : 2 ^ (n % 8) < 256 := by
  have := Nat.pow_lt_pow_right (a := 2) (by decide) (Nat.mod_lt n (show 8 > 0 by decide))
  omega
end Go.Proofs.YtdgmnhcgjbkafaaGreatDoor
