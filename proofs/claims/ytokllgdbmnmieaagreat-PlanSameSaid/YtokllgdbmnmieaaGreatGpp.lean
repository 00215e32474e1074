/- Plain laws on worlds: 'Ext w w'': all that was there is as it was; and how it goes on. -/
import Derived.Below
import Derived.Lib.Hide
import Derived.Lib.QuietBelow
import Derived.Laws.BitsLemmas
namespace Go.Proofs.YtokllgdbmnmieaaGreat
open Go.RowKit Go.Sort

/-- Nothing that was there has turned; blocks may have come. -/
def Ext (w w' : World) : Prop := Below w.heap.size w w'

theorem Ext.below {w w' : World} (h : Ext w w') : Below w.heap.size w w' := h
theorem Ext.refl (w : World) : Ext w w := Below.refl _ _
theorem Ext.size {w w' : World} (h : Ext w w') : w.heap.size ≤ w'.heap.size := Below.size h
theorem Ext.trans {a b c : World} (h : Ext a b) (k : Ext b c) : Ext a c := Below.trans h (Below.mono k (Below.size h))
theorem Ext.alloc {a w : World} (h : Ext a w) (o : Obj) : Ext a (w.alloc o) := Below.alloc h (Below.size h) o
theorem Ext.drew {a w : World} (h : Ext a w) : Ext a w.drew := Below.drew h
theorem Ext.setCell {a w : World} (h : Ext a w) {p : Addr} (hp : a.heap.size ≤ p.block) (u : Value) : Ext a (w.setCell p u) := Below.setCell h hp u
theorem Ext.cells {w w' : World} (h : Ext w w') : ∀ b o, b < w.heap.size → w'.cell? ⟨b, o, none⟩ = w.cell? ⟨b, o, none⟩ := fun b o hb => Below.cell h (p := ⟨b, o, none⟩) hb
theorem Ext.frozens {w w' : World} (h : Ext w w') : ∀ b o, b < w.heap.size → w'.frozen? ⟨b, o, none⟩ = w.frozen? ⟨b, o, none⟩ := fun b o hb => Below.frozen h (p := ⟨b, o, none⟩) hb
theorem Ext.cell {w w' : World} (h : Ext w w') {p : Addr} (hp : p.block < w.heap.size) : w'.cell? p = w.cell? p := Below.cell h hp
theorem Ext.block {w w' : World} (h : Ext w w') {k : Nat} (hk : k < w.heap.size) : w'.heap[k]? = w.heap[k]? := Below.block h k hk

theorem Ext.regrown (w : World) (d : Nat) (os : Array Obj) : Ext w (grow (redrawn w d) os) := below_regrown w d os
/-- A callee's contract that ends in 'Ext', met in a world of the class. -/
theorem Calls.grown_of {P : Program} {f : FuncId} {args : Array Value} {w : World} {d : Nat} {os : Array Obj} {v : Value}
    (h : Calls P f args (grow (redrawn w d) os) fun e w' => e = .returned v ∧ Ext (grow (redrawn w d) os) w') : Calls P f args (grow (redrawn w d) os) fun e w'' => e = .returned v ∧ ∃ p : Regrown, w'' = grow (redrawn w p.d) p.os :=
  Calls.regrown_of h
theorem Calls.grown_of_same {P : Program} {f : FuncId} {args : Array Value} {w : World} {d : Nat} {os : Array Obj} {v : Value}
    (h : Calls P f args (grow (redrawn w d) os) fun e w' => e = .returned v ∧ grow (redrawn w d) os = w') : Calls P f args (grow (redrawn w d) os) fun e w'' => e = .returned v ∧ ∃ p : Regrown, w'' = grow (redrawn w p.d) p.os :=
  h.mono fun _ _ ⟨he, hw⟩ => ⟨he, ⟨d, os⟩, hw.symm⟩

/-! 'x & mask' on an int. -/
theorem i64_and3 (n : Int) : bits .and .i64 n 3 = n % 4 := by
  have h : (BitVec.ofInt 64 3).toNat = 2 ^ 2 - 1 := by decide
  have key : (BitVec.ofInt 64 n &&& BitVec.ofInt 64 3).toNat = (n % ((2 ^ 64 : Nat) : Int)).toNat % 2 ^ 2 := by
    rw [BitVec.toNat_and, BitVec.toNat_ofInt, h, Nat.and_two_pow_sub_one_eq_mod]
  show IntKind.i64.wrap ((BitVec.ofInt 64 n &&& BitVec.ofInt 64 3).toNat : Nat) = n % 4
  rw [key, IntKind.wrap_i64]
  omega
theorem i64_and7 (n : Int) : bits .and .i64 n 7 = n % 8 := by
  have h : (BitVec.ofInt 64 7).toNat = 2 ^ 3 - 1 := by decide
  have key : (BitVec.ofInt 64 n &&& BitVec.ofInt 64 7).toNat = (n % ((2 ^ 64 : Nat) : Int)).toNat % 2 ^ 3 := by
    rw [BitVec.toNat_and, BitVec.toNat_ofInt, h, Nat.and_two_pow_sub_one_eq_mod]
  show IntKind.i64.wrap ((BitVec.ofInt 64 n &&& BitVec.ofInt 64 7).toNat : Nat) = n % 8
  rw [key, IntKind.wrap_i64]
  omega
theorem i64_and15 (n : Int) : bits .and .i64 n 15 = n % 16 := by
  have h : (BitVec.ofInt 64 15).toNat = 2 ^ 4 - 1 := by decide
  have key : (BitVec.ofInt 64 n &&& BitVec.ofInt 64 15).toNat = (n % ((2 ^ 64 : Nat) : Int)).toNat % 2 ^ 4 := by
    rw [BitVec.toNat_and, BitVec.toNat_ofInt, h, Nat.and_two_pow_sub_one_eq_mod]
  show IntKind.i64.wrap ((BitVec.ofInt 64 n &&& BitVec.ofInt 64 15).toNat : Nat) = n % 16
  rw [key, IntKind.wrap_i64]
  omega
theorem i64_and31 (n : Int) : bits .and .i64 n 31 = n % 32 := by
  have h : (BitVec.ofInt 64 31).toNat = 2 ^ 5 - 1 := by decide
  have key : (BitVec.ofInt 64 n &&& BitVec.ofInt 64 31).toNat = (n % ((2 ^ 64 : Nat) : Int)).toNat % 2 ^ 5 := by
    rw [BitVec.toNat_and, BitVec.toNat_ofInt, h, Nat.and_two_pow_sub_one_eq_mod]
  show IntKind.i64.wrap ((BitVec.ofInt 64 n &&& BitVec.ofInt 64 31).toNat : Nat) = n % 32
  rw [key, IntKind.wrap_i64]
  omega
theorem i64_and127 (n : Int) : bits .and .i64 n 127 = n % 128 := by
  have h : (BitVec.ofInt 64 127).toNat = 2 ^ 7 - 1 := by decide
  have key : (BitVec.ofInt 64 n &&& BitVec.ofInt 64 127).toNat = (n % ((2 ^ 64 : Nat) : Int)).toNat % 2 ^ 7 := by
    rw [BitVec.toNat_and, BitVec.toNat_ofInt, h, Nat.and_two_pow_sub_one_eq_mod]
  show IntKind.i64.wrap ((BitVec.ofInt 64 n &&& BitVec.ofInt 64 127).toNat : Nat) = n % 128
  rw [key, IntKind.wrap_i64]
  omega
theorem i64_and511 (n : Int) : bits .and .i64 n 511 = n % 512 := by
  have h : (BitVec.ofInt 64 511).toNat = 2 ^ 9 - 1 := by decide
  have key : (BitVec.ofInt 64 n &&& BitVec.ofInt 64 511).toNat = (n % ((2 ^ 64 : Nat) : Int)).toNat % 2 ^ 9 := by
    rw [BitVec.toNat_and, BitVec.toNat_ofInt, h, Nat.and_two_pow_sub_one_eq_mod]
  show IntKind.i64.wrap ((BitVec.ofInt 64 n &&& BitVec.ofInt 64 511).toNat : Nat) = n % 512
  rw [key, IntKind.wrap_i64]
  omega

end Go.Proofs.YtokllgdbmnmieaaGreat

/-! Plain: rows, and what stands in windows that have none. -/

namespace Go.Proofs.YtokllgdbmnmieaaGreat
open Go.RowKit Go.Lib Go.Sort

/-- A row. -/
structure Rw where
  lo : Int
  hi : Int
  v : Int
  nul : Bool
def rwc (r : Rw) : List Value := [.int .i64 r.lo, .int .i64 r.hi, .bool r.nul, .int .i64 (r.v / 18446744073709551616), .int .u64 (r.v % 18446744073709551616)]
theorem rwc_len (r : Rw) : (rwc r).length = 5 := rfl
theorem rwc_one (r : Rw) : ∀ u ∈ rwc r, u.oneCell' = true := by
  intro u hu
  simp [rwc] at hu
  rcases hu with rfl | rfl | rfl | rfl | rfl <;> rfl
def rws (l : List Rw) : List Value := l.flatMap rwc
theorem rws_append (a b : List Rw) : rws (a ++ b) = rws a ++ rws b := by simp [rws]
theorem rws_one (l : List Rw) : ∀ u ∈ rws l, u.oneCell' = true := by
  intro u hu
  simp only [rws, List.mem_flatMap] at hu
  obtain ⟨r, _, h⟩ := hu
  exact rwc_one r u h

/-- How many rows begin ahead of a time. -/
def nx (R : List Rw) (z : Int) : Nat := (R.filter (fun r => decide (r.lo < z))).length
theorem nx_le (R : List Rw) (z : Int) : nx R z ≤ R.length := List.length_filter_le _ _
theorem nx_parts : ∀ {R : List Rw}, R.Pairwise (fun a b => a.lo < b.lo) → ∀ (z : Int) (j : Nat) (r : Rw), R[j]? = some r → (j < nx R z → r.lo < z) ∧ (nx R z ≤ j → z ≤ r.lo)
  | [], _, _, _, _, h => by simp at h
  | x :: R, hp, z, j, r, h => by
    rw [List.pairwise_cons] at hp
    by_cases hx : x.lo < z
    · have e : nx (x :: R) z = nx R z + 1 := by unfold nx; rw [List.filter_cons_of_pos (by simpa using hx)]; rfl
      rw [e]
      cases j with
      | zero => simp at h; subst h; exact ⟨fun _ => hx, fun h => by omega⟩
      | succ j =>
        have ih := nx_parts hp.2 z j r (by simpa using h)
        exact ⟨fun h => ih.1 (by omega), fun h => ih.2 (by omega)⟩
    · have hall : ∀ y ∈ R, z ≤ y.lo := fun y hy => by have := hp.1 y hy; omega
      have e : nx (x :: R) z = 0 := by
        unfold nx
        rw [List.filter_cons_of_neg (by simpa using hx), List.filter_eq_nil_iff.2 (fun y hy => by have := hall y hy; simp; omega)]
        rfl
      rw [e]
      refine ⟨fun h => by omega, fun _ => ?_⟩
      cases j with
      | zero => simp at h; subst h; omega
      | succ j => exact hall r (List.mem_of_getElem? (by simpa using h))
/-- One window on. -/
theorem nx_step {R : List Rw} (hp : R.Pairwise (fun a b => a.lo < b.lo)) {z st : Int} (hs : 1 ≤ st) (hk : ∀ r ∈ R, z ≤ r.lo → r.lo = z ∨ z + st ≤ r.lo) :
    nx R (z + st) = match R[nx R z]? with | some r => if r.lo = z then nx R z + 1 else nx R z | none => nx R z := by
  have key : ∀ n, (∀ j r, R[j]? = some r → (j < n → r.lo < z + st) ∧ (n ≤ j → z + st ≤ r.lo)) → n ≤ R.length → nx R (z + st) = n := fun n h hn => by
    rcases Nat.lt_trichotomy (nx R (z + st)) n with h1 | h1 | h1
    · obtain ⟨r, hr⟩ : ∃ r, R[nx R (z + st)]? = some r := ⟨_, List.getElem?_eq_getElem (by omega)⟩
      have a := (nx_parts hp (z + st) _ r hr).2 (Nat.le_refl _)
      have b := (h _ r hr).1 h1
      omega
    · exact h1
    · obtain ⟨r, hr⟩ : ∃ r, R[n]? = some r := ⟨_, List.getElem?_eq_getElem (by have := nx_le R (z + st); omega)⟩
      have a := (nx_parts hp (z + st) _ r hr).1 h1
      have b := (h _ r hr).2 (Nat.le_refl _)
      omega
  have hnl := nx_le R z
  cases hr : R[nx R z]? with
  | none =>
    have hlen : R.length ≤ nx R z := List.getElem?_eq_none_iff.1 hr
    show nx R (z + st) = nx R z
    refine key _ (fun j r hj => ?_) hnl
    obtain ⟨hj1, _⟩ := List.getElem?_eq_some_iff.1 hj
    exact ⟨fun h => by have := (nx_parts hp z j r hj).1 h; omega, fun h => by omega⟩
  | some q =>
    obtain ⟨hq1, _⟩ := List.getElem?_eq_some_iff.1 hr
    have hqz := (nx_parts hp z _ q hr).2 (Nat.le_refl _)
    have hlt : ∀ i j (a b : Rw), i < j → R[i]? = some a → R[j]? = some b → a.lo < b.lo := fun i j a b hij ha hb => by
      obtain ⟨i1, e1⟩ := List.getElem?_eq_some_iff.1 ha
      obtain ⟨i2, e2⟩ := List.getElem?_eq_some_iff.1 hb
      have := List.pairwise_iff_getElem.1 hp i j i1 i2 hij
      rw [e1, e2] at this
      exact this
    simp only
    split
    · rename_i hqe
      refine key _ (fun j r hj => ⟨fun h => ?_, fun h => ?_⟩) (by omega)
      · rcases Nat.lt_or_ge j (nx R z) with h2 | h2
        · have := (nx_parts hp z j r hj).1 h2; omega
        · obtain rfl : j = nx R z := by omega
          rw [hr] at hj; cases hj; omega
      · have h3 := hlt _ _ q r (show nx R z < j by omega) hr hj
        rcases hk r (List.mem_of_getElem? hj) (by omega) with h4 | h4 <;> omega
    · rename_i hqe
      refine key _ (fun j r hj => ⟨fun h => ?_, fun h => ?_⟩) hnl
      · have := (nx_parts hp z j r hj).1 h; omega
      · have h5 := (nx_parts hp z j r hj).2 h
        have h6 : q.lo ≤ r.lo := by
          rcases Nat.lt_or_ge (nx R z) j with h7 | h7
          · have := hlt _ _ q r h7 hr hj; omega
          · obtain rfl : j = nx R z := by omega
            rw [hr] at hj; cases hj; omega
        rcases hk q (List.mem_of_getElem? hr) hqz with h4 | h4 <;> omega

/-- The value on the line between two rows. -/
def lineV (p n : Rw) (at' : Int) : Int := p.v + (n.v - p.v) * (at' - p.lo) / (n.lo - p.lo)
def nullR (w : Int × Int) : Rw := ⟨w.1, w.2, 0, true⟩
/-- What stands in a window without a row. -/
def holeR (how : Int) (p n : Option Rw) (w : Int × Int) : Rw :=
  if how = 2 then (match p with | some r => ⟨w.1, w.2, r.v, false⟩ | none => nullR w)
  else if how = 3 then (match p, n with | some r, some s => ⟨w.1, w.2, lineV r s w.1, false⟩ | _, _ => nullR w)
  else nullR w
/-- The row ahead of the k-th one. -/
def prevR (R : List Rw) (k : Nat) : Option Rw := if k = 0 then none else R[k - 1]?
def fillAt (how : Int) (R : List Rw) (w : Int × Int) : Rw :=
  match R[nx R w.1]? with
  | some r => if r.lo = w.1 then r else holeR how (prevR R (nx R w.1)) (some r) w
  | none => holeR how (prevR R (nx R w.1)) none w
/-- All windows. -/
def fillL (how : Int) (ws : List (Int × Int)) (R : List Rw) : List Rw := if how = 0 then R else ws.map (fillAt how R)
end Go.Proofs.YtokllgdbmnmieaaGreat
