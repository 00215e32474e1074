/- varint: number, scan, Read. -/
import Derived.Test.YtdgmnhcgjbkafaaGreatDoorErs
import Derived.IntWalk
import Derived.Sort.Walk0
import Derived.Test.YtdgmnhcgjbkafaaGreatDoorU8
import Derived.Laws.BitsLemmas
import Derived.Test.YtdgmnhcgjbkafaaGreatDoorCut
import Derived.Laws.BytesArg
import Derived.Laws.IdiomStrings
import Derived.Lib.AppendStr
namespace Go.Proofs.YtdgmnhcgjbkafaaGreatDoor
open Go.RowKit Go.Sort Go.Lib

theorem HasET.ext {w w' : World} (h : HasET w) (hx : Ext w w') : HasET w' := by
  have hlt := World.block_lt_of_cell? _ _ h
  unfold HasET
  rw [hx.cell hlt]; exact h
theorem HasET.chg {S : Nat → Prop} {w w' : World} (h : HasET w) (hx : Chg S w w') (hn : ¬ S 0) : HasET w' := by
  have hlt := World.block_lt_of_cell? _ _ h
  unfold HasET
  rw [hx.cell hlt hn]; exact h
theorem HasET.lt {w : World} (h : HasET w) : 0 < w.heap.size := World.block_lt_of_cell? _ _ h

theorem number_nil (w : World) : Calls Tryz.prog 70 #[.nilIface] w fun e w' => e = .returned (.int .i64 0) ∧ Ext w w' := by
  go_enter Tryz.func70, Tryz.ntmps70
  go_wp2_with (first
    | (go_at_call 77; refine (is_nil _ _).mono ?_; rintro e w' ⟨rfl, rfl⟩)
    | (go_at_call 78; refine (as_nil _ _).mono ?_; rintro e w' ⟨rfl, rfl⟩))
  go_ret
  exact ⟨rfl, (Ext.refl w).alloc _⟩

theorem number_fault (x y : Int) (hy : y = 10 ∨ y = 11) (w : World) (hg : HasET w) : Calls Tryz.prog 70 #[.iface 125 (.agg #[.int .i64 x, .int .i64 y])] w fun e w' => e = .returned (.int .i64 y) ∧ Ext w w' := by
  have HG := Lib.hid hg
  clear hg
  rcases hy with rfl | rfl
  · go_enter Tryz.func70, Tryz.ntmps70
    go_wp2_with fail
    refine (is_fault x 10 (.inl rfl) _).mono ?_
    rintro e w1 ⟨rfl, hx⟩
    go_wp2_with fail
    go_ret
    exact ⟨rfl, ((Ext.refl w).alloc _).trans hx⟩
  · go_enter Tryz.func70, Tryz.ntmps70
    go_wp2_with fail
    refine (is_fault x 11 (.inr rfl) _).mono ?_
    rintro e w1 ⟨rfl, hx⟩
    have HX := Lib.hid hx
    have HB : Hid (w1.heap[w.heap.size]? = some (.cells #[.int .i64 0, .int .i64 0] 125 (0, 0))) := Lib.hid ((hx.block (by simp)).trans (heap_alloc_new w _))
    clear hx
    go_wp2_with fail
    refine (as_hit x 11 w.heap.size _ _ w1 (HG.out.ext (((Ext.refl w).alloc _).trans HX.out)) HB.out).mono ?_
    rintro e w2 ⟨rfl, ha⟩
    have c1 : w2.cell? ⟨w.heap.size, 1, none⟩ = some (.int .i64 11) := by have := cell_of_block ha.blk 1; simpa using this
    have HA := Lib.hid ha.chg
    clear ha
    go_wp2_with fail
    go_ret
    exact ⟨rfl, ((Chg.of_ext (S := fun b => b = w.heap.size) (((Ext.refl w).alloc _).trans HX.out)).trans HA.out (fun _ _ e => e)).ext (fun i hi e => by omega)⟩

/-! The document's reading of a number. -/
/-- The number of the bytes of a number. -/
def valL : List UInt8 → Nat
  | [] => 0
  | c :: l => c.toNat % 128 + 128 * valL l
theorem valL_lt (l : List UInt8) : valL l < 128 ^ l.length := by
  induction l with
  | nil => simp [valL]
  | cons c l ih =>
    simp only [valL, List.length_cons, Nat.pow_succ]
    have := Nat.mod_lt c.toNat (show 0 < 128 by omega)
    omega
theorem valL_snoc (l : List UInt8) (c : UInt8) : valL (l ++ [c]) = valL l + (c.toNat % 128) * 128 ^ l.length := by
  induction l with
  | nil => simp [valL]
  | cons d l ih =>
    simp only [List.cons_append, valL, ih, List.length_cons, Nat.pow_succ, Nat.mul_add]
    rw [Nat.mul_left_comm, Nat.mul_comm (128 ^ l.length) 128, Nat.add_assoc]
/-- How many bytes are followed by another. -/
def conts : List UInt8 → Nat
  | [] => 0
  | c :: l => if 128 ≤ c.toNat then conts l + 1 else 0
/-- What is read: the number, how many bytes it has, the error. -/
def varR (l : List UInt8) : Nat × Nat × Int :=
  if 10 ≤ conts l then (0, 0, 11)
  else match l[conts l]? with
    | none => (0, 0, 10)
    | some c => if (conts l = 9 ∧ 1 < c.toNat) ∨ (0 < conts l ∧ c.toNat = 0) then (0, 0, 11) else (valL (l.take (conts l + 1)), conts l + 1, 0)
theorem conts_of {l : List UInt8} {k : Nat} (h : ∀ i, i < k → ∃ c, l[i]? = some c ∧ 128 ≤ c.toNat) : k ≤ conts l ∧ (∀ c, l[k]? = some c → c.toNat < 128 → conts l = k) ∧ (l[k]? = none → conts l = k) := by
  induction k generalizing l with
  | zero =>
    refine ⟨Nat.zero_le _, fun c hc hlt => ?_, fun hn => ?_⟩
    · cases l with
      | nil => simp at hc
      | cons d l => simp at hc; subst hc; simp [conts]; omega
    · cases l with
      | nil => rfl
      | cons d l => simp at hn
  | succ k ih =>
    obtain ⟨c, hc, hge⟩ := h 0 (by omega)
    cases l with
    | nil => simp at hc
    | cons d l =>
      simp at hc; subst hc
      obtain ⟨h1, h2, h3⟩ := ih (l := l) (fun i hi => by simpa using h (i + 1) (by omega))
      simp only [conts, if_pos hge, List.getElem?_cons_succ]
      exact ⟨by omega, fun c hc hlt => by rw [h2 c hc hlt], fun hn => by rw [h3 hn]⟩
end Go.Proofs.YtdgmnhcgjbkafaaGreatDoor

/-! varint: scan. -/

namespace Go.Proofs.YtdgmnhcgjbkafaaGreatDoor
open Go.RowKit Go.Sort Go.Lib

theorem ret3 {a a' b b' : Int} (h : a = a') (h' : b = b') : Ending.returned (.tuple #[.int .u64 a, .int .i64 b, .nilIface]) = .returned (.tuple #[.int .u64 a', .int .i64 b', .nilIface]) := by rw [h, h']

/-- The error that scan hands back. -/
def errOf (x e : Int) : Value := if e = 0 then .nilIface else .iface 125 (.agg #[.int .i64 x, .int .i64 e])

theorem varR_big {l : List UInt8} (h : 10 ≤ conts l) : varR l = (0, 0, 11) := by unfold varR; rw [if_pos h]
theorem varR_end {l : List UInt8} {k : Nat} (h : conts l = k) (hk : k < 10) (hn : l[k]? = none) : varR l = (0, 0, 10) := by
  subst h; unfold varR; rw [if_neg (by omega), hn]
theorem varR_bad {l : List UInt8} {k : Nat} {c : UInt8} (h : conts l = k) (hk : k < 10) (hc : l[k]? = some c) (hb : (k = 9 ∧ 1 < c.toNat) ∨ (0 < k ∧ c.toNat = 0)) : varR l = (0, 0, 11) := by
  subst h; unfold varR; rw [if_neg (by omega), hc]; simp only; rw [if_pos hb]
theorem varR_ok {l : List UInt8} {k : Nat} {c : UInt8} (h : conts l = k) (hk : k < 10) (hc : l[k]? = some c) (hb : ¬ ((k = 9 ∧ 1 < c.toNat) ∨ (0 < k ∧ c.toNat = 0))) : varR l = (valL (l.take (k + 1)), k + 1, 0) := by
  subst h; unfold varR; rw [if_neg (by omega), hc]; simp only; rw [if_neg hb]

theorem u8_and127 (x : UInt8) : bits .and .u8 (x.toNat : Int) 127 = ((x.toNat % 128 : Nat) : Int) := by
  have h : (BitVec.ofInt 8 127).toNat = 2 ^ 7 - 1 := by decide
  have hx := x.toNat_lt
  have key : (BitVec.ofInt 8 (x.toNat : Int) &&& BitVec.ofInt 8 127).toNat = x.toNat % 2 ^ 7 := by
    rw [BitVec.toNat_and, h, Nat.and_two_pow_sub_one_eq_mod, BitVec.toNat_ofInt]
    congr 1
    omega
  show IntKind.u8.wrap ((BitVec.ofInt 8 (x.toNat : Int) &&& BitVec.ofInt 8 127).toNat : Nat) = _
  rw [key, IntKind.wrap_u8]
  omega
theorem u64_or_nat (a b : Int) : ∃ c : Nat, bits .or .u64 a b = (c : Int) ∧ c < 18446744073709551616 := by
  refine ⟨((BitVec.ofInt 64 a ||| BitVec.ofInt 64 b).toNat), ?_, BitVec.isLt _⟩
  show IntKind.u64.wrap ((BitVec.ofInt 64 a ||| BitVec.ofInt 64 b).toNat : Nat) = _
  have := (BitVec.ofInt 64 a ||| BitVec.ofInt 64 b).isLt
  rw [IntKind.wrap_u64]
  omega
theorem scan_step {u k x : Nat} (hu : u < 128 ^ k) (hk : k ≤ 9) (hx : x < 128) (h9 : k = 9 → x ≤ 1) :
    bits .or .u64 (u : Int) (IntKind.u64.wrap ((x : Int) * 2 ^ (7 * k))) = ((u + x * 128 ^ k : Nat) : Int) := by
  have hp : (128 : Nat) ^ k = 2 ^ (7 * k) := by rw [show (128 : Nat) = 2 ^ 7 by rfl, ← Nat.pow_mul]
  have hb : x * 128 ^ k < 2 ^ 64 - 128 ^ k + 1 := by
    have : k = 0 ∨ k = 1 ∨ k = 2 ∨ k = 3 ∨ k = 4 ∨ k = 5 ∨ k = 6 ∨ k = 7 ∨ k = 8 ∨ k = 9 := by omega
    rcases this with rfl | rfl | rfl | rfl | rfl | rfl | rfl | rfl | rfl | rfl <;> omega
  have hpos : 0 < 128 ^ k := Nat.pow_pos (by omega)
  have hlt : u + x * 128 ^ k < 2 ^ 64 := by
    have : (128 : Nat) ^ k ≤ 2 ^ 64 := by rw [hp]; exact Nat.pow_le_pow_right (by omega) (by omega)
    omega
  have e2 : ((x : Int) * 2 ^ (7 * k)) = ((x * 128 ^ k : Nat) : Int) := by rw [hp]; simp
  rw [e2]
  have e3 : IntKind.u64.wrap (((x * 128 ^ k : Nat)) : Int) = ((x * 128 ^ k : Nat) : Int) := by rw [IntKind.wrap_u64]; omega
  rw [e3]
  have key : (BitVec.ofInt 64 (u : Int) ||| BitVec.ofInt 64 ((x * 128 ^ k : Nat) : Int)).toNat = u + x * 128 ^ k := by
    rw [BitVec.toNat_or, BitVec.toNat_ofInt, BitVec.toNat_ofInt]
    have a1 : ((u : Int) % ((2 ^ 64 : Nat) : Int)).toNat = u := by omega
    have a2 : (((x * 128 ^ k : Nat) : Int) % ((2 ^ 64 : Nat) : Int)).toNat = x * 128 ^ k := by omega
    rw [a1, a2, Nat.or_comm, hp, Nat.mul_comm, ← Nat.two_pow_add_eq_or_of_lt (by rw [← hp]; exact hu)]
    omega
  show IntKind.u64.wrap ((BitVec.ofInt 64 (u : Int) ||| BitVec.ofInt 64 ((x * 128 ^ k : Nat) : Int)).toNat : Nat) = _
  rw [key, IntKind.wrap_u64]
  omega

set_option maxHeartbeats 4000000 in
set_option maxRecDepth 100000 in
theorem scan_any (w : World) (a : Option Addr) (n c : Nat) (l : List UInt8) (hl : Src w 1 (.slice a n c) n (u8s l)) (hn : n < 4611686018427387904) :
    Calls Tryz.prog 69 #[.slice a n c] w fun e w' => (∃ x, e = .returned (.tuple #[.int .u64 ((varR l).1 : Int), .int .i64 ((varR l).2.1 : Int), errOf x (varR l).2.2])) ∧ w = w' := by
  have HL := Lib.hid hl
  have HN := Lib.hid (u8s_src_len hl)
  clear hl
  go_enter Tryz.func69, Tryz.ntmps69
  go_wp2_with fail
  go_loop [2, 9] (fun u i => ∃ k u' : Nat, k ≤ n ∧ k ≤ 10 ∧ i = .int .i64 k ∧ u = .int .u64 u' ∧ Hid ((∀ i, i < k → ∃ c, l[i]? = some c ∧ 128 ≤ c.toNat) ∧ (k ≤ 9 → u' = valL (l.take k)))) (fun _ i => n - (RowKit.intOf i).toNat)
  case atStart => exact ⟨0, 0, by omega, by omega, rfl, rfl, Lib.hid ⟨fun i h => by omega, fun _ => rfl⟩⟩
  case round =>
    obtain ⟨k, u', hk, hk10, rfl, rfl, HI⟩ := hrel
    by_cases hlt : k < n
    · obtain ⟨b, off, x, rfl, hx, x0⟩ := byte_src HL.out hlt
      have HX := Lib.hid hx
      clear hx
      have hand := u8_and127 x
      obtain ⟨m, hm, hm128⟩ : ∃ m, m = x.toNat % 128 ∧ m < 128 := ⟨_, rfl, Nat.mod_lt _ (by omega)⟩
      rw [← hm] at hand
      have HM := Lib.hid hm
      clear hm
      by_cases h10 : k = 10
      · subst h10
        have HV : Hid (varR l = (0, 0, 11)) := Lib.hid (varR_big (conts_of HI.out.1).1)
        have hn10 : 10 ≤ n := by omega
        go_wp2_with fail
        go_ret3
        rw [HV.out]
        exact ⟨⟨_, rfl⟩, rfl⟩
      · have h10' : ((k : Int) == 10) = false := beq_eq_false_iff_ne.2 (by omega)
        by_cases h128 : 128 ≤ x.toNat
        · have h128' : (128 : Int) ≤ (x.toNat : Int) := by omega
          go_wp2_with fail
          obtain ⟨u2, hu2, _⟩ := u64_or_nat (u' : Int) (IntKind.u64.wrap ((m : Int) * 2 ^ (7 * k)))
          have HU : Hid (k + 1 ≤ 9 → u2 = valL (l.take (k + 1))) := Lib.hid (fun h9 => by
            have h1 := HI.out.2 (by omega)
            have h2 : u' < 128 ^ k := by
              have := valL_lt (l.take k)
              rw [← h1, List.length_take, Nat.min_eq_left (by rw [HN.out]; exact hk)] at this
              exact this
            have h3 := scan_step (x := m) h2 (by omega) hm128 (fun e => by have := HM.out; omega)
            rw [hu2] at h3
            have h4 : u2 = u' + m * 128 ^ k := by omega
            rw [h4, List.take_add_one, HX.out]
            simp only [Option.toList_some]
            rw [valL_snoc, List.length_take, Nat.min_eq_left (by rw [HN.out]; exact hk), ← h1, ← HM.out])
          have HC : Hid (∀ i, i < k + 1 → ∃ c, l[i]? = some c ∧ 128 ≤ c.toNat) := Lib.hid (fun i hi => by
            rcases Nat.lt_or_ge i k with h | h
            · exact HI.out.1 i h
            · obtain rfl : i = k := by omega
              exact ⟨x, HX.out, h128⟩)
          go_round
          case rel => exact ⟨k + 1, u2, by omega, by omega, by go_num, by rw [← hu2], Lib.hid ⟨HC.out, HU.out⟩⟩
          case measure => simp [RowKit.intOf]; omega
        · have h128' : (x.toNat : Int) < 128 := by omega
          have HK : Hid (conts l = k) := Lib.hid ((conts_of HI.out.1).2.1 x HX.out (by omega))
          by_cases hbad : (k = 9 ∧ 1 < x.toNat) ∨ (0 < k ∧ x.toNat = 0)
          · have HV : Hid (varR l = (0, 0, 11)) := Lib.hid (varR_bad HK.out (by omega) HX.out hbad)
            go_wp2_with fail
            all_goals first
              | (exfalso; omega)
              | (go_ret3; rw [HV.out]; exact ⟨⟨_, rfl⟩, rfl⟩)
          · have HV : Hid (varR l = (valL (l.take (k + 1)), k + 1, 0)) := Lib.hid (varR_ok HK.out (by omega) HX.out hbad)
            have HU : Hid (bits .or .u64 (u' : Int) (IntKind.u64.wrap ((m : Int) * 2 ^ (7 * k))) = (valL (l.take (k + 1)) : Int)) := Lib.hid (by
              have h1 := HI.out.2 (by omega)
              have h2 : u' < 128 ^ k := by
                have := valL_lt (l.take k)
                rw [← h1, List.length_take, Nat.min_eq_left (by rw [HN.out]; exact hk)] at this
                exact this
              rw [scan_step (x := m) h2 (by omega) hm128 (fun e => by have := HM.out; omega), List.take_add_one, HX.out]
              simp only [Option.toList_some]
              rw [valL_snoc, List.length_take, Nat.min_eq_left (by rw [HN.out]; exact hk), ← h1, ← HM.out])
            go_wp2_with fail
            all_goals first
              | (exfalso; omega)
              | (go_ret3; rw [HV.out]; exact ⟨⟨0, ret3 HU.out (by first | (show (10 : Int) = _; simp only; omega) | (show (k : Int) + 1 = _; simp only; omega) | (show (1 : Int) = _; simp only; omega))⟩, rfl⟩)
    · obtain rfl : k = n := by omega
      have HO : Hid (varR l = (0, 0, if 10 ≤ k then 11 else 10)) := Lib.hid (by
        obtain ⟨c1, _, c3⟩ := conts_of HI.out.1
        have hno : l[k]? = none := List.getElem?_eq_none (by have := HN.out; omega)
        split
        · exact varR_big (by omega)
        · exact varR_end (c3 hno) (by omega) hno)
      by_cases h10 : 10 ≤ k
      · have HV : Hid (varR l = (0, 0, 11)) := Lib.hid (by rw [HO.out, if_pos h10])
        go_wp2_with fail
        go_ret3
        rw [HV.out]
        exact ⟨⟨_, rfl⟩, rfl⟩
      · have HV : Hid (varR l = (0, 0, 10)) := Lib.hid (by rw [HO.out, if_neg h10])
        go_wp2_with fail
        go_ret3
        rw [HV.out]
        exact ⟨⟨_, rfl⟩, rfl⟩
end Go.Proofs.YtdgmnhcgjbkafaaGreatDoor

/-! varint: Read, ReadText. -/

namespace Go.Proofs.YtdgmnhcgjbkafaaGreatDoor
open Go.RowKit Go.Sort Go.Lib

theorem varR_err (l : List UInt8) : (varR l).2.2 = 0 ∨ (varR l).2.2 = 10 ∨ (varR l).2.2 = 11 := by
  unfold varR
  split
  · exact .inr (.inr rfl)
  · split
    · exact .inr (.inl rfl)
    · split
      · exact .inr (.inr rfl)
      · exact .inl rfl
theorem conts_lt_of_some {l : List UInt8} {c : UInt8} (h : l[conts l]? = some c) : conts l < l.length := (List.getElem?_eq_some_iff.1 h).1
theorem valL_le (l : List UInt8) (k : Nat) (hk : k ≤ 8) : valL (l.take (k + 1)) < 2 ^ 63 := by
  have h1 := valL_lt (l.take (k + 1))
  have h2 : (l.take (k + 1)).length ≤ 9 := by rw [List.length_take]; omega
  have h3 : 128 ^ (l.take (k + 1)).length ≤ 128 ^ 9 := Nat.pow_le_pow_right (by omega) h2
  have : (128 : Nat) ^ 9 = 2 ^ 63 := by decide
  omega
theorem varR_bounds (l : List UInt8) : (varR l).1 < 2 ^ 64 ∧ (varR l).2.1 ≤ l.length ∧ (varR l).2.1 ≤ 10 ∧ ((varR l).2.2 = 0 → 0 < (varR l).2.1) := by
  unfold varR
  split
  · simp
  · rename_i h10
    split
    · simp
    · rename_i c hc
      have hlt := conts_lt_of_some hc
      split
      · simp
      · rename_i hb
        refine ⟨?_, by simp only; omega, by simp only; omega, by simp⟩
        simp only
        by_cases h8 : conts l ≤ 8
        · have := valL_le l (conts l) h8; omega
        · have h9 : conts l = 9 := by omega
          have hc1 : c.toNat ≤ 1 := by
            rcases Nat.lt_or_ge 1 c.toNat with h | h
            · exact absurd (.inl ⟨h9, h⟩) hb
            · exact h
          rw [List.take_add_one, hc]
          simp only [Option.toList_some]
          rw [valL_snoc]
          have h1 := valL_lt (l.take (conts l))
          have h2 : (l.take (conts l)).length = 9 := by rw [List.length_take]; omega
          rw [h2] at h1 ⊢
          have : (128 : Nat) ^ 9 = 2 ^ 63 := by decide
          have : c.toNat % 128 ≤ 1 := by omega
          have : c.toNat % 128 * 128 ^ 9 ≤ 1 * 128 ^ 9 := Nat.mul_le_mul_right _ this
          omega

set_option maxHeartbeats 2000000 in
theorem varRead_any (w : World) (a : Option Addr) (n c : Nat) (l : List UInt8) (hl : Src w 1 (.slice a n c) n (u8s l)) (hn : n < 4611686018427387904) (hg : HasET w) :
    Calls Tryz.prog 52 #[.slice a n c] w fun e w' => e = .returned (.tuple #[.int .u64 ((varR l).1 : Int), .int .i64 ((varR l).2.1 : Int), .int .i64 (varR l).2.2]) ∧ Ext w w' := by
  have HL := Lib.hid hl
  have HG := Lib.hid hg
  clear hl hg
  obtain ⟨u, k, e, hv⟩ : ∃ u k e, varR l = (u, k, e) := ⟨_, _, _, rfl⟩
  have herr := varR_err l
  rw [hv] at herr
  have HV := Lib.hid hv
  clear hv
  rcases herr with he | he
  · simp only at he
    subst he
    go_enter Tryz.func52, Tryz.ntmps52
    go_wp2_with fail
    refine (scan_any w a n c l HL.out hn).mono ?_
    rintro e' w1 ⟨⟨x, rfl⟩, rfl⟩
    rw [HV.out]
    simp only [errOf, if_true]
    go_wp2_with fail
    refine (number_nil _).mono ?_
    rintro e' w1 ⟨rfl, hx⟩
    go_wp2_with fail
    go_ret3
    rw [HV.out]
    exact ⟨rfl, hx⟩
  · simp only at he
    have he0 : e ≠ 0 := by omega
    go_enter Tryz.func52, Tryz.ntmps52
    go_wp2_with fail
    refine (scan_any w a n c l HL.out hn).mono ?_
    rintro e' w1 ⟨⟨x, rfl⟩, rfl⟩
    rw [HV.out]
    simp only [errOf, if_neg he0]
    go_wp2_with fail
    refine (number_fault x e he _ HG.out).mono ?_
    rintro e' w1 ⟨rfl, hx⟩
    go_wp2_with fail
    go_ret3
    rw [HV.out]
    exact ⟨rfl, hx⟩

/-- A text that is read: its bytes, how many bytes it took, the error. -/
def txtR (l : List UInt8) (most : Int) : List UInt8 × Nat × Int :=
  if (varR l).2.2 ≠ 0 then ([], 0, (varR l).2.2)
  else if most < 0 ∨ most < (varR l).1 then ([], 0, 3)
  else if l.length - (varR l).2.1 < (varR l).1 then ([], 0, 10)
  else ((l.drop (varR l).2.1).take (varR l).1, (varR l).2.1 + (varR l).1, 0)

/-- A slice of bytes as a text. -/
theorem conv_text {w : World} {a : Option Addr} {n c : Nat} {l : List UInt8} (h : Src w 1 (.slice a n c) n (u8s l)) : (Go.convert 28 9 (.slice a n c)).run Tryz.prog w = .ok (.string ⟨l.toArray⟩) w := by
  have hl := u8s_src_len h
  rcases h with ⟨e, h0, h1⟩ | ⟨ad, c', e, _, h2, h3⟩
  · simp only [Value.slice.injEq] at e
    obtain ⟨rfl, rfl, rfl⟩ := e
    have : l = [] := List.length_eq_zero_iff.1 (by omega)
    subst this
    exact run_convert_bytes_nil (P := Tryz.prog) (w := w) 28 5 Tryz.underlying28 Tryz.underlying5 0 0 9 Tryz.underlying9
  · simp only [Value.slice.injEq] at e
    obtain ⟨rfl, _, rfl⟩ := e
    subst hl
    exact run_convert_bytes_back (P := Tryz.prog) w 28 9 5 ad c l Tryz.underlying28 Tryz.underlying5 Tryz.underlying9 (fun j hj => h2 j _ (by simp [u8s, List.getElem?_eq_getElem hj]))
theorem sz_u8 : ∀ W, (sizeOf 5).run Tryz.prog W = .ok 1 W := fun _ => by kernel_rfl

set_option maxHeartbeats 4000000 in
set_option maxRecDepth 100000 in
theorem varText_any (w : World) (a : Option Addr) (n c : Nat) (l : List UInt8) (most : Nat) (hm : most < 4294967296) (hl : Src w 1 (.slice a n c) n (u8s l)) (hnc : n ≤ c) (hn : n < 4611686018427387904) (hg : HasET w) :
    Calls Tryz.prog 71 #[.slice a n c, .int .i64 (most : Int)] w fun e w' => e = .returned (.tuple #[.string ⟨(txtR l most).1.toArray⟩, .int .i64 ((txtR l most).2.1 : Int), .int .i64 (txtR l most).2.2]) ∧ Ext w w' := by
  have HL := Lib.hid hl
  have HG := Lib.hid hg
  have hlen := u8s_src_len hl
  clear hl hg
  obtain ⟨u, k, e, hv⟩ : ∃ u k e, varR l = (u, k, e) := ⟨_, _, _, rfl⟩
  obtain ⟨hb1, hb2, hb3, _⟩ := varR_bounds l
  rw [hv] at hb1 hb2 hb3
  simp only at hb1 hb2 hb3
  rw [hlen] at hb2
  have HV := Lib.hid hv
  have HLEN := Lib.hid hlen
  clear hv hlen
  by_cases he : e = 0
  · subst he
    by_cases h1 : (most : Int) < (u : Int)
    · have HT : Hid (txtR l most = ([], 0, 3)) := Lib.hid (by unfold txtR; rw [HV.out]; simp only; rw [if_neg (by omega), if_pos (.inr h1)])
      go_enter Tryz.func71, Tryz.ntmps71
      go_wp2_with (go_at_call 52; refine (varRead_any w a n c l HL.out hn HG.out).mono ?_; rw [HV.out]; rintro e' w1 ⟨rfl, hx⟩; have HX := Lib.hid hx; clear hx)
      go_ret3
      rw [HT.out]
      exact ⟨rfl, HX.out⟩
    · obtain ⟨r, hr⟩ : ∃ r : Nat, r = n - k := ⟨_, rfl⟩
      have hnk : (n : Int) - (k : Int) = (r : Int) := by omega
      by_cases h2 : r < u
      · have h2' : (r : Int) < (u : Int) := by omega
        have HT : Hid (txtR l most = ([], 0, 10)) := Lib.hid (by unfold txtR; rw [HV.out]; simp only; rw [if_neg (by omega), if_neg (by omega), if_pos (by rw [HLEN.out]; omega)])
        go_enter Tryz.func71, Tryz.ntmps71
        go_wp2_with (go_at_call 52; refine (varRead_any w a n c l HL.out hn HG.out).mono ?_; rw [HV.out]; rintro e' w1 ⟨rfl, hx⟩; have HX := Lib.hid hx; clear hx)
        go_ret3
        rw [HT.out]
        exact ⟨rfl, HX.out⟩
      · have h2' : ¬ (r : Int) < (u : Int) := by omega
        have HT : Hid (txtR l most = ((l.drop k).take u, k + u, 0)) := Lib.hid (by unfold txtR; rw [HV.out]; simp only; rw [if_neg (by omega), if_neg (by omega), if_neg (by rw [HLEN.out]; omega)])
        obtain ⟨a', c', hs1, hs2, hsrc⟩ : ∃ a' c', (∀ W, (Instr.slice 28 (.slice a n c) (some (.int .i64 (k : Int))) (some (.int .i64 ((k : Int) + (u : Int)))) none).run Tryz.prog W = .ok (.slice a' u c') W) ∧ (∀ W, (Instr.sliceAt 28 (.slice a n c) (some (.int .i64 (k : Int))) (some (.int .i64 ((k : Int) + (u : Int)))) none).run Tryz.prog W = .ok (.slice a' u c') W) ∧ Src w 1 (.slice a' u c') u (u8s ((l.drop k).take u)) := by
          have e : k + u - k = u := by omega
          refine ⟨cutA a c k, c - k, fun W => ?_, fun W => ?_, ?_⟩
          · have := run_slice_lohi Tryz.underlying28 sz_u8 a n c k (k + u) (by omega) (by omega) W
            rw [e] at this
            simpa using this
          · have := run_sliceAt_lohi Tryz.underlying28 sz_u8 a n c k (k + u) (by omega) (by omega) W
            rw [e] at this
            simpa using this
          · have := src_cut (h := k + u) (l := k) (m := c) HL.out (by omega) (by omega) (by omega) (Nat.le_refl _)
            rw [e] at this
            rw [show u8s ((l.drop k).take u) = ((u8s l).drop k).take u by simp [u8s, List.map_take, List.map_drop]]
            exact this
        have HSRC := Lib.hid hsrc
        clear hsrc
        go_enter Tryz.func71, Tryz.ntmps71
        go_wp2_with (go_at_call 52; refine (varRead_any w a n c l HL.out hn HG.out).mono ?_; rw [HV.out]; rintro e' w1 ⟨rfl, hx⟩; have HX := Lib.hid hx; have hcv := conv_text (HSRC.out.ext hx); clear hx)
        go_ret3
        rw [HT.out]
        exact ⟨rfl, HX.out⟩
  · have HT : Hid (txtR l most = ([], 0, e)) := Lib.hid (by unfold txtR; rw [HV.out]; simp only; rw [if_pos he])
    have he' : (e != 0) = true := by simpa using he
    go_enter Tryz.func71, Tryz.ntmps71
    go_wp2_with (go_at_call 52; refine (varRead_any w a n c l HL.out hn HG.out).mono ?_; rw [HV.out]; rintro e' w1 ⟨rfl, hx⟩; have HX := Lib.hid hx; clear hx)
    go_ret3
    rw [HT.out]
    exact ⟨rfl, HX.out⟩
end Go.Proofs.YtdgmnhcgjbkafaaGreatDoor

/-! varint: Put, PutText. -/

namespace Go.Proofs.YtdgmnhcgjbkafaaGreatDoor
open Go.RowKit Go.Sort Go.Lib

/-- A number as bytes. -/
def varP (u : Nat) : List UInt8 := if u < 128 then [UInt8.ofNat u] else UInt8.ofNat (u % 128 + 128) :: varP (u / 128)
termination_by u
decreasing_by omega
theorem varP_lt {u : Nat} (h : u < 128) : varP u = [UInt8.ofNat u] := by rw [varP, if_pos h]
theorem varP_ge {u : Nat} (h : ¬ u < 128) : varP u = UInt8.ofNat (u % 128 + 128) :: varP (u / 128) := by rw [varP, if_neg h]
theorem varP_pos (u : Nat) : 0 < (varP u).length := by
  by_cases h : u < 128
  · rw [varP_lt h]; simp
  · rw [varP_ge h]; simp
theorem varP_len (k : Nat) : ∀ u, u < 128 ^ k → 0 < k → (varP u).length ≤ k := by
  induction k with
  | zero => intro u _ h; omega
  | succ k ih =>
    intro u hu _
    by_cases h : u < 128
    · rw [varP_lt h]; simp
    · rw [varP_ge h, List.length_cons]
      have hk : 0 < k := by
        rcases Nat.eq_zero_or_pos k with rfl | hk
        · simp at hu; omega
        · exact hk
      have := ih (u / 128) (by rw [Nat.pow_succ] at hu; exact Nat.div_lt_of_lt_mul (by rw [Nat.mul_comm]; exact hu)) hk
      omega
theorem varP_10 {u : Nat} (h : u < 2 ^ 64) : (varP u).length ≤ 10 := varP_len 10 u (Nat.lt_of_lt_of_le h (by decide)) (by omega)

theorem elem_u8 : ElemOk Tryz.prog 28 5 1 1 :=
  ⟨Tryz.underlying28, by
    obtain ⟨i0, hi, hz0, hz1, hz2⟩ := info_parts (show (Tryz.prog.info? 5).map (fun i => (i.zero, i.size, i.bytes)) = some (some (.int .u8 0), 1, 1) from by kernel_rfl)
    exact ⟨i0, _, hi, hz0, hz1, hz2, rfl⟩, by decide⟩
theorem src_byte {W : World} {b : Nat} {x : UInt8} {t : TypeId} {fr : Nat × Nat} (h : W.heap[b]? = some (.cells #[.int .u8 (x.toNat : Int)] t fr)) : Src W 1 (.slice (some ⟨b, 0, none⟩) 1 1) 1 (u8s [x]) := by
  refine .inr ⟨_, _, rfl, rfl, fun j u hj => ?_, u8s_one _⟩
  rw [Go.WideShapes.add_plain, Nat.zero_add, cell_of_block h]
  simpa [u8s] using hj
set_option maxRecDepth 10000 in
theorem u8_or128 (x : Nat) (hx : x < 256) : bits .or .u8 (x : Int) 128 = ((x % 128 + 128 : Nat) : Int) := by
  have key : (BitVec.ofInt 8 (x : Int) ||| BitVec.ofInt 8 128).toNat = x % 128 + 128 := by
    rw [BitVec.toNat_or, BitVec.toNat_ofInt]
    have a1 : ((x : Int) % ((2 ^ 8 : Nat) : Int)).toNat = x := by omega
    rw [a1]
    have : ∀ y, y < 256 → y ||| 128 = y % 128 + 128 := by decide
    exact this x hx
  show IntKind.u8.wrap ((BitVec.ofInt 8 (x : Int) ||| BitVec.ofInt 8 128).toNat : Nat) = _
  rw [key, IntKind.wrap_u8]
  omega

/-- What has been put so far. -/
structure PutR (w : World) (xs full : List UInt8) (u n : Nat) (v : Value) (wr : World) : Prop where
  st : Start w wr 5 1 v n (u8s xs)
  len : n = xs.length
  ext : Ext w wr
  eq : xs ++ varP u = full

set_option maxHeartbeats 4000000 in
set_option maxRecDepth 100000 in
theorem varPut_any (w : World) (a : Option Addr) (n c : Nat) (l : List UInt8) (u : Nat) (hu : u < 2 ^ 64) (hl : Src w 1 (.slice a n c) n (u8s l)) (hnc : n ≤ c) (hn : n ≤ 70368744177664) :
    Calls Tryz.prog 13 #[.slice a n c, .int .u64 (u : Int)] w fun e w' => ∃ v, e = .returned v ∧ MadeTo w 5 1 v (l ++ varP u).length (u8s (l ++ varP u)) w' := by
  have HL := Lib.hid hl
  have HLEN := Lib.hid (u8s_src_len hl)
  clear hl
  obtain ⟨a', hs1, hs2, hsrc⟩ : ∃ a', (∀ W, (Instr.slice 28 (.slice a n c) none (some (.int .i64 (n : Int))) (some (.int .i64 (n : Int)))).run Tryz.prog W = .ok (.slice a' n n) W) ∧ (∀ W, (Instr.sliceAt 28 (.slice a n c) none (some (.int .i64 (n : Int))) (some (.int .i64 (n : Int)))).run Tryz.prog W = .ok (.slice a' n n) W) ∧ Src w 1 (.slice a' n n) n (u8s l) := by
    refine ⟨cutA a n 0, run_slice_him Tryz.underlying28 sz_u8 a n c n n (Nat.le_refl _) hnc, run_sliceAt_him Tryz.underlying28 sz_u8 a n c n n (Nat.le_refl _) hnc, ?_⟩
    have := src_cut (h := n) (l := 0) (m := n) HL.out (by omega) (by omega) (by omega) hnc
    rw [List.drop_zero, List.take_of_length_le (by rw [u8s_length]; have := HLEN.out; omega)] at this
    exact this
  have H0 : Hid (PutR w l (l ++ varP u) u n (.slice a' n n) w) := Lib.hid ⟨.inr ⟨a', rfl, hsrc⟩, HLEN.out.symm, Ext.refl _, rfl⟩
  clear hsrc
  go_enter Tryz.func13, Tryz.ntmps13
  go_wp2_with fail
  go_loopw [1, 5] (fun su sv wr => ∃ (u' m : Nat) (va : Option Addr) (vc : Nat) (xs : List UInt8), su = .int .u64 (u' : Int) ∧ sv = .slice va m vc ∧ u' < 2 ^ 64 ∧ m ≤ n + 10 ∧ Hid (PutR w xs (l ++ varP u) u' m (.slice va m vc) wr)) (fun su _ _ => (RowKit.intOf su).toNat)
  case atStart => exact ⟨u, n, a', n, l, rfl, rfl, hu, by omega, H0⟩
  case round =>
    clear H0
    obtain ⟨u', m, va, vc, xs, rfl, rfl, hu', hm, HR⟩ := hrel
    by_cases hlt : u' < 128
    · have hlt' : (u' : Int) < 128 := by omega
      have HF : Hid (xs ++ varP u' = l ++ varP u) := Lib.hid HR.out.eq
      obtain ⟨x, hx⟩ : ∃ x : UInt8, u' = x.toNat := ⟨UInt8.ofNat u', by rw [UInt8.toNat_ofNat']; omega⟩
      have HP : Hid (varP u' = [x]) := Lib.hid (by rw [varP_lt hlt, hx]; simp)
      subst hx
      go_wp2_with (at_builtin; go_must (refine wpList_append_start elem_u8 rfl _ _ rfl rfl rfl (HR.out.st.ext ((Ext.refl _).alloc _)) (HR.out.ext.trans ((Ext.refl _).alloc _)) (src_byte (x := x) (heap_alloc_new _ _)) (by omega) (by unfold maxLen; omega) (by omega) ?_; intro v' w4 hmade); have HM := Lib.hid hmade; clear hmade)
      go_ret
      refine ⟨_, rfl, ?_⟩
      rw [← HF.out, HP.out, u8s_append, List.length_append, ← HR.out.len]
      exact HM.out
    · have hlt' : ¬ (u' : Int) < 128 := by omega
      obtain ⟨x, hx⟩ : ∃ x : UInt8, u' % 128 + 128 = x.toNat := ⟨UInt8.ofNat (u' % 128 + 128), by rw [UInt8.toNat_ofNat']; omega⟩
      obtain ⟨y, hy, hy2⟩ : ∃ y : Nat, IntKind.u8.wrap (u' : Int) = (y : Int) ∧ y = u' % 256 := ⟨u' % 256, by rw [IntKind.wrap_u8]; omega, rfl⟩
      have ho : bits .or .u8 (y : Int) 128 = (x.toNat : Int) := by rw [u8_or128 y (by omega), ← hx]; congr 2; omega
      have HP : Hid (varP u' = x :: varP (u' / 128)) := Lib.hid (by rw [varP_ge hlt, hx]; simp)
      have HU : Hid (y = u' % 256) := Lib.hid hy2
      clear hx hy2
      go_wp2_with (at_builtin; go_must (refine wpList_append_start elem_u8 rfl _ _ rfl rfl rfl (HR.out.st.ext ((Ext.refl _).alloc _)) (HR.out.ext.trans ((Ext.refl _).alloc _)) (src_byte (x := x) (heap_alloc_new _ _)) (by omega) (by unfold maxLen; omega) (by omega) ?_; intro v' w4 hmade); have HM := Lib.hid hmade; obtain ⟨va', vc', rfl⟩ := hmade.row.shape; clear hmade)
      have HE : Hid ((xs ++ [x]) ++ varP (u' / 128) = l ++ varP u ∧ m + 1 ≤ n + 10) := Lib.hid (by
        have h1 := HR.out.eq
        rw [HP.out] at h1
        refine ⟨by rw [← h1]; simp, ?_⟩
        have h2 := congrArg List.length h1
        have h3 := varP_10 hu
        have h4 := HR.out.len
        have h5 := varP_pos (u' / 128)
        have h6 := HLEN.out
        simp at h2
        omega)
      go_roundw
      case rel => exact ⟨u' / 128, m + 1, va', vc', xs ++ [x], by first | rfl | go_num, rfl, by omega, HE.out.2, Lib.hid ⟨Start.row (by rw [u8s_append]; exact HM.out.row) HM.out.own, by simp; exact HR.out.len, HM.out.ext, HE.out.1⟩⟩
      case measure => simp [RowKit.intOf]; omega

theorem MadeTo.owns {w0 w : World} {e : TypeId} {size : Nat} {v : Value} {n : Nat} {xs : List Value} (h : MadeTo w0 e size v n xs w) : w.ownsRow w0.heap.size e size v n xs := by
  obtain ⟨q1, q2⟩ := h.row
  refine ⟨q1, q2.imp id ?_⟩
  rintro ⟨g, cap, cur, rfl, _, p3⟩
  exact ⟨g, cap, cur, rfl, h.own g rfl, p3⟩
theorem MadeTo.of_owns {w0 w : World} {e : TypeId} {size : Nat} {v : Value} {n : Nat} {xs : List Value} (h : w.ownsRow w0.heap.size e size v n xs) (hx : Ext w0 w) : MadeTo w0 e size v n xs w := by
  refine ⟨?_, fun g hg => (h.lt g hg).1, hx⟩
  obtain ⟨q1, q2⟩ := h
  refine ⟨q1, q2.imp id ?_⟩
  rintro ⟨g, cap, cur, p1, _, p3⟩
  exact ⟨g, cap, cur, p1, Nat.zero_le _, p3⟩
theorem wpList_append_str {w0 w : World} {ops : Array Oper} {rest : List Oper} {o : Oper} {a : Act} {Q : Exit → Act → World → Prop} (hgd : o.guard = none) (sl x : Operand)
    (ho : o.op = .call { callee := .builtin .append, args := #[sl, x], argTypes := #[28, 9] }) {v : Value} {n : Nat} {xs : List Value} {s : ByteArray} (hs : a.eval sl = v) (hx : a.eval x = .string s)
    (hm : MadeTo w0 5 1 v n xs w) (h63 : n + s.size ≤ maxLen) (hbytes : n + s.size ≤ 140737488355328)
    (h : ∀ v' w', MadeTo w0 5 1 v' (n + s.size) (xs ++ u8s s.data.toList) w' → wpList Tryz.prog ops Q rest (a.put o.dst v') w') : wpList Tryz.prog ops Q (o :: rest) a w := by
  obtain ⟨i, z, hi, hz, e1, e2, e3⟩ := elem_u8.info
  have hz0 : i.zero = some (.int .u8 0) := by
    have : (Tryz.prog.info? 5).map (fun i => i.zero) = some (some (.int .u8 0)) := by kernel_rfl
    rw [hi] at this; simpa using this
  exact Lib.wpList_append_own_string (P := Tryz.prog) w hgd sl x 28 9 ho w0.heap.size 5 i Tryz.underlying28 Tryz.underlying9 hi hz0 e1 e2 v n xs hs hm.owns s hx h63 hbytes hm.ext.size
    (fun v' w' r1 r2 _ => h v' w' (MadeTo.of_owns r1 (((Chg.of_ext hm.ext).trans (Chg.of_grown r2) (fun _ _ e => e)).ext (fun i hi e => by have := hm.own i e; omega))))

set_option maxHeartbeats 4000000 in
set_option maxRecDepth 100000 in
theorem varPutText_any (w : World) (a : Option Addr) (n c : Nat) (l : List UInt8) (s : ByteArray) (hl : Src w 1 (.slice a n c) n (u8s l)) (hnc : n ≤ c) (hn : n ≤ 35184372088832) (hs : s.size ≤ 35184372088832) :
    Calls Tryz.prog 16 #[.slice a n c, .string s] w fun e w' => ∃ v, e = .returned v ∧ MadeTo w 5 1 v (l ++ (varP s.size ++ s.data.toList)).length (u8s (l ++ (varP s.size ++ s.data.toList))) w' := by
  have HL := Lib.hid hl
  have hlen := u8s_src_len hl
  have hsz : s.data.toList.length = s.size := by simp
  have hP := varP_10 (u := s.size) (by omega)
  have hbd : (l ++ varP s.size).length + s.size ≤ 140737488355328 := by rw [List.length_append]; omega
  have HBD := Lib.hid hbd
  have HSZ := Lib.hid hsz
  clear hl hP hbd hlen hsz
  go_enter Tryz.func16, Tryz.ntmps16
  go_wp2_with fail
  refine (varPut_any w a n c l s.size (by omega) HL.out hnc (by omega)).mono ?_
  rintro e w1 ⟨v, rfl, hm⟩
  obtain ⟨N, hN⟩ : ∃ N, N = (l ++ varP s.size).length := ⟨_, rfl⟩
  rw [← hN] at hm
  have HN := Lib.hid hN
  clear hN
  obtain ⟨va, vc, rfl⟩ := hm.row.shape
  have HM := Lib.hid hm
  clear hm
  go_wp2_with (at_builtin; go_must (refine wpList_append_str rfl _ _ rfl rfl rfl HM.out (by unfold maxLen; rw [HN.out]; have := HBD.out; omega) (by rw [HN.out]; exact HBD.out) ?_; intro v' w4 hmade); have HM4 := Lib.hid hmade; clear hmade)
  go_ret
  refine ⟨_, rfl, ?_⟩
  rw [← List.append_assoc, u8s_append, List.length_append, ← HN.out, HSZ.out]
  exact HM4.out
end Go.Proofs.YtdgmnhcgjbkafaaGreatDoor

/-! tidemillref03: Read, ReadText, Put, PutText. -/

namespace Go.Proofs.YtdgmnhcgjbkafaaGreatDoor
open Go.RowKit Go.Sort Go.Lib

theorem valL_drop (l : List UInt8) (i : Nat) : valL (l.drop i) ≤ valL l := by
  induction i generalizing l with
  | zero => simp
  | succ i ih =>
    cases l with
    | nil => simp
    | cons c l => have := ih l; simp only [List.drop_succ_cons, valL]; omega
theorem valL_at {l : List UInt8} {i : Nat} {x : UInt8} (h : l[i]? = some x) : valL (l.drop i) = x.toNat % 128 + 128 * valL (l.drop (i + 1)) := by
  obtain ⟨h1, h2⟩ := List.getElem?_eq_some_iff.1 h
  rw [List.drop_eq_getElem_cons h1, h2, valL]

set_option maxHeartbeats 8000000 in
set_option maxRecDepth 100000 in
theorem ref3Read_any (w : World) (a : Option Addr) (n c : Nat) (l : List UInt8) (hl : Src w 1 (.slice a n c) n (u8s l)) (hn : n < 4611686018427387904) :
    Calls Tryz.prog 57 #[.slice a n c] w fun e w' => e = .returned (.tuple #[.int .u64 ((varR l).1 : Int), .int .i64 ((varR l).2.1 : Int), .int .i64 (varR l).2.2]) ∧ w = w' := by
  have HL := Lib.hid hl
  have HN := Lib.hid (u8s_src_len hl)
  have HB := Lib.hid (varR_bounds l)
  clear hl
  go_enter Tryz.func57, Tryz.ntmps57
  go_wp2_with fail
  go_loop [5] (fun i => ∃ k : Nat, k ≤ n ∧ k ≤ 10 ∧ i = .int .i64 k ∧ Hid (∀ i, i < k → ∃ c, l[i]? = some c ∧ 128 ≤ c.toNat)) (fun i => n - (RowKit.intOf i).toNat)
  case atStart => exact ⟨0, by omega, by omega, rfl, Lib.hid (fun i h => by omega)⟩
  case round =>
    obtain ⟨k, hk, hk10, rfl, HI⟩ := hrel
    by_cases hlt : k < n
    · obtain ⟨b, off, x, rfl, hx, x0⟩ := byte_src HL.out hlt
      have HX := Lib.hid hx
      clear hx
      by_cases h10 : k = 10
      · subst h10
        have HV : Hid (varR l = (0, 0, 11)) := Lib.hid (varR_big (conts_of HI.out).1)
        go_wp2_with fail
        go_ret3
        rw [HV.out]
        exact ⟨rfl, rfl⟩
      · have hk9 : k < 10 := by omega
        by_cases h128 : 128 ≤ x.toNat
        · have h128' : (128 : Int) ≤ (x.toNat : Int) := by omega
          have HC : Hid (∀ i, i < k + 1 → ∃ c, l[i]? = some c ∧ 128 ≤ c.toNat) := Lib.hid (fun i hi => by
            rcases Nat.lt_or_ge i k with h | h
            · exact HI.out i h
            · obtain rfl : i = k := by omega
              exact ⟨x, HX.out, h128⟩)
          go_wp2_with fail
          go_round
          case rel => exact ⟨k + 1, by omega, by omega, by go_num, HC⟩
          case measure => simp [RowKit.intOf]; omega
        · have h128' : ¬ (128 : Int) ≤ (x.toNat : Int) := by omega
          have HK : Hid (conts l = k) := Lib.hid ((conts_of HI.out).2.1 x HX.out (by omega))
          have hkn : ((k : Int) == (n : Int)) = false := beq_eq_false_iff_ne.2 (by omega)
          have hk10' : ((k : Int) == 10) = false := beq_eq_false_iff_ne.2 (by omega)
          by_cases hbad : (k = 9 ∧ 1 < x.toNat) ∨ (0 < k ∧ x.toNat = 0)
          · have HV : Hid (varR l = (0, 0, 11)) := Lib.hid (varR_bad HK.out hk9 HX.out hbad)
            rcases hbad with ⟨rfl, h1⟩ | ⟨h0, h1⟩
            · have h1' : (1 : Int) < (x.toNat : Int) := by omega
              go_wp2_with fail
              go_ret3
              rw [HV.out]
              exact ⟨rfl, rfl⟩
            · rw [h1] at x0
              have h0' : (0 : Int) < (k : Int) := by omega
              by_cases h9 : k = 9
              · subst h9
                go_wp2_with fail
                go_ret3
                rw [HV.out]
                exact ⟨rfl, rfl⟩
              · have h9' : ((k : Int) == 9) = false := beq_eq_false_iff_ne.2 (by omega)
                go_wp2_with fail
                go_ret3
                rw [HV.out]
                exact ⟨rfl, rfl⟩
          · have hv := varR_ok HK.out hk9 HX.out hbad
            obtain ⟨V, hV⟩ : ∃ V, V = l.take (k + 1) := ⟨_, rfl⟩
            rw [← hV] at hv
            have HV : Hid (varR l = (valL V, k + 1, 0)) := Lib.hid hv
            have hV64 : valL V < 2 ^ 64 := by have := HB.out.1; rw [hv] at this; exact this
            have HVL : Hid (V = l.take (k + 1)) := Lib.hid hV
            clear hv hV
            have hcase : (k = 9 ∧ x.toNat ≤ 1 ∧ 0 < x.toNat) ∨ (k = 0) ∨ (0 < k ∧ k ≠ 9 ∧ 0 < x.toNat) := by
              rcases Nat.eq_zero_or_pos k with h | h
              · exact .inr (.inl h)
              · have : 0 < x.toNat := Nat.pos_of_ne_zero (fun e => hbad (.inr ⟨h, e⟩))
                by_cases h9 : k = 9
                · exact .inl ⟨h9, Nat.le_of_not_lt (fun e => hbad (.inl ⟨h9, e⟩)), this⟩
                · exact .inr (.inr ⟨h, h9, this⟩)
            clear hbad
            have HCELL : Hid (∀ j, j ≤ k → ∃ y : UInt8, V[j]? = some y ∧ w.cell? ⟨b, off + j, none⟩ = some (.int .u8 (y.toNat : Int))) := Lib.hid (fun j hj => by
              obtain ⟨b', off', y, e, hy, y0⟩ := byte_src HL.out (show j < n by omega)
              cases e
              exact ⟨y, by rw [HVL.out, List.getElem?_take, if_pos (by omega)]; exact hy, y0⟩)
            have HVN : Hid (V.length = k + 1) := Lib.hid (by rw [HVL.out, List.length_take]; have := HN.out; omega)
            rcases hcase with ⟨rfl, h1, h2⟩ | rfl | ⟨h0, h9, h2⟩
            case' inl =>
              have h1' : ¬ (1 : Int) < (x.toNat : Int) := by omega
              have h2' : ((x.toNat : Int) == 0) = false := beq_eq_false_iff_ne.2 (by omega)
              go_wp2_with fail
            case' inr.inl =>
              rw [Nat.add_zero] at x0
              go_wp2_with fail
            case' inr.inr =>
              have h9' : ((k : Int) == 9) = false := beq_eq_false_iff_ne.2 (by omega)
              have h2' : ((x.toNat : Int) == 0) = false := beq_eq_false_iff_ne.2 (by omega)
              have h0' : (0 : Int) < (k : Int) := by omega
              go_wp2_with fail
            all_goals
              clear x0
              go_loop [6, 7] (fun su si => ∃ j : Nat, j ≤ V.length ∧ si = .int .i64 ((j : Int) - 1) ∧ su = .int .u64 (valL (V.drop j) : Int)) (fun _ i => (RowKit.intOf i + 1).toNat)
              case atStart => exact ⟨V.length, Nat.le_refl _, by rw [HVN.out]; simp, by rw [List.drop_length]; rfl⟩
              case round =>
                obtain ⟨j, hj, rfl, rfl⟩ := hrel
                cases j with
                | zero =>
                  have h00 : ¬ (0 : Int) ≤ ((0 : Nat) : Int) - 1 := by omega
                  go_wp2_with fail
                  go_ret3
                  rw [HV.out]
                  first | rfl | exact ⟨rfl, rfl⟩
                | succ j =>
                  obtain ⟨y, hy, y0⟩ := HCELL.out j (by have := HVN.out; omega)
                  have hq := valL_at hy
                  have hqle := valL_drop V j
                  have hji : ((j + 1 : Nat) : Int) - 1 = (j : Int) := by omega
                  rw [hji]
                  have hnn : (0 : Int) ≤ (j : Int) := by omega
                  have hjn : j < n := by have := HVN.out; omega
                  obtain ⟨p, hp⟩ : ∃ p, p = valL (V.drop (j + 1)) := ⟨_, rfl⟩
                  obtain ⟨q, hq2⟩ : ∃ q, q = valL (V.drop j) := ⟨_, rfl⟩
                  rw [← hp, ← hq2] at hq
                  rw [← hp]
                  have hq64 : q < 2 ^ 64 := by omega
                  have HQ := Lib.hid hq2
                  clear hp hq2 hy hqle hji
                  go_wp2_with fail
                  have he : ((valL (V.drop j) : Nat) : Int) = (p : Int) * 128 + (y.toNat : Int) % 128 := by rw [← HQ.out]; omega
                  go_round
                  case rel => exact ⟨j, by omega, rfl, congrArg (Value.int .u64) he.symm⟩
                  case measure => simp [RowKit.intOf]
    · obtain rfl : k = n := by omega
      have hno : l[k]? = none := List.getElem?_eq_none (by have := HN.out; omega)
      by_cases h10 : k = 10
      · subst h10
        have HV : Hid (varR l = (0, 0, 11)) := Lib.hid (varR_big (conts_of HI.out).1)
        go_wp2_with fail
        go_ret3
        rw [HV.out]
        exact ⟨rfl, rfl⟩
      · have HV : Hid (varR l = (0, 0, 10)) := Lib.hid (varR_end ((conts_of HI.out).2.2 hno) (by omega) hno)
        have hk10' : ((k : Int) == 10) = false := beq_eq_false_iff_ne.2 (by omega)
        clear hno
        go_wp2_with fail
        go_ret3
        rw [HV.out]
        exact ⟨rfl, rfl⟩

set_option maxHeartbeats 4000000 in
set_option maxRecDepth 100000 in
theorem ref3Text_any (w : World) (a : Option Addr) (n c : Nat) (l : List UInt8) (most : Nat) (hm : most < 4294967296) (hl : Src w 1 (.slice a n c) n (u8s l)) (hnc : n ≤ c) (hn : n < 4611686018427387904) :
    Calls Tryz.prog 59 #[.slice a n c, .int .i64 (most : Int)] w fun e w' => e = .returned (.tuple #[.string ⟨(txtR l most).1.toArray⟩, .int .i64 ((txtR l most).2.1 : Int), .int .i64 (txtR l most).2.2]) ∧ w = w' := by
  have HL := Lib.hid hl
  have hlen := u8s_src_len hl
  clear hl
  obtain ⟨u, k, e, hv⟩ : ∃ u k e, varR l = (u, k, e) := ⟨_, _, _, rfl⟩
  obtain ⟨hb1, hb2, hb3, _⟩ := varR_bounds l
  rw [hv] at hb1 hb2 hb3
  simp only at hb1 hb2 hb3
  rw [hlen] at hb2
  have HV := Lib.hid hv
  have HLEN := Lib.hid hlen
  clear hv hlen
  by_cases he : e = 0
  · subst he
    by_cases h1 : (most : Int) < (u : Int)
    · have HT : Hid (txtR l most = ([], 0, 3)) := Lib.hid (by unfold txtR; rw [HV.out]; simp only; rw [if_neg (by omega), if_pos (.inr h1)])
      go_enter Tryz.func59, Tryz.ntmps59
      go_wp2_with (go_at_call 57; refine (ref3Read_any w a n c l HL.out hn).mono ?_; rw [HV.out]; rintro e' w1 ⟨rfl, rfl⟩)
      go_ret3
      rw [HT.out]
      exact ⟨rfl, rfl⟩
    · obtain ⟨r, hr⟩ : ∃ r : Nat, r = n - k := ⟨_, rfl⟩
      have hnk : (n : Int) - (k : Int) = (r : Int) := by omega
      by_cases h2 : r < u
      · have h2' : (r : Int) < (u : Int) := by omega
        have HT : Hid (txtR l most = ([], 0, 10)) := Lib.hid (by unfold txtR; rw [HV.out]; simp only; rw [if_neg (by omega), if_neg (by omega), if_pos (by rw [HLEN.out]; omega)])
        go_enter Tryz.func59, Tryz.ntmps59
        go_wp2_with (go_at_call 57; refine (ref3Read_any w a n c l HL.out hn).mono ?_; rw [HV.out]; rintro e' w1 ⟨rfl, rfl⟩)
        go_ret3
        rw [HT.out]
        exact ⟨rfl, rfl⟩
      · have h2' : ¬ (r : Int) < (u : Int) := by omega
        have HT : Hid (txtR l most = ((l.drop k).take u, k + u, 0)) := Lib.hid (by unfold txtR; rw [HV.out]; simp only; rw [if_neg (by omega), if_neg (by omega), if_neg (by rw [HLEN.out]; omega)])
        obtain ⟨a', c', hs1, hs2, hsrc⟩ : ∃ a' c', (∀ W, (Instr.slice 28 (.slice a n c) (some (.int .i64 (k : Int))) (some (.int .i64 ((k : Int) + (u : Int)))) none).run Tryz.prog W = .ok (.slice a' u c') W) ∧ (∀ W, (Instr.sliceAt 28 (.slice a n c) (some (.int .i64 (k : Int))) (some (.int .i64 ((k : Int) + (u : Int)))) none).run Tryz.prog W = .ok (.slice a' u c') W) ∧ Src w 1 (.slice a' u c') u (u8s ((l.drop k).take u)) := by
          have e : k + u - k = u := by omega
          refine ⟨cutA a c k, c - k, fun W => ?_, fun W => ?_, ?_⟩
          · have := run_slice_lohi Tryz.underlying28 sz_u8 a n c k (k + u) (by omega) (by omega) W
            rw [e] at this
            simpa using this
          · have := run_sliceAt_lohi Tryz.underlying28 sz_u8 a n c k (k + u) (by omega) (by omega) W
            rw [e] at this
            simpa using this
          · have := src_cut (h := k + u) (l := k) (m := c) HL.out (by omega) (by omega) (by omega) (Nat.le_refl _)
            rw [e] at this
            rw [show u8s ((l.drop k).take u) = ((u8s l).drop k).take u by simp [u8s, List.map_take, List.map_drop]]
            exact this
        have hcv := conv_text hsrc
        clear hsrc
        go_enter Tryz.func59, Tryz.ntmps59
        go_wp2_with (go_at_call 57; refine (ref3Read_any w a n c l HL.out hn).mono ?_; rw [HV.out]; rintro e' w1 ⟨rfl, rfl⟩)
        go_ret3
        rw [HT.out]
        exact ⟨rfl, rfl⟩
  · have HT : Hid (txtR l most = ([], 0, e)) := Lib.hid (by unfold txtR; rw [HV.out]; simp only; rw [if_pos he])
    have he' : (e != 0) = true := by simpa using he
    go_enter Tryz.func59, Tryz.ntmps59
    go_wp2_with (go_at_call 57; refine (ref3Read_any w a n c l HL.out hn).mono ?_; rw [HV.out]; rintro e' w1 ⟨rfl, rfl⟩)
    go_ret3
    rw [HT.out]
    exact ⟨rfl, rfl⟩
end Go.Proofs.YtdgmnhcgjbkafaaGreatDoor

/-! tidemillref03: Put, PutText. -/

namespace Go.Proofs.YtdgmnhcgjbkafaaGreatDoor
open Go.RowKit Go.Sort Go.Lib

theorem MadeTo.app {w0 w w' : World} {e : TypeId} {size n : Nat} {v v' : Value} {ys : List Value} (hown : ∀ g, v.ownBlock = some g → w0.heap.size ≤ g) (hx : Ext w0 w) (ha : Appended w e size v n ys v' w') : MadeTo w0 e size v' n ys w' :=
  ⟨ha.row, fun g hg => by
    rcases ha.loc with e | e
    · exact hown g (e ▸ hg)
    · rw [e] at hg; cases hg; exact hx.size,
   Chg.ext ((Chg.of_ext hx).trans ha.chg (fun _ _ e => e)) (fun i hi e => by have := hown i e; omega)⟩
theorem MadeTo.trans {w0 w1 w2 : World} {e : TypeId} {size n : Nat} {v : Value} {xs : List Value} (hx : Ext w0 w1) (h : MadeTo w1 e size v n xs w2) : MadeTo w0 e size v n xs w2 :=
  ⟨h.row, fun g hg => Nat.le_trans hx.size (h.own g hg), hx.trans h.ext⟩
theorem row_empty {W : World} {b : Nat} {t : TypeId} (h : W.heap[b]? = some (.cells #[] t (0, 0))) : Row W t 1 (.slice (some ⟨b, 0, none⟩) 0 0) 0 [] :=
  ⟨rfl, .inr ⟨b, 0, #[], rfl, Nat.zero_le _, h, Nat.le_refl _, by unfold maxLen; omega, rfl, rfl⟩⟩

/-- What has been put so far. -/
structure Put3R (w : World) (xs full : List UInt8) (u n : Nat) (v : Value) (wr : World) : Prop where
  st : MadeTo w 5 1 v n (u8s xs) wr
  len : n = xs.length
  eq : xs ++ varP u = full

set_option maxHeartbeats 4000000 in
set_option maxRecDepth 100000 in
theorem ref3Put_any (w : World) (a : Option Addr) (n c : Nat) (l : List UInt8) (u : Nat) (hu : u < 2 ^ 64) (hl : Src w 1 (.slice a n c) n (u8s l)) (hn : n ≤ 70368744177664) :
    Calls Tryz.prog 66 #[.slice a n c, .int .u64 (u : Int)] w fun e w' => ∃ v, e = .returned v ∧ MadeTo w 5 1 v (l ++ varP u).length (u8s (l ++ varP u)) w' := by
  have HL := Lib.hid hl
  have HLEN := Lib.hid (u8s_src_len hl)
  clear hl
  go_enter Tryz.func66, Tryz.ntmps66
  go_wp2_with (at_builtin; go_must (refine wpList_append_to elem_u8 rfl _ _ rfl (n := 0) (m := n) (v := .slice _ _ _) rfl rfl (row_empty (heap_alloc_new _ _)) (HL.out.ext ((Ext.refl w).alloc _)) (by unfold maxLen; omega) (by omega) ?_; intro v' w4 happ); have HM := Lib.hid (MadeTo.app (w0 := w) (fun g hg => by simp [Value.ownBlock] at hg; omega) ((Ext.refl w).alloc _) happ); obtain ⟨va, vc, rfl⟩ := happ.row.shape; clear happ)
  have H0 : Hid (Put3R w l (l ++ varP u) u n (.slice va (0 + n) vc) w4) := Lib.hid ⟨by have := HM.out; simpa using this, HLEN.out.symm, rfl⟩
  clear HM
  go_loopw [1, 5] (fun su sv wr => ∃ (u' m : Nat) (va : Option Addr) (vc : Nat) (xs : List UInt8), su = .int .u64 (u' : Int) ∧ sv = .slice va m vc ∧ u' < 2 ^ 64 ∧ m ≤ n + 10 ∧ Hid (Put3R w xs (l ++ varP u) u' m (.slice va m vc) wr)) (fun su _ _ => (RowKit.intOf su).toNat)
  case atStart => exact ⟨u, n, va, vc, l, rfl, by simp, hu, by omega, by have := H0; simpa using this⟩
  case round =>
    clear H0
    obtain ⟨u', m, va, vc, xs, rfl, rfl, hu', hm, HR⟩ := hrel
    by_cases hlt : u' < 128
    · have hlt' : (u' : Int) < 128 := by omega
      have HF : Hid (xs ++ varP u' = l ++ varP u) := Lib.hid HR.out.eq
      obtain ⟨x, hx⟩ : ∃ x : UInt8, u' = x.toNat := ⟨UInt8.ofNat u', by rw [UInt8.toNat_ofNat']; omega⟩
      have HP : Hid (varP u' = [x]) := Lib.hid (by rw [varP_lt hlt, hx]; simp)
      subst hx
      go_wp2_with (at_builtin; go_must (refine wpList_append_start elem_u8 rfl _ _ rfl rfl rfl (Start.row (HR.out.st.row.ext ((Ext.refl _).alloc _)) HR.out.st.own) (HR.out.st.ext.trans ((Ext.refl _).alloc _)) (src_byte (x := x) (heap_alloc_new _ _)) (by omega) (by unfold maxLen; omega) (by omega) ?_; intro v' w4 hmade); have HM := Lib.hid hmade; clear hmade)
      go_ret
      refine ⟨_, rfl, ?_⟩
      rw [← HF.out, HP.out, u8s_append, List.length_append, ← HR.out.len]
      exact HM.out
    · have hlt' : ¬ (u' : Int) < 128 := by omega
      obtain ⟨x, hx⟩ : ∃ x : UInt8, u' % 128 + 128 = x.toNat := ⟨UInt8.ofNat (u' % 128 + 128), by rw [UInt8.toNat_ofNat']; omega⟩
      have hx2 : (u' : Int) % 128 + 128 = (x.toNat : Int) := by omega
      have HP : Hid (varP u' = x :: varP (u' / 128)) := Lib.hid (by rw [varP_ge hlt, hx]; simp)
      clear hx
      go_wp2_with (at_builtin; go_must (refine wpList_append_start elem_u8 rfl _ _ rfl rfl rfl (Start.row (HR.out.st.row.ext ((Ext.refl _).alloc _)) HR.out.st.own) (HR.out.st.ext.trans ((Ext.refl _).alloc _)) (src_byte (x := x) (heap_alloc_new _ _)) (by omega) (by unfold maxLen; omega) (by omega) ?_; intro v' w4 hmade); have HM := Lib.hid hmade; obtain ⟨va', vc', rfl⟩ := hmade.row.shape; clear hmade)
      have HE : Hid ((xs ++ [x]) ++ varP (u' / 128) = l ++ varP u ∧ m + 1 ≤ n + 10) := Lib.hid (by
        have h1 := HR.out.eq
        rw [HP.out] at h1
        refine ⟨by rw [← h1]; simp, ?_⟩
        have h2 := congrArg List.length h1
        have h3 := varP_10 hu
        have h4 := HR.out.len
        have h5 := varP_pos (u' / 128)
        have h6 := HLEN.out
        simp at h2
        omega)
      go_roundw
      case rel => exact ⟨u' / 128, m + 1, va', vc', xs ++ [x], by first | rfl | go_num, rfl, by omega, HE.out.2, Lib.hid ⟨by rw [u8s_append]; exact HM.out, by simp; exact HR.out.len, HE.out.1⟩⟩
      case measure => simp [RowKit.intOf]; omega

set_option maxHeartbeats 4000000 in
set_option maxRecDepth 100000 in
theorem ref3PutText_any (w : World) (a : Option Addr) (n c : Nat) (l : List UInt8) (s : ByteArray) (hl : Src w 1 (.slice a n c) n (u8s l)) (hn : n ≤ 35184372088832) (hs : s.size ≤ 35184372088832) :
    Calls Tryz.prog 48 #[.slice a n c, .string s] w fun e w' => ∃ v, e = .returned v ∧ MadeTo w 5 1 v (l ++ (varP s.size ++ s.data.toList)).length (u8s (l ++ (varP s.size ++ s.data.toList))) w' := by
  have HL := Lib.hid hl
  have hlen := u8s_src_len hl
  have hsz : s.data.toList.length = s.size := by simp
  have hP := varP_10 (u := s.size) (by omega)
  have hbd : (l ++ varP s.size).length + s.size ≤ 140737488355328 := by rw [List.length_append]; omega
  have HBD := Lib.hid hbd
  have HSZ := Lib.hid hsz
  clear hl hP hbd hlen hsz
  go_enter Tryz.func48, Tryz.ntmps48
  go_wp2_with fail
  refine (ref3Put_any w a n c l s.size (by omega) HL.out (by omega)).mono ?_
  rintro e w1 ⟨v, rfl, hm⟩
  obtain ⟨N, hN⟩ : ∃ N, N = (l ++ varP s.size).length := ⟨_, rfl⟩
  rw [← hN] at hm
  have HN := Lib.hid hN
  clear hN
  obtain ⟨va, vc, rfl⟩ := hm.row.shape
  have HM := Lib.hid hm
  clear hm
  go_wp2_with (at_builtin; go_must (refine wpList_append_str rfl _ _ rfl rfl rfl HM.out (by unfold maxLen; rw [HN.out]; have := HBD.out; omega) (by rw [HN.out]; exact HBD.out) ?_; intro v' w4 hmade); have HM4 := Lib.hid hmade; clear hmade)
  go_ret
  refine ⟨_, rfl, ?_⟩
  rw [← List.append_assoc, u8s_append, List.length_append, ← HN.out, HSZ.out]
  exact HM4.out
end Go.Proofs.YtdgmnhcgjbkafaaGreatDoor
