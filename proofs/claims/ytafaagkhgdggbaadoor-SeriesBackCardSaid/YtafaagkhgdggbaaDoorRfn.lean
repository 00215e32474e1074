/- The document's answer: tidemillref12.Valid. -/
import Derived.Test.YtafaagkhgdggbaaDoorSer
import Derived.Test.YtafaagkhgdggbaaDoorRow
import Derived.WalkKit
import Derived.WalkSpells
import Derived.BigQuiet
import Derived.Deep.QuietTactic
namespace Go.Proofs.YtafaagkhgdggbaaDoor
open Go.RowKit Go.Sort Go.Lib

/-- A byte that a name may hold, as the document says. -/
def okZ (x : Int) : Bool := (decide (97 ≤ x) && decide (x ≤ 122)) || (decide (65 ≤ x) && decide (x ≤ 90)) || (decide (48 ≤ x) && decide (x ≤ 57)) || x == 95 || x == 46 || x == 45 || x == 58 || x == 47 || x == 61 || x == 44

theorem okZ_nat : ∀ n : Fin 256, okByte (UInt8.ofNat n.val) = okZ n.val := by decide +kernel
theorem okZ_eq (c : UInt8) : okByte c = okZ (c.toNat : Int) := by
  have h := okZ_nat ⟨c.toNat, c.toNat_lt⟩
  simpa using h

/-- Where a byte lies. -/
theorem byte_lies (x : Int) (h0 : 0 ≤ x) (h1 : x ≤ 255) : (0 ≤ x ∧ x ≤ 43) ∨ (44 ≤ x ∧ x ≤ 44) ∨ (45 ≤ x ∧ x ≤ 45) ∨ (46 ≤ x ∧ x ≤ 46) ∨ (47 ≤ x ∧ x ≤ 47) ∨ (48 ≤ x ∧ x ≤ 57) ∨ (58 ≤ x ∧ x ≤ 58) ∨ (59 ≤ x ∧ x ≤ 60) ∨ (61 ≤ x ∧ x ≤ 61) ∨ (62 ≤ x ∧ x ≤ 64) ∨ (65 ≤ x ∧ x ≤ 90) ∨ (91 ≤ x ∧ x ≤ 94) ∨ (95 ≤ x ∧ x ≤ 95) ∨ (96 ≤ x ∧ x ≤ 96) ∨ (97 ≤ x ∧ x ≤ 122) ∨ (123 ≤ x ∧ x ≤ 255) := by omega

set_option maxHeartbeats 4000000 in
theorem refName_any (s : ByteArray) (w : World) (hs : s.size ≤ maxLen) :
    Calls Tryd.prog 21 #[.string s] w fun e w' => e = .returned (.bool (validL s.data.toList)) ∧ w = w' := by
  unfold maxLen at hs
  go_enter Tryd.func21, Tryd.ntmps21
  go_wp2_with fail
  go_loop [3] (fun i => ∃ k : Nat, k ≤ s.size ∧ i = .int .i64 k ∧ Hid ((s.data.toList.take k).all okByte = true)) (fun i => s.size - (RowKit.intOf i).toNat)
  case atStart => exact ⟨0, Nat.zero_le _, rfl, rfl⟩
  case round =>
    obtain ⟨k, hk, rfl, hall⟩ := hrel
    by_cases hlt : k < s.size
    · have HN : Hid (okZ (s[k].toNat : Int) = true → (s.data.toList.take (k + 1)).all okByte = true) := Lib.hid (fun h => by rw [all_take_succ hlt, hall.out, okZ_eq, h]; rfl)
      have HB : Hid (okZ (s[k].toNat : Int) = false → validL s.data.toList = false) := Lib.hid (fun h => valid_bad hlt (by rw [okZ_eq, h]))
      have hl := byte_lies (s[k].toNat : Int) (Int.natCast_nonneg _) (by have := s[k].toNat_lt; omega)
      rcases hl with ⟨h1, h2⟩ | ⟨h1, h2⟩ | ⟨h1, h2⟩ | ⟨h1, h2⟩ | ⟨h1, h2⟩ | ⟨h1, h2⟩ | ⟨h1, h2⟩ | ⟨h1, h2⟩ | ⟨h1, h2⟩ | ⟨h1, h2⟩ | ⟨h1, h2⟩ | ⟨h1, h2⟩ | ⟨h1, h2⟩ | ⟨h1, h2⟩ | ⟨h1, h2⟩ | ⟨h1, h2⟩
      · have f1 : (97 ≤ (s[k].toNat : Int)) = False := eq_false (by omega)
        have f2 : ((s[k].toNat : Int) ≤ 122) = True := eq_true (by omega)
        have f3 : (65 ≤ (s[k].toNat : Int)) = False := eq_false (by omega)
        have f4 : ((s[k].toNat : Int) ≤ 90) = True := eq_true (by omega)
        have f5 : (48 ≤ (s[k].toNat : Int)) = False := eq_false (by omega)
        have f6 : ((s[k].toNat : Int) ≤ 57) = True := eq_true (by omega)
        have g0 : ((s[k].toNat : Int) == 95) = false := beq_eq_false_iff_ne.2 (by omega)
        have g1 : ((s[k].toNat : Int) == 46) = false := beq_eq_false_iff_ne.2 (by omega)
        have g2 : ((s[k].toNat : Int) == 45) = false := beq_eq_false_iff_ne.2 (by omega)
        have g3 : ((s[k].toNat : Int) == 58) = false := beq_eq_false_iff_ne.2 (by omega)
        have g4 : ((s[k].toNat : Int) == 47) = false := beq_eq_false_iff_ne.2 (by omega)
        have g5 : ((s[k].toNat : Int) == 61) = false := beq_eq_false_iff_ne.2 (by omega)
        have g6 : ((s[k].toNat : Int) == 44) = false := beq_eq_false_iff_ne.2 (by omega)
        have HO : Hid (okZ (s[k].toNat : Int) = false) := Lib.hid (by simp [okZ, f1, f2, f3, f4, f5, f6, g0, g1, g2, g3, g4, g5, g6])
        clear h1 h2
        go_wp2_with fail
        go_ret
        exact ⟨by rw [HB.out HO.out]; rfl, rfl⟩
      · have f1 : (97 ≤ (s[k].toNat : Int)) = False := eq_false (by omega)
        have f2 : ((s[k].toNat : Int) ≤ 122) = True := eq_true (by omega)
        have f3 : (65 ≤ (s[k].toNat : Int)) = False := eq_false (by omega)
        have f4 : ((s[k].toNat : Int) ≤ 90) = True := eq_true (by omega)
        have f5 : (48 ≤ (s[k].toNat : Int)) = False := eq_false (by omega)
        have f6 : ((s[k].toNat : Int) ≤ 57) = True := eq_true (by omega)
        have g0 : ((s[k].toNat : Int) == 95) = false := beq_eq_false_iff_ne.2 (by omega)
        have g1 : ((s[k].toNat : Int) == 46) = false := beq_eq_false_iff_ne.2 (by omega)
        have g2 : ((s[k].toNat : Int) == 45) = false := beq_eq_false_iff_ne.2 (by omega)
        have g3 : ((s[k].toNat : Int) == 58) = false := beq_eq_false_iff_ne.2 (by omega)
        have g4 : ((s[k].toNat : Int) == 47) = false := beq_eq_false_iff_ne.2 (by omega)
        have g5 : ((s[k].toNat : Int) == 61) = false := beq_eq_false_iff_ne.2 (by omega)
        have g6 : ((s[k].toNat : Int) == 44) = true := beq_iff_eq.2 (by omega)
        have HO : Hid (okZ (s[k].toNat : Int) = true) := Lib.hid (by simp [okZ, f1, f2, f3, f4, f5, f6, g0, g1, g2, g3, g4, g5, g6])
        clear h1 h2
        go_wp2_with fail
        go_round
        case rel => exact ⟨k + 1, by omega, by go_num, Lib.hid (HN.out HO.out)⟩
        case measure => simp [RowKit.intOf]; omega
      · have f1 : (97 ≤ (s[k].toNat : Int)) = False := eq_false (by omega)
        have f2 : ((s[k].toNat : Int) ≤ 122) = True := eq_true (by omega)
        have f3 : (65 ≤ (s[k].toNat : Int)) = False := eq_false (by omega)
        have f4 : ((s[k].toNat : Int) ≤ 90) = True := eq_true (by omega)
        have f5 : (48 ≤ (s[k].toNat : Int)) = False := eq_false (by omega)
        have f6 : ((s[k].toNat : Int) ≤ 57) = True := eq_true (by omega)
        have g0 : ((s[k].toNat : Int) == 95) = false := beq_eq_false_iff_ne.2 (by omega)
        have g1 : ((s[k].toNat : Int) == 46) = false := beq_eq_false_iff_ne.2 (by omega)
        have g2 : ((s[k].toNat : Int) == 45) = true := beq_iff_eq.2 (by omega)
        have g3 : ((s[k].toNat : Int) == 58) = false := beq_eq_false_iff_ne.2 (by omega)
        have g4 : ((s[k].toNat : Int) == 47) = false := beq_eq_false_iff_ne.2 (by omega)
        have g5 : ((s[k].toNat : Int) == 61) = false := beq_eq_false_iff_ne.2 (by omega)
        have g6 : ((s[k].toNat : Int) == 44) = false := beq_eq_false_iff_ne.2 (by omega)
        have HO : Hid (okZ (s[k].toNat : Int) = true) := Lib.hid (by simp [okZ, f1, f2, f3, f4, f5, f6, g0, g1, g2, g3, g4, g5, g6])
        clear h1 h2
        go_wp2_with fail
        go_round
        case rel => exact ⟨k + 1, by omega, by go_num, Lib.hid (HN.out HO.out)⟩
        case measure => simp [RowKit.intOf]; omega
      · have f1 : (97 ≤ (s[k].toNat : Int)) = False := eq_false (by omega)
        have f2 : ((s[k].toNat : Int) ≤ 122) = True := eq_true (by omega)
        have f3 : (65 ≤ (s[k].toNat : Int)) = False := eq_false (by omega)
        have f4 : ((s[k].toNat : Int) ≤ 90) = True := eq_true (by omega)
        have f5 : (48 ≤ (s[k].toNat : Int)) = False := eq_false (by omega)
        have f6 : ((s[k].toNat : Int) ≤ 57) = True := eq_true (by omega)
        have g0 : ((s[k].toNat : Int) == 95) = false := beq_eq_false_iff_ne.2 (by omega)
        have g1 : ((s[k].toNat : Int) == 46) = true := beq_iff_eq.2 (by omega)
        have g2 : ((s[k].toNat : Int) == 45) = false := beq_eq_false_iff_ne.2 (by omega)
        have g3 : ((s[k].toNat : Int) == 58) = false := beq_eq_false_iff_ne.2 (by omega)
        have g4 : ((s[k].toNat : Int) == 47) = false := beq_eq_false_iff_ne.2 (by omega)
        have g5 : ((s[k].toNat : Int) == 61) = false := beq_eq_false_iff_ne.2 (by omega)
        have g6 : ((s[k].toNat : Int) == 44) = false := beq_eq_false_iff_ne.2 (by omega)
        have HO : Hid (okZ (s[k].toNat : Int) = true) := Lib.hid (by simp [okZ, f1, f2, f3, f4, f5, f6, g0, g1, g2, g3, g4, g5, g6])
        clear h1 h2
        go_wp2_with fail
        go_round
        case rel => exact ⟨k + 1, by omega, by go_num, Lib.hid (HN.out HO.out)⟩
        case measure => simp [RowKit.intOf]; omega
      · have f1 : (97 ≤ (s[k].toNat : Int)) = False := eq_false (by omega)
        have f2 : ((s[k].toNat : Int) ≤ 122) = True := eq_true (by omega)
        have f3 : (65 ≤ (s[k].toNat : Int)) = False := eq_false (by omega)
        have f4 : ((s[k].toNat : Int) ≤ 90) = True := eq_true (by omega)
        have f5 : (48 ≤ (s[k].toNat : Int)) = False := eq_false (by omega)
        have f6 : ((s[k].toNat : Int) ≤ 57) = True := eq_true (by omega)
        have g0 : ((s[k].toNat : Int) == 95) = false := beq_eq_false_iff_ne.2 (by omega)
        have g1 : ((s[k].toNat : Int) == 46) = false := beq_eq_false_iff_ne.2 (by omega)
        have g2 : ((s[k].toNat : Int) == 45) = false := beq_eq_false_iff_ne.2 (by omega)
        have g3 : ((s[k].toNat : Int) == 58) = false := beq_eq_false_iff_ne.2 (by omega)
        have g4 : ((s[k].toNat : Int) == 47) = true := beq_iff_eq.2 (by omega)
        have g5 : ((s[k].toNat : Int) == 61) = false := beq_eq_false_iff_ne.2 (by omega)
        have g6 : ((s[k].toNat : Int) == 44) = false := beq_eq_false_iff_ne.2 (by omega)
        have HO : Hid (okZ (s[k].toNat : Int) = true) := Lib.hid (by simp [okZ, f1, f2, f3, f4, f5, f6, g0, g1, g2, g3, g4, g5, g6])
        clear h1 h2
        go_wp2_with fail
        go_round
        case rel => exact ⟨k + 1, by omega, by go_num, Lib.hid (HN.out HO.out)⟩
        case measure => simp [RowKit.intOf]; omega
      · have f1 : (97 ≤ (s[k].toNat : Int)) = False := eq_false (by omega)
        have f2 : ((s[k].toNat : Int) ≤ 122) = True := eq_true (by omega)
        have f3 : (65 ≤ (s[k].toNat : Int)) = False := eq_false (by omega)
        have f4 : ((s[k].toNat : Int) ≤ 90) = True := eq_true (by omega)
        have f5 : (48 ≤ (s[k].toNat : Int)) = True := eq_true (by omega)
        have f6 : ((s[k].toNat : Int) ≤ 57) = True := eq_true (by omega)
        have g0 : ((s[k].toNat : Int) == 95) = false := beq_eq_false_iff_ne.2 (by omega)
        have g1 : ((s[k].toNat : Int) == 46) = false := beq_eq_false_iff_ne.2 (by omega)
        have g2 : ((s[k].toNat : Int) == 45) = false := beq_eq_false_iff_ne.2 (by omega)
        have g3 : ((s[k].toNat : Int) == 58) = false := beq_eq_false_iff_ne.2 (by omega)
        have g4 : ((s[k].toNat : Int) == 47) = false := beq_eq_false_iff_ne.2 (by omega)
        have g5 : ((s[k].toNat : Int) == 61) = false := beq_eq_false_iff_ne.2 (by omega)
        have g6 : ((s[k].toNat : Int) == 44) = false := beq_eq_false_iff_ne.2 (by omega)
        have HO : Hid (okZ (s[k].toNat : Int) = true) := Lib.hid (by simp [okZ, f1, f2, f3, f4, f5, f6, g0, g1, g2, g3, g4, g5, g6])
        clear h1 h2
        go_wp2_with fail
        go_round
        case rel => exact ⟨k + 1, by omega, by go_num, Lib.hid (HN.out HO.out)⟩
        case measure => simp [RowKit.intOf]; omega
      · have f1 : (97 ≤ (s[k].toNat : Int)) = False := eq_false (by omega)
        have f2 : ((s[k].toNat : Int) ≤ 122) = True := eq_true (by omega)
        have f3 : (65 ≤ (s[k].toNat : Int)) = False := eq_false (by omega)
        have f4 : ((s[k].toNat : Int) ≤ 90) = True := eq_true (by omega)
        have f5 : (48 ≤ (s[k].toNat : Int)) = True := eq_true (by omega)
        have f6 : ((s[k].toNat : Int) ≤ 57) = False := eq_false (by omega)
        have g0 : ((s[k].toNat : Int) == 95) = false := beq_eq_false_iff_ne.2 (by omega)
        have g1 : ((s[k].toNat : Int) == 46) = false := beq_eq_false_iff_ne.2 (by omega)
        have g2 : ((s[k].toNat : Int) == 45) = false := beq_eq_false_iff_ne.2 (by omega)
        have g3 : ((s[k].toNat : Int) == 58) = true := beq_iff_eq.2 (by omega)
        have g4 : ((s[k].toNat : Int) == 47) = false := beq_eq_false_iff_ne.2 (by omega)
        have g5 : ((s[k].toNat : Int) == 61) = false := beq_eq_false_iff_ne.2 (by omega)
        have g6 : ((s[k].toNat : Int) == 44) = false := beq_eq_false_iff_ne.2 (by omega)
        have HO : Hid (okZ (s[k].toNat : Int) = true) := Lib.hid (by simp [okZ, f1, f2, f3, f4, f5, f6, g0, g1, g2, g3, g4, g5, g6])
        clear h1 h2
        go_wp2_with fail
        go_round
        case rel => exact ⟨k + 1, by omega, by go_num, Lib.hid (HN.out HO.out)⟩
        case measure => simp [RowKit.intOf]; omega
      · have f1 : (97 ≤ (s[k].toNat : Int)) = False := eq_false (by omega)
        have f2 : ((s[k].toNat : Int) ≤ 122) = True := eq_true (by omega)
        have f3 : (65 ≤ (s[k].toNat : Int)) = False := eq_false (by omega)
        have f4 : ((s[k].toNat : Int) ≤ 90) = True := eq_true (by omega)
        have f5 : (48 ≤ (s[k].toNat : Int)) = True := eq_true (by omega)
        have f6 : ((s[k].toNat : Int) ≤ 57) = False := eq_false (by omega)
        have g0 : ((s[k].toNat : Int) == 95) = false := beq_eq_false_iff_ne.2 (by omega)
        have g1 : ((s[k].toNat : Int) == 46) = false := beq_eq_false_iff_ne.2 (by omega)
        have g2 : ((s[k].toNat : Int) == 45) = false := beq_eq_false_iff_ne.2 (by omega)
        have g3 : ((s[k].toNat : Int) == 58) = false := beq_eq_false_iff_ne.2 (by omega)
        have g4 : ((s[k].toNat : Int) == 47) = false := beq_eq_false_iff_ne.2 (by omega)
        have g5 : ((s[k].toNat : Int) == 61) = false := beq_eq_false_iff_ne.2 (by omega)
        have g6 : ((s[k].toNat : Int) == 44) = false := beq_eq_false_iff_ne.2 (by omega)
        have HO : Hid (okZ (s[k].toNat : Int) = false) := Lib.hid (by simp [okZ, f1, f2, f3, f4, f5, f6, g0, g1, g2, g3, g4, g5, g6])
        clear h1 h2
        go_wp2_with fail
        go_ret
        exact ⟨by rw [HB.out HO.out]; rfl, rfl⟩
      · have f1 : (97 ≤ (s[k].toNat : Int)) = False := eq_false (by omega)
        have f2 : ((s[k].toNat : Int) ≤ 122) = True := eq_true (by omega)
        have f3 : (65 ≤ (s[k].toNat : Int)) = False := eq_false (by omega)
        have f4 : ((s[k].toNat : Int) ≤ 90) = True := eq_true (by omega)
        have f5 : (48 ≤ (s[k].toNat : Int)) = True := eq_true (by omega)
        have f6 : ((s[k].toNat : Int) ≤ 57) = False := eq_false (by omega)
        have g0 : ((s[k].toNat : Int) == 95) = false := beq_eq_false_iff_ne.2 (by omega)
        have g1 : ((s[k].toNat : Int) == 46) = false := beq_eq_false_iff_ne.2 (by omega)
        have g2 : ((s[k].toNat : Int) == 45) = false := beq_eq_false_iff_ne.2 (by omega)
        have g3 : ((s[k].toNat : Int) == 58) = false := beq_eq_false_iff_ne.2 (by omega)
        have g4 : ((s[k].toNat : Int) == 47) = false := beq_eq_false_iff_ne.2 (by omega)
        have g5 : ((s[k].toNat : Int) == 61) = true := beq_iff_eq.2 (by omega)
        have g6 : ((s[k].toNat : Int) == 44) = false := beq_eq_false_iff_ne.2 (by omega)
        have HO : Hid (okZ (s[k].toNat : Int) = true) := Lib.hid (by simp [okZ, f1, f2, f3, f4, f5, f6, g0, g1, g2, g3, g4, g5, g6])
        clear h1 h2
        go_wp2_with fail
        go_round
        case rel => exact ⟨k + 1, by omega, by go_num, Lib.hid (HN.out HO.out)⟩
        case measure => simp [RowKit.intOf]; omega
      · have f1 : (97 ≤ (s[k].toNat : Int)) = False := eq_false (by omega)
        have f2 : ((s[k].toNat : Int) ≤ 122) = True := eq_true (by omega)
        have f3 : (65 ≤ (s[k].toNat : Int)) = False := eq_false (by omega)
        have f4 : ((s[k].toNat : Int) ≤ 90) = True := eq_true (by omega)
        have f5 : (48 ≤ (s[k].toNat : Int)) = True := eq_true (by omega)
        have f6 : ((s[k].toNat : Int) ≤ 57) = False := eq_false (by omega)
        have g0 : ((s[k].toNat : Int) == 95) = false := beq_eq_false_iff_ne.2 (by omega)
        have g1 : ((s[k].toNat : Int) == 46) = false := beq_eq_false_iff_ne.2 (by omega)
        have g2 : ((s[k].toNat : Int) == 45) = false := beq_eq_false_iff_ne.2 (by omega)
        have g3 : ((s[k].toNat : Int) == 58) = false := beq_eq_false_iff_ne.2 (by omega)
        have g4 : ((s[k].toNat : Int) == 47) = false := beq_eq_false_iff_ne.2 (by omega)
        have g5 : ((s[k].toNat : Int) == 61) = false := beq_eq_false_iff_ne.2 (by omega)
        have g6 : ((s[k].toNat : Int) == 44) = false := beq_eq_false_iff_ne.2 (by omega)
        have HO : Hid (okZ (s[k].toNat : Int) = false) := Lib.hid (by simp [okZ, f1, f2, f3, f4, f5, f6, g0, g1, g2, g3, g4, g5, g6])
        clear h1 h2
        go_wp2_with fail
        go_ret
        exact ⟨by rw [HB.out HO.out]; rfl, rfl⟩
      · have f1 : (97 ≤ (s[k].toNat : Int)) = False := eq_false (by omega)
        have f2 : ((s[k].toNat : Int) ≤ 122) = True := eq_true (by omega)
        have f3 : (65 ≤ (s[k].toNat : Int)) = True := eq_true (by omega)
        have f4 : ((s[k].toNat : Int) ≤ 90) = True := eq_true (by omega)
        have f5 : (48 ≤ (s[k].toNat : Int)) = True := eq_true (by omega)
        have f6 : ((s[k].toNat : Int) ≤ 57) = False := eq_false (by omega)
        have g0 : ((s[k].toNat : Int) == 95) = false := beq_eq_false_iff_ne.2 (by omega)
        have g1 : ((s[k].toNat : Int) == 46) = false := beq_eq_false_iff_ne.2 (by omega)
        have g2 : ((s[k].toNat : Int) == 45) = false := beq_eq_false_iff_ne.2 (by omega)
        have g3 : ((s[k].toNat : Int) == 58) = false := beq_eq_false_iff_ne.2 (by omega)
        have g4 : ((s[k].toNat : Int) == 47) = false := beq_eq_false_iff_ne.2 (by omega)
        have g5 : ((s[k].toNat : Int) == 61) = false := beq_eq_false_iff_ne.2 (by omega)
        have g6 : ((s[k].toNat : Int) == 44) = false := beq_eq_false_iff_ne.2 (by omega)
        have HO : Hid (okZ (s[k].toNat : Int) = true) := Lib.hid (by simp [okZ, f1, f2, f3, f4, f5, f6, g0, g1, g2, g3, g4, g5, g6])
        clear h1 h2
        go_wp2_with fail
        go_round
        case rel => exact ⟨k + 1, by omega, by go_num, Lib.hid (HN.out HO.out)⟩
        case measure => simp [RowKit.intOf]; omega
      · have f1 : (97 ≤ (s[k].toNat : Int)) = False := eq_false (by omega)
        have f2 : ((s[k].toNat : Int) ≤ 122) = True := eq_true (by omega)
        have f3 : (65 ≤ (s[k].toNat : Int)) = True := eq_true (by omega)
        have f4 : ((s[k].toNat : Int) ≤ 90) = False := eq_false (by omega)
        have f5 : (48 ≤ (s[k].toNat : Int)) = True := eq_true (by omega)
        have f6 : ((s[k].toNat : Int) ≤ 57) = False := eq_false (by omega)
        have g0 : ((s[k].toNat : Int) == 95) = false := beq_eq_false_iff_ne.2 (by omega)
        have g1 : ((s[k].toNat : Int) == 46) = false := beq_eq_false_iff_ne.2 (by omega)
        have g2 : ((s[k].toNat : Int) == 45) = false := beq_eq_false_iff_ne.2 (by omega)
        have g3 : ((s[k].toNat : Int) == 58) = false := beq_eq_false_iff_ne.2 (by omega)
        have g4 : ((s[k].toNat : Int) == 47) = false := beq_eq_false_iff_ne.2 (by omega)
        have g5 : ((s[k].toNat : Int) == 61) = false := beq_eq_false_iff_ne.2 (by omega)
        have g6 : ((s[k].toNat : Int) == 44) = false := beq_eq_false_iff_ne.2 (by omega)
        have HO : Hid (okZ (s[k].toNat : Int) = false) := Lib.hid (by simp [okZ, f1, f2, f3, f4, f5, f6, g0, g1, g2, g3, g4, g5, g6])
        clear h1 h2
        go_wp2_with fail
        go_ret
        exact ⟨by rw [HB.out HO.out]; rfl, rfl⟩
      · have f1 : (97 ≤ (s[k].toNat : Int)) = False := eq_false (by omega)
        have f2 : ((s[k].toNat : Int) ≤ 122) = True := eq_true (by omega)
        have f3 : (65 ≤ (s[k].toNat : Int)) = True := eq_true (by omega)
        have f4 : ((s[k].toNat : Int) ≤ 90) = False := eq_false (by omega)
        have f5 : (48 ≤ (s[k].toNat : Int)) = True := eq_true (by omega)
        have f6 : ((s[k].toNat : Int) ≤ 57) = False := eq_false (by omega)
        have g0 : ((s[k].toNat : Int) == 95) = true := beq_iff_eq.2 (by omega)
        have g1 : ((s[k].toNat : Int) == 46) = false := beq_eq_false_iff_ne.2 (by omega)
        have g2 : ((s[k].toNat : Int) == 45) = false := beq_eq_false_iff_ne.2 (by omega)
        have g3 : ((s[k].toNat : Int) == 58) = false := beq_eq_false_iff_ne.2 (by omega)
        have g4 : ((s[k].toNat : Int) == 47) = false := beq_eq_false_iff_ne.2 (by omega)
        have g5 : ((s[k].toNat : Int) == 61) = false := beq_eq_false_iff_ne.2 (by omega)
        have g6 : ((s[k].toNat : Int) == 44) = false := beq_eq_false_iff_ne.2 (by omega)
        have HO : Hid (okZ (s[k].toNat : Int) = true) := Lib.hid (by simp [okZ, f1, f2, f3, f4, f5, f6, g0, g1, g2, g3, g4, g5, g6])
        clear h1 h2
        go_wp2_with fail
        go_round
        case rel => exact ⟨k + 1, by omega, by go_num, Lib.hid (HN.out HO.out)⟩
        case measure => simp [RowKit.intOf]; omega
      · have f1 : (97 ≤ (s[k].toNat : Int)) = False := eq_false (by omega)
        have f2 : ((s[k].toNat : Int) ≤ 122) = True := eq_true (by omega)
        have f3 : (65 ≤ (s[k].toNat : Int)) = True := eq_true (by omega)
        have f4 : ((s[k].toNat : Int) ≤ 90) = False := eq_false (by omega)
        have f5 : (48 ≤ (s[k].toNat : Int)) = True := eq_true (by omega)
        have f6 : ((s[k].toNat : Int) ≤ 57) = False := eq_false (by omega)
        have g0 : ((s[k].toNat : Int) == 95) = false := beq_eq_false_iff_ne.2 (by omega)
        have g1 : ((s[k].toNat : Int) == 46) = false := beq_eq_false_iff_ne.2 (by omega)
        have g2 : ((s[k].toNat : Int) == 45) = false := beq_eq_false_iff_ne.2 (by omega)
        have g3 : ((s[k].toNat : Int) == 58) = false := beq_eq_false_iff_ne.2 (by omega)
        have g4 : ((s[k].toNat : Int) == 47) = false := beq_eq_false_iff_ne.2 (by omega)
        have g5 : ((s[k].toNat : Int) == 61) = false := beq_eq_false_iff_ne.2 (by omega)
        have g6 : ((s[k].toNat : Int) == 44) = false := beq_eq_false_iff_ne.2 (by omega)
        have HO : Hid (okZ (s[k].toNat : Int) = false) := Lib.hid (by simp [okZ, f1, f2, f3, f4, f5, f6, g0, g1, g2, g3, g4, g5, g6])
        clear h1 h2
        go_wp2_with fail
        go_ret
        exact ⟨by rw [HB.out HO.out]; rfl, rfl⟩
      · have f1 : (97 ≤ (s[k].toNat : Int)) = True := eq_true (by omega)
        have f2 : ((s[k].toNat : Int) ≤ 122) = True := eq_true (by omega)
        have f3 : (65 ≤ (s[k].toNat : Int)) = True := eq_true (by omega)
        have f4 : ((s[k].toNat : Int) ≤ 90) = False := eq_false (by omega)
        have f5 : (48 ≤ (s[k].toNat : Int)) = True := eq_true (by omega)
        have f6 : ((s[k].toNat : Int) ≤ 57) = False := eq_false (by omega)
        have g0 : ((s[k].toNat : Int) == 95) = false := beq_eq_false_iff_ne.2 (by omega)
        have g1 : ((s[k].toNat : Int) == 46) = false := beq_eq_false_iff_ne.2 (by omega)
        have g2 : ((s[k].toNat : Int) == 45) = false := beq_eq_false_iff_ne.2 (by omega)
        have g3 : ((s[k].toNat : Int) == 58) = false := beq_eq_false_iff_ne.2 (by omega)
        have g4 : ((s[k].toNat : Int) == 47) = false := beq_eq_false_iff_ne.2 (by omega)
        have g5 : ((s[k].toNat : Int) == 61) = false := beq_eq_false_iff_ne.2 (by omega)
        have g6 : ((s[k].toNat : Int) == 44) = false := beq_eq_false_iff_ne.2 (by omega)
        have HO : Hid (okZ (s[k].toNat : Int) = true) := Lib.hid (by simp [okZ, f1, f2, f3, f4, f5, f6, g0, g1, g2, g3, g4, g5, g6])
        clear h1 h2
        go_wp2_with fail
        go_round
        case rel => exact ⟨k + 1, by omega, by go_num, Lib.hid (HN.out HO.out)⟩
        case measure => simp [RowKit.intOf]; omega
      · have f1 : (97 ≤ (s[k].toNat : Int)) = True := eq_true (by omega)
        have f2 : ((s[k].toNat : Int) ≤ 122) = False := eq_false (by omega)
        have f3 : (65 ≤ (s[k].toNat : Int)) = True := eq_true (by omega)
        have f4 : ((s[k].toNat : Int) ≤ 90) = False := eq_false (by omega)
        have f5 : (48 ≤ (s[k].toNat : Int)) = True := eq_true (by omega)
        have f6 : ((s[k].toNat : Int) ≤ 57) = False := eq_false (by omega)
        have g0 : ((s[k].toNat : Int) == 95) = false := beq_eq_false_iff_ne.2 (by omega)
        have g1 : ((s[k].toNat : Int) == 46) = false := beq_eq_false_iff_ne.2 (by omega)
        have g2 : ((s[k].toNat : Int) == 45) = false := beq_eq_false_iff_ne.2 (by omega)
        have g3 : ((s[k].toNat : Int) == 58) = false := beq_eq_false_iff_ne.2 (by omega)
        have g4 : ((s[k].toNat : Int) == 47) = false := beq_eq_false_iff_ne.2 (by omega)
        have g5 : ((s[k].toNat : Int) == 61) = false := beq_eq_false_iff_ne.2 (by omega)
        have g6 : ((s[k].toNat : Int) == 44) = false := beq_eq_false_iff_ne.2 (by omega)
        have HO : Hid (okZ (s[k].toNat : Int) = false) := Lib.hid (by simp [okZ, f1, f2, f3, f4, f5, f6, g0, g1, g2, g3, g4, g5, g6])
        clear h1 h2
        go_wp2_with fail
        go_ret
        exact ⟨by rw [HB.out HO.out]; rfl, rfl⟩
    · have He := Lib.hid (valid_end hlt hall.out)
      have HE1 : Hid (s.toList.isEmpty = (s.size == 0)) := Lib.hid (toList_nil s)
      by_cases h0 : s.size = 0
      · have h0' : ¬ (1 ≤ (s.size : Int)) := by omega
        have HZ := Lib.hid h0
        clear h0
        go_wp2_with fail
        go_ret
        exact ⟨by rw [He.out, HE1.out, HZ.out]; rfl, rfl⟩
      · have h0' : (1 ≤ (s.size : Int)) := by omega
        have HZ : Hid ((s.size == 0) = false) := Lib.hid (by simp [h0])
        clear h0
        go_wp2_with fail
        go_ret
        exact ⟨by rw [He.out, HE1.out, HZ.out]; rfl, rfl⟩

end Go.Proofs.YtafaagkhgdggbaaDoor
