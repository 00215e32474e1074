/- DiskRoom: the walk. -/
import Derived.Test.YtahgghhhdnfhhaaDiskE
import Derived.Test.YtahgghhhdnfhhaaDiskR
import Derived.Test.YtahgghhhdnfhhaaMake
import Derived.Test.YtahgghhhdnfhhaaOpen
namespace Go.Proofs.Ytahgghhhdnfhhaa
open Go.RowKit Go.Sort

def nmA : ByteArray := ⟨#[97]⟩
def nmB : ByteArray := ⟨#[98]⟩

/-- The disk behind some appends of zeros. -/
def roomS (R u : Nat) (made : Bool) (ops : Nat) : DiskS := ⟨if made then [(nmA, ⟨zeros u, 0, false⟩)] else [], R, u, -1, ops⟩

theorem roomS_ok {R u : Nat} {made : Bool} {ops : Nat} (hR : R ≤ 511) (hu : u ≤ R) : (roomS R u made ops).Ok := by
  refine ⟨?_, ?_, ?_, ?_, ?_, ?_, ?_, ?_, ?_, ?_, ?_⟩
  all_goals simp only [roomS]
  all_goals first | omega | (cases made <;> simp [zeros] <;> omega) | (cases made <;> simp [zeros])

theorem stops_one {s : ByteArray} (h : nameB s = true) : doStops [s] (-1) = none := by simp [doStops, h]
theorem nmA_ok : nameB nmA = true := by decide
theorem nmB_ok : nameB nmB = true := by decide

theorem room_full {R u : Nat} {made : Bool} {ops n : Nat} (h : R < u + n) : (roomS R u made ops).append nmA (zeros n) = (15, roomS R u made ops) := by
  have e : (roomS R u made ops).put nmA (zeros n) = (15, roomS R u made ops) := by
    simp only [DiskS.put]
    rw [if_pos (by simp only [roomS, zeros_length]; omega)]
  simp only [DiskS.append, DiskS.doing, e]
  rw [show (roomS R u made ops).left = -1 from rfl, stops_one nmA_ok]
  rfl

theorem room_fits {R u : Nat} {made : Bool} {ops n : Nat} (hR : R ≤ 511) (h : u + n ≤ R) (hm : made = false → u = 0) : (roomS R u made ops).append nmA (zeros n) = (0, roomS R (u + n) true (ops + 1)) := by
  have e : (roomS R u made ops).put nmA (zeros n) = (0, { roomS R (u + n) true ops with }) := by
    simp only [DiskS.put]
    rw [if_neg (by simp only [roomS, zeros_length]; omega)]
    cases made with
    | false =>
      have := hm rfl
      subst this
      simp only [roomS, aget, Bool.false_eq_true, if_false]
      rw [if_neg (by simp [zeros]; omega)]
      simp [aput, zeros]
    | true =>
      simp only [roomS, aget, if_true]
      rw [if_neg (by simp [zeros]; omega)]
      simp [aput, zeros]
  simp only [DiskS.append, DiskS.doing, e]
  rw [show (roomS R u made ops).left = -1 from rfl, stops_one nmA_ok]
  simp [DiskS.count, roomS]

theorem room_delete {R u : Nat} {made : Bool} {ops : Nat} (hm : made = false → u = 0) : (roomS R u made ops).delete nmA = (if made then 0 else 13, roomS R 0 false (if made then ops + 1 else ops)) := by
  cases made with
  | false =>
    have := hm rfl
    subst this
    simp only [DiskS.delete, DiskS.onFile, DiskS.doing]
    rw [show (roomS R 0 false ops).left = -1 from rfl, stops_one nmA_ok]
    simp [roomS, aget]
  | true =>
    simp only [DiskS.delete, DiskS.onFile, DiskS.doing]
    rw [show (roomS R u true ops).left = -1 from rfl, stops_one nmA_ok]
    simp [roomS, aget, DiskS.drop, adel, DiskS.count, zeros]

theorem room_last {R ops : Nat} (hR : R ≤ 511) : ((roomS R 0 false ops).append nmB (zeros R)).1 = 0 := by
  have e : ((roomS R 0 false ops).put nmB (zeros R)).1 = 0 := by
    simp only [DiskS.put]
    rw [if_neg (by simp only [roomS, zeros_length]; omega)]
    simp only [roomS, aget, Bool.false_eq_true, if_false]
    rw [if_neg (by simp [zeros]; omega)]
  simp only [DiskS.append, DiskS.doing]
  rw [show (roomS R 0 false ops).left = -1 from rfl, stops_one nmB_ok]
  simp [e]

/-- The disk, and all that is old as it was. -/
def RoomInv (w wr : World) (d : Nat) (S : DiskS) : Prop := ∃ B, DiskAt wr d S B ∧ (∀ b ∈ B, w.heap.size ≤ b) ∧ Ext w wr

theorem RoomInv.step {w wr w' : World} {d : Nat} {S S' : DiskS} {B : List Nat} (hB : ∀ b ∈ B, w.heap.size ≤ b) (hx : Ext w wr) (h : DiskTo wr d B S' w') : RoomInv w w' d S' := by
  obtain ⟨B', h1, h2, h3⟩ := h
  refine ⟨B', h1, fun b hb => ?_, Chg.ext (S := fun _ => False) ((Chg.of_ext hx).trans h2 (fun i hi hb => by have := hB i hb; omega)) (fun _ _ => id)⟩
  rcases h3 b hb with h | h
  · exact hB b h
  · exact Nat.le_trans hx.size h
theorem RoomInv.ext {w wr w' : World} {d : Nat} {S : DiskS} (h : RoomInv w wr d S) (hx : Ext wr w') : RoomInv w w' d S := by
  obtain ⟨B, h1, h2, h3⟩ := h
  exact ⟨B, h1.ext hx, h2, h3.trans hx⟩

set_option maxHeartbeats 4000000 in
set_option maxRecDepth 100000 in
theorem diskRoom_any (room : Int) (a : Option Addr) (n c : Nat) (zs : List Int) (w : World) (hs : Src w 1 (.slice a n c) n (ints zs)) (hn : n ≤ maxLen) :
    Calls Try.prog 3 #[.int .i64 room, .slice a n c] w fun e w' => e = .returned (.bool true) ∧ Ext w w' := by
  obtain ⟨R, hR⟩ : ∃ R : Nat, (R : Int) = bits BinOp.and IntKind.i64 room 511 := ⟨(room % 512).toNat, by rw [i64_and511]; omega⟩
  have hR5 : R ≤ 511 := by rw [i64_and511] at hR; omega
  have hR' := hR.symm
  clear hR
  unfold maxLen at hn
  have Hs := Lib.hid hs; clear hs
  go_enter Try.func3, Try.ntmps3
  go_wp2_with (go_at_call 8; refine (disk_new (by omega) (by omega) _).mono ?_; rintro e w1 ⟨rfl, hd1, hx1⟩)
  clear hR'
  have hinv : RoomInv w w1 (w.heap.size + 1) (roomS R 0 false 0) := ⟨_, hd1, by intro b hb; simp at hb; omega, hx1⟩
  have Hinv := Lib.hid hinv; clear hinv hd1 hx1
  generalize w.heap.size + 1 = d at *
  go_loopw [7, 8] (fun u i wr => ∃ (k U ops : Nat) (made : Bool), k ≤ n ∧ k ≤ 40 ∧ U ≤ R ∧ ops ≤ k ∧ i = .int .i64 k ∧ u = .int .i64 U ∧ Hid (made = false → U = 0) ∧ Hid (RoomInv w wr d (roomS R U made ops))) (fun _ i _ => 40 - (intOf i).toNat)
  case atStart => exact ⟨0, 0, 0, false, Nat.zero_le _, Nat.zero_le _, Nat.zero_le _, Nat.zero_le _, rfl, rfl, fun _ => rfl, Hinv.out⟩
  case round =>
    obtain ⟨k, U, ops, made, hk, hk4, hU, hop, rfl, rfl, hmade, hin⟩ := hrel
    by_cases hlt : k < n ∧ k < 40
    · obtain ⟨hlt1, hlt2⟩ := hlt
      obtain ⟨sb, so, ha, z, hz, hcell⟩ := ints_src (Hs.out.ext (by obtain ⟨_, _, _, h⟩ := hin.out; exact h)) hlt1
      subst ha
      obtain ⟨m, hm⟩ : ∃ m : Nat, (m : Int) = bits BinOp.and IntKind.i64 z 127 := ⟨(z % 128).toNat, by rw [i64_and127]; omega⟩
      have hm7 : m ≤ 127 := by rw [i64_and127] at hm; omega
      have hm' := hm.symm
      clear hm hz
      obtain ⟨w2, hmk, hrow, hx2⟩ := make_bytes wr m (by omega)
      obtain ⟨B, hB1, hB2, hB3⟩ := hin.out
      have Hrow := Lib.hid hrow; have Hx2 := Lib.hid hx2; have HB1 := Lib.hid hB1; have HB2 := Lib.hid hB2; have HB3 := Lib.hid hB3
      clear hrow hx2 hB1 hB2 hB3
      go_wp2_with (at_make; refine wpList_make_run rfl _ _ _ rfl _ _ _ w2 rfl rfl hmk ?_)
      refine (disk_append (roomS_ok hR5 hU) (by simp [roomS]; omega) (HB1.out.ext Hx2.out) nmA (by decide) _ m m (zeros m) (Hrow.out.src (u8s_one _)) (fun g hg hb => by
        simp [Value.ownBlock] at hg
        have := HB1.out.lt g hb
        omega) (by unfold maxLen; omega)).mono ?_
      rintro e w3 ⟨rfl, hto⟩
      have hinv3 := fun (S' : DiskS) (hS : DiskTo w2 d B S' w3) => RoomInv.step (S := roomS R U made ops) HB2.out (HB3.out.trans Hx2.out) hS
      by_cases hfit : U + m ≤ R
      · rw [room_fits hR5 hfit hmade.out] at hto ⊢
        have Hin3 := Lib.hid (hinv3 _ hto)
        clear hinv3 hto
        have hmd : Hid (true = false → U + m = 0) := fun e => by simp at e
        have hle : (m : Int) ≤ (R : Int) - (U : Int) := by omega
        clear hmk
        go_wp2_with fail
        obtain ⟨B3, hB31, hB32, hB33⟩ := Hin3.out
        refine (disk_read_some (roomS_ok hR5 hfit) hB31 nmA ⟨zeros (U + m), 0, false⟩ (by simp [roomS, aget])).mono ?_
        rintro e w4 ⟨v, rfl, hnew⟩
        obtain ⟨va, vc, rfl⟩ := hnew.1.shape
        have Hin4 := Lib.hid (Hin3.out.ext hnew.2.2)
        have hd4 := Lib.hid (hB31.ext hnew.2.2)
        clear hnew hB31 hB32 hB33
        simp only [zeros_length]
        go_wp2_with fail
        refine (disk_used hd4.out).mono ?_
        rintro e w5 ⟨rfl, rfl⟩
        simp only [roomS]
        go_wp2_with fail
        go_roundw
        case rel => exact ⟨k + 1, U + m, ops + 1, true, by omega, by omega, hfit, by omega, by go_num, by go_num, hmd, Hin4.out⟩
        case measure => simp [intOf]; omega
      · rw [room_full (by omega)] at hto ⊢
        have Hin3 := Lib.hid (hinv3 _ hto)
        clear hinv3 hto
        have hle : (R : Int) - (U : Int) < (m : Int) := by omega
        clear hmk
        go_wp2_with fail
        obtain ⟨B3, hB31, hB32, hB33⟩ := Hin3.out
        cases made with
        | true =>
          refine (disk_read_some (roomS_ok hR5 hU) hB31 nmA ⟨zeros U, 0, false⟩ (by simp [roomS, aget])).mono ?_
          rintro e w4 ⟨v, rfl, hnew⟩
          obtain ⟨va, vc, rfl⟩ := hnew.1.shape
          have Hin4 := Lib.hid (Hin3.out.ext hnew.2.2)
          have hd4 := Lib.hid (hB31.ext hnew.2.2)
          clear hnew hB31 hB32 hB33
          simp only [zeros_length]
          go_wp2_with fail
          refine (disk_used hd4.out).mono ?_
          rintro e w5 ⟨rfl, rfl⟩
          simp only [roomS]
          go_wp2_with fail
          go_roundw
          case rel => exact ⟨k + 1, U, ops, true, by omega, by omega, hU, by omega, by go_num, by go_num, hmade, Hin4.out⟩
          case measure => simp [intOf]; omega
        | false =>
          have hU0 := hmade.out rfl
          subst hU0
          refine (disk_read_none hB31 nmA (by simp [roomS, aget])).mono ?_
          rintro e w4 ⟨rfl, rfl⟩
          go_wp2_with fail
          refine (disk_used hB31).mono ?_
          rintro e w5 ⟨rfl, rfl⟩
          simp only [roomS]
          clear hB31 hB32 hB33
          go_wp2_with fail
          go_roundw
          case rel => exact ⟨k + 1, 0, ops, false, by omega, by omega, by omega, by omega, by go_num, by go_num, fun _ => rfl, Hin3.out⟩
          case measure => simp [intOf]; omega
    · obtain ⟨B, hB1, hB2, hB3⟩ := hin.out
      have HB1 := Lib.hid hB1; have HB2 := Lib.hid hB2; have HB3 := Lib.hid hB3
      clear hB1 hB2 hB3
      have hdel := disk_delete (roomS_ok (made := made) (ops := ops) hR5 hU) (by simp [roomS]; omega) HB1.out nmA (by decide)
      rw [room_delete hmade.out] at hdel
      have Hdel := Lib.hid hdel; clear hdel
      have hend : ∀ (w2 : World) (r : Nat), DiskTo wr d B (roomS R 0 false r) w2 → r ≤ ops + 1 → ∃ B2, DiskAt w2 d (roomS R 0 false r) B2 ∧ (∀ b ∈ B2, w.heap.size ≤ b) ∧ Ext w w2 := fun w2 r h _ => RoomInv.step (S := roomS R U made ops) HB2.out HB3.out h
      have Hend := Lib.hid hend; clear hend
      have hw0 := roomS_ok (R := R) (u := 0) (made := false) (ops := ops + 1) hR5 (Nat.zero_le _)
      have hw1 := roomS_ok (R := R) (u := 0) (made := false) (ops := ops) hR5 (Nat.zero_le _)
      have Hw0 := Lib.hid hw0; have Hw1 := Lib.hid hw1; clear hw0 hw1
      by_cases hkn : k < n
      · have hk40 : ¬ k < 40 := fun h => hlt ⟨hkn, h⟩
        clear hlt
        cases made
        all_goals
          go_wp2_with fail
          refine Hdel.out.mono ?_
          rintro e w2 ⟨rfl, hto⟩
          obtain ⟨B2, h21, h22, h23⟩ := Hend.out _ _ hto (by simp)
          have HB21 := Lib.hid h21; have HB22 := Lib.hid h22; have HB23 := Lib.hid h23
          clear hto h21 h22 h23
          simp only [Bool.false_eq_true, if_false, if_true] at *
          go_wp2_with fail
          refine (disk_used HB21.out).mono ?_
          rintro e w3 ⟨rfl, rfl⟩
          simp only [roomS, Int.natCast_zero]
          obtain ⟨w4, hmk, hrow, hx4⟩ := make_bytes w2 R (by omega)
          have Hrow := Lib.hid hrow; have Hx4 := Lib.hid hx4
          clear hrow hx4
          go_wp2_with (at_make; refine wpList_make_run rfl _ _ _ rfl _ _ _ w4 rfl rfl hmk ?_)
          refine (disk_append (by first | exact Hw0.out | exact Hw1.out) (by simp [roomS]; omega) (HB21.out.ext Hx4.out) nmB (by decide) _ R R (zeros R) (Hrow.out.src (u8s_one _)) (fun g hg hb => by
            simp [Value.ownBlock] at hg
            have := HB21.out.lt g hb
            omega) (by unfold maxLen; omega)).mono ?_
          rintro e w5 ⟨rfl, hto⟩
          rw [room_last hR5]
          have Hfin := Lib.hid (RoomInv.step (S := roomS R U false ops) HB22.out (HB23.out.trans Hx4.out) hto)
          clear hto hmk
          go_wp2_with fail
          go_ret
          exact ⟨rfl, by obtain ⟨_, _, _, h⟩ := Hfin.out; exact h⟩
      · clear hlt
        cases made
        all_goals
          go_wp2_with fail
          refine Hdel.out.mono ?_
          rintro e w2 ⟨rfl, hto⟩
          obtain ⟨B2, h21, h22, h23⟩ := Hend.out _ _ hto (by simp)
          have HB21 := Lib.hid h21; have HB22 := Lib.hid h22; have HB23 := Lib.hid h23
          clear hto h21 h22 h23
          simp only [Bool.false_eq_true, if_false, if_true] at *
          go_wp2_with fail
          refine (disk_used HB21.out).mono ?_
          rintro e w3 ⟨rfl, rfl⟩
          simp only [roomS, Int.natCast_zero]
          obtain ⟨w4, hmk, hrow, hx4⟩ := make_bytes w2 R (by omega)
          have Hrow := Lib.hid hrow; have Hx4 := Lib.hid hx4
          clear hrow hx4
          go_wp2_with (at_make; refine wpList_make_run rfl _ _ _ rfl _ _ _ w4 rfl rfl hmk ?_)
          refine (disk_append (by first | exact Hw0.out | exact Hw1.out) (by simp [roomS]; omega) (HB21.out.ext Hx4.out) nmB (by decide) _ R R (zeros R) (Hrow.out.src (u8s_one _)) (fun g hg hb => by
            simp [Value.ownBlock] at hg
            have := HB21.out.lt g hb
            omega) (by unfold maxLen; omega)).mono ?_
          rintro e w5 ⟨rfl, hto⟩
          rw [room_last hR5]
          have Hfin := Lib.hid (RoomInv.step (S := roomS R U false ops) HB22.out (HB23.out.trans Hx4.out) hto)
          clear hto hmk
          go_wp2_with fail
          go_ret
          exact ⟨rfl, by obtain ⟨_, _, _, h⟩ := Hfin.out; exact h⟩

end Go.Proofs.Ytahgghhhdnfhhaa
