/- DiskCuts: the walk. -/
import Derived.Test.YtahgghhhdnfhhaaDiskF
import Derived.Test.YtahgghhhdnfhhaaDiskRoom
import Derived.Lib.SlBytesConst
namespace Go.Proofs.Ytahgghhhdnfhhaa
open Go.RowKit Go.Sort

def cb (k : Nat) : List UInt8 := (List.range k).map Nat.toUInt8
theorem cb_length (k : Nat) : (cb k).length = k := by simp [cb]
theorem cb_succ (k : Nat) : cb (k + 1) = cb k ++ [k.toUInt8] := by simp [cb, List.range_succ]

def cutS (k : Nat) (left : Int) : DiskS := ⟨if k = 0 then [] else [(nmA, ⟨cb k, 0, false⟩)], 1000, k, left, k⟩

theorem cutS_ok {k : Nat} {left : Int} (hk : k ≤ 100) (h0 : -1 ≤ left) (h1 : left ≤ 100) : (cutS k left).Ok := by
  refine ⟨?_, ?_, ?_, ?_, ?_, ?_, ?_, ?_, ?_, ?_, ?_⟩
  all_goals simp only [cutS]
  all_goals first | omega | (split <;> simp [cb] <;> omega) | (split <;> simp [cb])

theorem stops_left {ns : List ByteArray} {left : Int} (h : ns.all nameB = true) (hl : left ≠ 0) : doStops ns left = none := by simp [doStops, h, hl]
theorem stops_cut {ns : List ByteArray} (h : ns.all nameB = true) : doStops ns 0 = some 17 := by simp [doStops, h]

theorem cut_append {k : Nat} {left : Int} (hk : k ≤ 100) (hl : left ≠ 0) : (cutS k left).append nmA [k.toUInt8] = (0, cutS (k + 1) (if 0 < left then left - 1 else left)) := by
  have e : (cutS k left).put nmA [k.toUInt8] = (0, { cutS (k + 1) left with ops := k }) := by
    simp only [DiskS.put]
    rw [if_neg (by simp [cutS]; omega)]
    by_cases h0 : k = 0
    · subst h0
      simp only [cutS, aget, if_true]
      rw [if_neg (by simp)]
      simp [aput, cb]
    · simp only [cutS, h0, if_false, aget, if_true]
      rw [if_neg (by simp [cb]; omega)]
      simp [aput, cb_succ]
  simp only [DiskS.append, DiskS.doing, e]
  rw [show (cutS k left).left = left from rfl, stops_left (by decide) hl]
  simp [DiskS.count, cutS]

theorem cut_nil {k : Nat} (hk : k ≤ 100) : ((cutS k (-1)).append nmA []).1 = 0 ∧ ((cutS k (-1)).append nmA []).2.ops = k + 1 := by
  have e : ((cutS k (-1)).put nmA []).1 = 0 ∧ ((cutS k (-1)).put nmA []).2.ops = k := by
    simp only [DiskS.put]
    rw [if_neg (by simp [cutS]; omega)]
    by_cases h0 : k = 0
    · subst h0
      simp only [cutS, aget, if_true]
      rw [if_neg (by simp)]
      simp
    · simp only [cutS, h0, if_false, aget, if_true]
      rw [if_neg (by simp [cb]; omega)]
      simp
  simp only [DiskS.append, DiskS.doing]
  rw [show (cutS k (-1)).left = -1 from rfl, stops_left (by decide) (by decide)]
  simp [e.1, e.2, DiskS.count]

theorem cut0_append (k : Nat) (bl : List UInt8) : (cutS k 0).append nmA bl = (17, cutS k 0) := by
  simp only [DiskS.append, DiskS.doing]; rw [show (cutS k 0).left = 0 from rfl, stops_cut (by decide)]
theorem cut0_sync (k : Nat) : (cutS k 0).sync nmA = (17, cutS k 0) := by
  simp only [DiskS.sync, DiskS.onFile, DiskS.doing]; rw [show (cutS k 0).left = 0 from rfl, stops_cut (by decide)]
theorem cut0_delete (k : Nat) : (cutS k 0).delete nmA = (17, cutS k 0) := by
  simp only [DiskS.delete, DiskS.onFile, DiskS.doing]; rw [show (cutS k 0).left = 0 from rfl, stops_cut (by decide)]
theorem cut0_rename (k : Nat) : (cutS k 0).rename nmA nmB = (17, cutS k 0) := by
  simp only [DiskS.rename, DiskS.onFile, DiskS.doing]; rw [show (cutS k 0).left = 0 from rfl, stops_cut (by decide)]

theorem one_byte {w : World} {b k : Nat} (hk : k < 256) (h : w.cell? ⟨b, 0, none⟩ = some (.int .u8 (k : Int))) : Src w 1 (.slice (some ⟨b, 0, none⟩) 1 1) 1 (u8s [k.toUInt8]) := by
  have e : u8s [k.toUInt8] = [.int .u8 (k : Int)] := by
    simp [u8s]; omega
  rw [e]
  refine .inr ⟨_, _, rfl, rfl, fun j u hj => ?_, ?_⟩
  · have e : (⟨b, 0, none⟩ : Addr).add j = ⟨b, j, none⟩ := by unfold Addr.add; split <;> simp_all
    rw [e]
    match j, hj with
    | 0, hj => simp at hj; subst hj; exact h
    | j + 1, hj => simp at hj
  · intro u hu; simp at hu; subst hu; rfl

theorem RoomInv.to {w wr w' : World} {d : Nat} {S S' : DiskS} (h : RoomInv w wr d S) (k : ∀ B, DiskAt wr d S B → DiskTo wr d B S' w') : RoomInv w w' d S' := by
  obtain ⟨B, h1, h2, h3⟩ := h
  exact RoomInv.step (S := S) h2 h3 (k B h1)

set_option maxHeartbeats 4000000 in
set_option maxRecDepth 100000 in
theorem diskCuts_any (n0 more0 : Int) (w : World) :
    Calls Try.prog 4 #[.int .i64 n0, .int .i64 more0] w fun e w' => e = .returned (.bool true) ∧ Ext w w' := by
  obtain ⟨n, hn⟩ : ∃ n : Nat, (n : Int) = bits BinOp.and IntKind.i64 n0 15 := ⟨(n0 % 16).toNat, by rw [i64_and15]; omega⟩
  have hn16 : n < 16 := by rw [i64_and15] at hn; omega
  have hn' := hn.symm
  obtain ⟨m, hm⟩ : ∃ m : Nat, (m : Int) = bits BinOp.and IntKind.i64 more0 7 := ⟨(more0 % 8).toNat, by rw [i64_and7]; omega⟩
  have hm8 : m < 8 := by rw [i64_and7] at hm; omega
  have hm' := hm.symm
  clear hn hm
  go_enter Try.func4, Try.ntmps4
  go_wp2_with (go_at_call 8; refine (disk_new (by omega) (by omega) _).mono ?_; rintro e w1 ⟨rfl, hd1, hx1⟩)
  clear hn' hm'
  refine (disk_cut hd1 _).mono ?_
  rintro e w2 ⟨rfl, hto2⟩
  have hcut : (newDisk 1000).cut (n : Int) = cutS 0 n := by simp [newDisk, DiskS.cut, cutS]; omega
  rw [hcut] at hto2
  have Hinv := Lib.hid (RoomInv.step (w := w) (S := newDisk 1000) (B := [w.heap.size + 1, w.heap.size]) (by intro b hb; simp at hb; omega) hx1 hto2)
  clear hd1 hx1 hto2 hcut
  generalize w.heap.size + 1 = d at *
  go_wp2_with fail
  go_loopw [7] (fun i wr => ∃ k : Nat, k ≤ n ∧ i = .int .i64 k ∧ Hid (RoomInv w wr d (cutS k ((n : Int) - k)))) (fun i _ => n - (intOf i).toNat)
  case atStart => exact ⟨0, Nat.zero_le _, rfl, by have := Hinv.out; show RoomInv _ _ _ _; simpa using this⟩
  case round =>
    obtain ⟨k, hk, rfl, hin⟩ := hrel
    by_cases hlt : k < n
    · go_wp2_with fail
      generalize hW : World.alloc _ _ = W
      have q1 : W.cell? ⟨wr.heap.size, 0, none⟩ = some (.int .u8 (k : Int)) := by subst hW; simp [go_sem]
      have hxW : Ext wr W := by subst hW; exact (Ext.refl _).alloc _
      clear hW
      obtain ⟨B, hB1, hB2, hB3⟩ := hin.out
      refine (disk_append (cutS_ok (by omega) (by omega) (by omega)) (by simp [cutS]; omega) (hB1.ext hxW) nmA (by decide) _ 1 1 [k.toUInt8] (one_byte (by omega) q1) (fun g hg hb => by
        simp [Value.ownBlock] at hg
        have := hB1.lt g hb
        omega) (by unfold maxLen; omega)).mono ?_
      rintro e w3 ⟨rfl, hto⟩
      rw [cut_append (by omega) (by omega), if_pos (by omega)] at hto ⊢
      have Hin3 := Lib.hid (RoomInv.step (S := cutS k ((n : Int) - k)) hB2 (hB3.trans hxW) hto)
      clear hto hB1 hB2 hB3 hxW q1
      go_wp2_with fail
      go_roundw
      case rel => exact ⟨k + 1, by omega, by go_num, by
        have := Hin3.out
        rw [show ((n : Int) - (k : Int) - 1) = (n : Int) - ((k + 1 : Nat) : Int) by omega] at this
        exact this⟩
      case measure => simp [intOf]; omega
    · have hkn : k = n := by omega
      subst hkn
      have hin0 : Hid (RoomInv w wr d (cutS k 0)) := by have := hin.out; rw [Int.sub_self] at this; exact this
      clear hin
      go_wp2_with fail
      obtain ⟨wo, hwo⟩ : ∃ wo : World, wo = wr := ⟨_, rfl⟩
      subst hwo
      go_loopw [8] (fun i wr => ∃ j : Nat, j ≤ 1 + m ∧ i = .int .i64 j ∧ Hid (RoomInv w wr d (cutS k 0))) (fun i _ => 1 + m - (intOf i).toNat)
      case atStart => exact ⟨0, Nat.zero_le _, rfl, hin0⟩
      case round =>
        obtain ⟨j, hj, rfl, hin⟩ := hrel
        have hok := cutS_ok (k := k) (left := 0) (by omega) (by omega) (by omega)
        have Hok := Lib.hid hok; clear hok
        by_cases hlt2 : j < 1 + m
        · have kc := fun (w : World) (C : Array Value) (n c : Nat) => Lib.run_convert_bytes_const (P := Try.prog) w 28 5 C n c Try.underlying28 Try.underlying5
          go_wp2_with fail
          clear kc
          generalize hW : World.alloc _ _ = W
          have q1 : W.cell? ⟨wr.heap.size, 0, none⟩ = some (.int .u8 ((120 : Nat) : Int)) := by subst hW; rw [cell_of_block (heap_alloc_new wr _)]; rfl
          have hxW : Ext wr W := by subst hW; exact (Ext.refl _).alloc _
          clear hW
          obtain ⟨B, hB1, hB2, hB3⟩ := hin.out
          refine (disk_append Hok.out (by simp [cutS]; omega) (hB1.ext hxW) nmA (by decide) _ 1 1 [Nat.toUInt8 120] (one_byte (by omega) q1) (fun g hg hb => by
            simp [Value.ownBlock] at hg
            have := hB1.lt g hb
            omega) (by unfold maxLen; omega)).mono ?_
          rintro e w3 ⟨rfl, hto⟩
          rw [cut0_append] at hto ⊢
          have Hin3 := Lib.hid (RoomInv.step (S := cutS k 0) hB2 (hB3.trans hxW) hto)
          clear hto hB1 hB2 hB3 hxW q1
          go_wp2_with fail
          obtain ⟨B, hB1, hB2, hB3⟩ := Hin3.out
          refine (disk_sync Hok.out (by simp [cutS]; omega) hB1 nmA (by decide)).mono ?_
          rintro e w4 ⟨rfl, hto⟩
          rw [cut0_sync] at hto ⊢
          have Hin4 := Lib.hid (RoomInv.step (S := cutS k 0) hB2 hB3 hto)
          clear hto hB1 hB2 hB3
          go_wp2_with fail
          obtain ⟨B, hB1, hB2, hB3⟩ := Hin4.out
          refine (disk_delete Hok.out (by simp [cutS]; omega) hB1 nmA (by decide)).mono ?_
          rintro e w5 ⟨rfl, hto⟩
          rw [cut0_delete] at hto ⊢
          have Hin5 := Lib.hid (RoomInv.step (S := cutS k 0) hB2 hB3 hto)
          clear hto hB1 hB2 hB3
          go_wp2_with fail
          obtain ⟨B, hB1, hB2, hB3⟩ := Hin5.out
          refine (disk_rename Hok.out (by simp [cutS]; omega) hB1 nmA nmB (by decide) (by decide)).mono ?_
          rintro e w6 ⟨rfl, hto⟩
          rw [cut0_rename] at hto ⊢
          have Hin6 := Lib.hid (RoomInv.step (S := cutS k 0) hB2 hB3 hto)
          clear hto hB1 hB2 hB3
          go_wp2_with fail
          go_roundw
          case rel => exact ⟨j + 1, by omega, by go_num, Hin6⟩
          case measure => simp [intOf]; omega
        · obtain ⟨B, hB1, hB2, hB3⟩ := hin.out
          have HB1 := Lib.hid hB1; have HB2 := Lib.hid hB2; have HB3 := Lib.hid hB3
          clear hB1 hB2 hB3
          go_wp2_with fail
          refine (disk_ops HB1.out).mono ?_
          rintro e w3 ⟨rfl, rfl⟩
          simp only [cutS]
          go_wp2_with fail
          refine (disk_used HB1.out).mono ?_
          rintro e w3 ⟨rfl, rfl⟩
          simp only [cutS]
          go_wp2_with fail
          refine (disk_cut HB1.out _).mono ?_
          rintro e w4 ⟨rfl, hto⟩
          have hcc : (cutS k 0).cut (-5) = cutS k (-1) := rfl
          rw [hcc] at hto
          have hin4 := RoomInv.step (S := cutS k 0) HB2.out HB3.out hto
          clear hto hcc
          obtain ⟨B4, hB1, hB2, hB3⟩ := hin4
          have HB41 := Lib.hid hB1; have HB42 := Lib.hid hB2; have HB43 := Lib.hid hB3
          clear hB1 hB2 hB3
          go_wp2_with fail
          refine (disk_append (cutS_ok (by omega) (by omega) (by omega)) (by simp [cutS]; omega) HB41.out nmA (by decide) none 0 0 [] (.inl ⟨rfl, rfl, rfl⟩) (fun g hg => by simp [Value.ownBlock] at hg) (by unfold maxLen; omega)).mono ?_
          rintro e w5 ⟨rfl, hto⟩
          obtain ⟨B5, hB51, hB52, hB53⟩ := RoomInv.step (S := cutS k 0) HB42.out HB43.out hto
          have hnil := cut_nil (k := k) (by omega)
          rw [hnil.1]
          have H51 := Lib.hid hB51; have H53 := Lib.hid hB53; have Hnil := Lib.hid hnil
          clear hto hB51 hB52 hB53 hnil
          go_wp2_with fail
          refine (disk_ops H51.out).mono ?_
          rintro e w6 ⟨rfl, rfl⟩
          rw [Hnil.out.2]
          go_wp2_with fail
          go_ret
          exact ⟨by simp, H53.out⟩

end Go.Proofs.Ytahgghhhdnfhhaa
