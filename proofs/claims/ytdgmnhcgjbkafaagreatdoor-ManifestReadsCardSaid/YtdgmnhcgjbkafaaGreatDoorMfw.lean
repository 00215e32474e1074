/- tidemilllaw18.few: it tells yes or no. -/
import Derived.Test.YtdgmnhcgjbkafaaGreatDoorMfd
namespace Go.Proofs.YtdgmnhcgjbkafaaGreatDoor
open Go.RowKit Go.Sort Go.Lib

/-- What few tells. -/
def FewPost (w : World) (n : Nat) (e : Ending) (w' : World) : Prop := ∃ B, e = .returned (.bool B) ∧ Ext w w' ∧ (B = true → n < 900)
set_option maxHeartbeats 8000000 in
set_option maxRecDepth 100000 in
theorem few_any (w : World) (s : Sta) (fa ta : Option Addr) (fn fc tn tc : Nat) (hs : StIn w s fa fn fc ta tn tc) :
    Calls Tryz.prog 4 #[.agg (staC s fa fn fc ta tn tc)] w (FewPost w (fn + tn)) := by
  have HS := Lib.hid hs
  have hf := hs.fn63
  have ht := hs.tn63
  clear hs
  obtain ⟨x, r, q, ⟨b, t, g⟩, fl, ti⟩ := s
  go_enter Tryz.func4, Tryz.ntmps4
  go_upto_region 1 with fail
  generalize hW : World.alloc _ _ = W
  have HX : Hid (Ext w W) := Lib.hid (by subst hW; exact (Ext.refl w).alloc _)
  have HBX : Hid (W.heap[w.heap.size]? = some (.cells #[.int .i64 x, .int .i64 r, .int .i64 q, .bool b, .int .i64 t, .int .i64 g, .slice fa fn fc, .slice ta tn tc] 27 (0, 0))) := Lib.hid (by subst hW; exact heap_alloc_new w _)
  clear hW
  have c6 := cell_of_block HBX.out 6
  have c7 := cell_of_block HBX.out 7
  go_upto_block 0 with fail
  go_cut [3] (fun s3 wx => ∃ z : Int, s3 = .int .i64 z ∧ Hid (900 ≤ fn + tn → 900 ≤ z) ∧ Hid (Ext W wx))
  case first =>
    go_wp2_with fail
    go_loopw [4, 3] (fun si sz wr => ∃ (k : Nat) (z : Int), k ≤ fn ∧ si = .int .i64 k ∧ sz = .int .i64 z ∧ Hid (900 ≤ fn + tn → 900 ≤ z) ∧ Hid (Ext W wr)) (fun si _ _ => fn - (RowKit.intOf si).toNat)
    case atStart => exact ⟨0, (fn : Int) + (tn : Int), by omega, rfl, by go_num, Lib.hid (fun _ => by omega), Lib.hid (Ext.refl _)⟩
    case round =>
      obtain ⟨k, z, hk, rfl, rfl, HZ1, HE⟩ := hrel
      have HBY := Lib.hid (HE.out.keep HBX.out)
      clear c6 c7
      have c6 := cell_of_block HBY.out 6
      by_cases hlt : k < fn
      · by_cases hz : z < 900
        · obtain ⟨fb, fo, p, rfl, hp, p0, p1, p2, p3⟩ := fls_src (HS.out.fl.ext (HX.out.trans HE.out)) hlt
          clear hp
          go_wp2_with fail
          go_roundw
          case rel => exact ⟨k + 1, _, by omega, by go_num, rfl, Lib.hid (fun h => by have := HZ1.out h; omega), HE⟩
          case measure => simp [RowKit.intOf]; omega
        · go_wp2_with fail
          go_meet
          case rel => exact ⟨z, rfl, HZ1, HE⟩
      · obtain rfl : k = fn := by omega
        go_wp2_with fail
        go_meet
        case rel => exact ⟨z, rfl, HZ1, HE⟩
  case rest =>
    obtain ⟨z, rfl, HZ1, HE0⟩ := hcut
    have HBZ := Lib.hid (HE0.out.keep HBX.out)
    clear c6 c7
    have c7 := cell_of_block HBZ.out 7
    go_wp2_with fail
    go_loopw [5, 3] (fun si sz wr => ∃ (k : Nat) (z : Int), k ≤ tn ∧ si = .int .i64 k ∧ sz = .int .i64 z ∧ Hid (900 ≤ fn + tn → 900 ≤ z) ∧ Hid (Ext W wr)) (fun si _ _ => tn - (RowKit.intOf si).toNat)
    case atStart => exact ⟨0, z, by omega, rfl, rfl, HZ1, HE0⟩
    case round =>
      obtain ⟨k, z, hk, rfl, rfl, HZ1, HE⟩ := hrel
      have HBY := Lib.hid (HE.out.keep HBX.out)
      clear c7
      have c7 := cell_of_block HBY.out 7
      by_cases hlt : k < tn
      · by_cases hz : z < 900
        · obtain ⟨fb, fo, p, rfl, hp, p0, p1, p2, p3, p4⟩ := trs_src (HS.out.ti.ext (HX.out.trans HE.out)) hlt
          clear hp
          go_wp2_with fail
          go_roundw
          case rel => exact ⟨k + 1, _, by omega, by go_num, rfl, Lib.hid (fun h => by have := HZ1.out h; omega), HE⟩
          case measure => simp [RowKit.intOf]; omega
        · go_wp2_with fail
          go_ret
          exact ⟨_, rfl, HX.out.trans HE.out, fun h => by simp at h⟩
      · obtain rfl : k = tn := by omega
        go_wp2_with fail
        go_ret
        exact ⟨_, rfl, HX.out.trans HE.out, fun h => by simp at h; have := HZ1.out; omega⟩
end Go.Proofs.YtdgmnhcgjbkafaaGreatDoor
