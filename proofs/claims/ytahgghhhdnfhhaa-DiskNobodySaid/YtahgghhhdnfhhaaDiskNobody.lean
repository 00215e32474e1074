/- DiskNobody: the walk. -/
import Derived.Test.YtahgghhhdnfhhaaDiskN
namespace Go.Proofs.Ytahgghhhdnfhhaa
open Go.RowKit Go.Sort

set_option maxHeartbeats 4000000 in
set_option maxRecDepth 100000 in
theorem diskNobody_any (s : ByteArray) (n : Int) (w : World) :
    Calls Try.prog 7 #[.string s, .int .i64 n] w fun e w' => e = .returned (.bool true) ∧ Ext w w' := by
  go_enter Try.func7, Try.ntmps7
  go_wp2_with fail
  generalize hW : World.alloc _ _ = W
  have hx : Ext w W := by subst hW; exact ((Ext.refl w).alloc _).alloc _
  have q0 : W.cell? ⟨w.heap.size + 1, 0, none⟩ = some (.pointer none) := by subst hW; simp [go_sem]
  have q1 : W.cell? ⟨w.heap.size + 1, 1, none⟩ = some (.pointer (some ⟨w.heap.size, 0, none⟩)) := by subst hW; simp [go_sem]
  have q2 : W.cell? ⟨w.heap.size, 0, none⟩ = some (.map none) := by subst hW; simp [go_sem]
  clear hW
  have l0 := World.block_lt_of_cell? W _ q0
  have l2 := World.block_lt_of_cell? W _ q2
  have Hq0 := Lib.hid q0; have Hq1 := Lib.hid q1; have Hq2 := Lib.hid q2; have Hx := Lib.hid hx
  clear q0 q1 q2 hx
  go_loopw [15] (fun i wr => ∃ k : Nat, k ≤ 2 ∧ i = .int .i64 k ∧ Hid (Ext W wr)) (fun i _ => 2 - (intOf i).toNat)
  case atStart => exact ⟨0, by omega, rfl, Ext.refl _⟩
  case round =>
    obtain ⟨k, hk, rfl, hin⟩ := hrel
    by_cases hlt : k < 2
    · obtain ⟨pv, hcell, hnob⟩ : ∃ pv, wr.cell? ⟨w.heap.size + 1, k, none⟩ = some pv ∧ NoDisk wr pv := by
        rcases (show k = 0 ∨ k = 1 by omega) with rfl | rfl
        · exact ⟨_, by rw [hin.out.cell (p := ⟨w.heap.size + 1, 0, none⟩) l0]; exact Hq0.out, .inl rfl⟩
        · exact ⟨_, by rw [hin.out.cell (p := ⟨w.heap.size + 1, 1, none⟩) l0]; exact Hq1.out, .inr ⟨_, rfl, by rw [hin.out.cell (p := ⟨w.heap.size, 0, none⟩) l2]; exact Hq2.out⟩⟩
      have Hn := Lib.hid hnob; clear hnob
      go_wp2_with fail
      refine (cut_nobody Hn.out _).mono ?_
      rintro e w1 ⟨rfl, rfl⟩
      go_wp2_with fail
      refine (read_nobody Hn.out _).mono ?_
      rintro e w1 ⟨rfl, rfl⟩
      go_wp2_with fail
      refine (crash_nobody Hn.out _).mono ?_
      rintro e w1 ⟨rfl, rfl⟩
      clear hcell
      go_wp2_with fail
      refine (append_nobody Hn.out _ _ _ _).mono ?_
      rintro e w2 ⟨rfl, hx2⟩
      have Hn2 := Lib.hid (Hn.out.ext hx2); have Hx2 := Lib.hid (hin.out.trans hx2); clear hx2 Hn
      go_wp2_with fail
      refine (sync_nobody Hn2.out _).mono ?_
      rintro e w3 ⟨rfl, hx2⟩
      have Hn3 := Lib.hid (Hn2.out.ext hx2); have Hx3 := Lib.hid (Hx2.out.trans hx2); clear hx2 Hn2 Hx2
      go_wp2_with fail
      refine (rename_nobody Hn3.out _ _).mono ?_
      rintro e w4 ⟨rfl, hx2⟩
      have Hn4 := Lib.hid (Hn3.out.ext hx2); have Hx4 := Lib.hid (Hx3.out.trans hx2); clear hx2 Hn3 Hx3
      go_wp2_with fail
      refine (delete_nobody Hn4.out _).mono ?_
      rintro e w5 ⟨rfl, hx2⟩
      have Hn5 := Lib.hid (Hn4.out.ext hx2); have Hx5 := Lib.hid (Hx4.out.trans hx2); clear hx2 Hn4 Hx4
      go_wp2_with fail
      refine (flip_nobody Hn5.out _ _ _).mono ?_
      rintro e w6 ⟨rfl, rfl⟩
      go_wp2_with fail
      refine (list_nobody Hn5.out _).mono ?_
      rintro e w6 ⟨rfl, rfl⟩
      go_wp2_with fail
      refine (used_nobody Hn5.out).mono ?_
      rintro e w6 ⟨rfl, rfl⟩
      go_wp2_with fail
      refine (ops_nobody Hn5.out).mono ?_
      rintro e w6 ⟨rfl, rfl⟩
      go_wp2_with fail
      go_roundw
      case rel => exact ⟨k + 1, by omega, by go_num, Hx5⟩
      case measure => simp [intOf]; omega
    · go_wp2_with fail
      go_ret
      exact ⟨rfl, Hx.out.trans hin.out⟩

end Go.Proofs.Ytahgghhhdnfhhaa
