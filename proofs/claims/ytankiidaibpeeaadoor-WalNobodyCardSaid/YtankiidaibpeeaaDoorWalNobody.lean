/- Logs that no call made, and of no disk. -/
import Derived.Test.YtankiidaibpeeaaDoorDiskN0
namespace Go.Proofs.YtankiidaibpeeaaDoor
open Go.RowKit Go.Sort

def NoLog (w : World) (o : Option Addr) : Prop := o = none ∨ ∃ b, o = some ⟨b, 0, none⟩ ∧ w.cell? ⟨b, 0, none⟩ = some (.pointer none)
theorem NoLog.ext {w w' : World} {o : Option Addr} (h : NoLog w o) (hx : Ext w w') : NoLog w' o := by
  rcases h with h | ⟨b, h, hc⟩
  · exact .inl h
  · exact .inr ⟨b, h, by rw [hx.cell (p := ⟨b, 0, none⟩) (World.block_lt_of_cell? w _ hc)]; exact hc⟩

set_option maxHeartbeats 1000000 in
theorem lnone_nobody {w : World} {o : Option Addr} (h : NoLog w o) :
    Calls Tryd.prog 14 #[.pointer o] w fun e w' => e = .returned (.bool true) ∧ w = w' := by
  rcases h with rfl | ⟨b, rfl, hc⟩
  all_goals
    go_enter Tryd.func14, Tryd.ntmps14
    go_wp2
    go_ret
    exact ⟨rfl, rfl⟩

set_option maxHeartbeats 1000000 in
theorem lopen_nobody {w : World} {o : Option Addr} (h : NoDisk w o) (n : Int) :
    Calls Tryd.prog 4 #[.pointer o, .int .i64 n] w fun e w' => e = .returned (.tuple #[.pointer none, .slice none 0 0, .int .i64 1]) ∧ Ext w w' := by
  have H := Lib.hid h; clear h
  go_enter Tryd.func4, Tryd.ntmps4
  go_wp2_with (go_at_call 10; refine (read_nobody H.out _).mono ?_; rintro e w' ⟨rfl, rfl⟩)
  go_ret3
  exact ⟨rfl, Ext.refl _⟩

set_option maxHeartbeats 1000000 in
theorem ladd_nobody {w : World} {o : Option Addr} (h : NoLog w o) (v : Value) :
    Calls Tryd.prog 5 #[.pointer o, v] w fun e w' => e = .returned (.int .i64 1) ∧ w = w' := by
  have H := Lib.hid h; clear h
  go_enter Tryd.func5, Tryd.ntmps5
  go_wp2_with (go_at_call 14; refine (lnone_nobody H.out).mono ?_; rintro e w' ⟨rfl, rfl⟩)
  go_ret
  exact ⟨rfl, rfl⟩

set_option maxHeartbeats 1000000 in
theorem lsync_nobody {w : World} {o : Option Addr} (h : NoLog w o) :
    Calls Tryd.prog 6 #[.pointer o] w fun e w' => e = .returned (.int .i64 1) ∧ w = w' := by
  have H := Lib.hid h; clear h
  go_enter Tryd.func6, Tryd.ntmps6
  go_wp2_with (go_at_call 14; refine (lnone_nobody H.out).mono ?_; rintro e w' ⟨rfl, rfl⟩)
  go_ret
  exact ⟨rfl, rfl⟩

set_option maxHeartbeats 1000000 in
theorem ldrop_nobody {w : World} {o : Option Addr} (h : NoLog w o) (n : Int) :
    Calls Tryd.prog 7 #[.pointer o, .int .i64 n] w fun e w' => e = .returned (.int .i64 1) ∧ w = w' := by
  have H := Lib.hid h; clear h
  go_enter Tryd.func7, Tryd.ntmps7
  go_wp2_with (go_at_call 14; refine (lnone_nobody H.out).mono ?_; rintro e w' ⟨rfl, rfl⟩)
  go_ret
  exact ⟨rfl, rfl⟩

set_option maxHeartbeats 1000000 in
theorem lfirst_nobody {w : World} {o : Option Addr} (h : NoLog w o) :
    Calls Tryd.prog 8 #[.pointer o] w fun e w' => e = .returned (.int .i64 0) ∧ w = w' := by
  have H := Lib.hid h; clear h
  go_enter Tryd.func8, Tryd.ntmps8
  go_wp2_with (go_at_call 14; refine (lnone_nobody H.out).mono ?_; rintro e w' ⟨rfl, rfl⟩)
  go_ret
  exact ⟨rfl, rfl⟩

set_option maxHeartbeats 1000000 in
theorem lnext_nobody {w : World} {o : Option Addr} (h : NoLog w o) :
    Calls Tryd.prog 9 #[.pointer o] w fun e w' => e = .returned (.int .i64 0) ∧ w = w' := by
  have H := Lib.hid h; clear h
  go_enter Tryd.func9, Tryd.ntmps9
  go_wp2_with (go_at_call 14; refine (lnone_nobody H.out).mono ?_; rintro e w' ⟨rfl, rfl⟩)
  go_ret
  exact ⟨rfl, rfl⟩

set_option maxHeartbeats 4000000 in
set_option maxRecDepth 100000 in
theorem walNobody_any (a : Option Addr) (n c : Nat) (w : World) :
    Calls Tryd.prog 3 #[.slice a n c] w fun e w' => e = .returned (.bool true) ∧ Ext w w' := by
  go_enter Tryd.func3, Tryd.ntmps3
  go_wp2_with fail
  generalize hW : World.alloc _ _ = W
  have Hx : Hid (Ext w W) := Lib.hid (by subst hW; exact ((Ext.refl w).alloc _).alloc _)
  have q0 : W.cell? ⟨w.heap.size + 1, 0, none⟩ = some (.pointer none) := by subst hW; simp [go_sem]
  have q1 : W.cell? ⟨w.heap.size + 1, 1, none⟩ = some (.pointer (some ⟨w.heap.size, 0, none⟩)) := by subst hW; simp [go_sem]
  have q2 : W.cell? ⟨w.heap.size, 0, none⟩ = some (.map none) := by subst hW; simp [go_sem]
  clear hW
  have l0 := World.block_lt_of_cell? W _ q0
  have l2 := World.block_lt_of_cell? W _ q2
  have Hq0 := Lib.hid q0; have Hq1 := Lib.hid q1; have Hq2 := Lib.hid q2
  clear q0 q1 q2
  go_loopw [14] (fun i wr => ∃ k : Nat, k ≤ 2 ∧ i = .int .i64 k ∧ Hid (Ext W wr)) (fun i _ => 2 - (intOf i).toNat)
  case atStart => exact ⟨0, by omega, rfl, Lib.hid (Ext.refl _)⟩
  case round =>
    obtain ⟨k, hk, rfl, hin⟩ := hrel
    by_cases hlt : k < 2
    · obtain ⟨o, hcell, hnob⟩ : ∃ o, wr.cell? ⟨w.heap.size + 1, k, none⟩ = some (.pointer o) ∧ NoDisk wr o := by
        rcases (show k = 0 ∨ k = 1 by omega) with rfl | rfl
        · exact ⟨_, (hin.out.cell (p := ⟨w.heap.size + 1, 0, none⟩) l0).trans Hq0.out, .inl rfl⟩
        · exact ⟨_, (hin.out.cell (p := ⟨w.heap.size + 1, 1, none⟩) l0).trans Hq1.out, .inr ⟨_, rfl, (hin.out.cell (p := ⟨w.heap.size, 0, none⟩) l2).trans Hq2.out⟩⟩
      have Hn := Lib.hid hnob; clear hnob
      go_wp2_with fail
      refine (lopen_nobody Hn.out _).mono ?_
      rintro e w1 ⟨rfl, hx1⟩
      have Hx1 := Lib.hid (hin.out.trans hx1); clear hx1 hcell
      go_wp2_with fail
      go_roundw
      case rel => exact ⟨k + 1, by omega, by go_num, Hx1⟩
      case measure => simp [intOf]; omega
    · have HXr := Lib.hid (Hx.out.trans hin.out)
      clear hin Hq0 Hq1 Hq2
      go_wp2_with fail
      generalize hV : World.alloc _ _ = V
      have Hv : Hid (Ext wr V) := Lib.hid (by subst hV; exact ((Ext.refl wr).alloc _).alloc _)
      have q0 : V.cell? ⟨wr.heap.size + 1, 0, none⟩ = some (.pointer none) := by subst hV; simp [go_sem]
      have q1 : V.cell? ⟨wr.heap.size + 1, 1, none⟩ = some (.pointer (some ⟨wr.heap.size, 0, none⟩)) := by subst hV; simp [go_sem]
      have q2 : V.cell? ⟨wr.heap.size, 0, none⟩ = some (.pointer none) := by subst hV; simp [go_sem]
      clear hV
      have l0 := World.block_lt_of_cell? V _ q0
      have l2 := World.block_lt_of_cell? V _ q2
      have Hq0 := Lib.hid q0; have Hq1 := Lib.hid q1; have Hq2 := Lib.hid q2
      clear q0 q1 q2
      obtain ⟨wo, rfl⟩ : ∃ wo : World, wo = wr := ⟨_, rfl⟩
      go_loopw [40] (fun i wr => ∃ k : Nat, k ≤ 2 ∧ i = .int .i64 k ∧ Hid (Ext V wr)) (fun i _ => 2 - (intOf i).toNat)
      case atStart => exact ⟨0, by omega, rfl, Lib.hid (Ext.refl _)⟩
      case round =>
        obtain ⟨j, hj, rfl, hin⟩ := hrel
        by_cases hlt2 : j < 2
        · obtain ⟨o, hcell, hnob⟩ : ∃ o, wr.cell? ⟨wo.heap.size + 1, j, none⟩ = some (.pointer o) ∧ NoLog wr o := by
            rcases (show j = 0 ∨ j = 1 by omega) with rfl | rfl
            · exact ⟨_, (hin.out.cell (p := ⟨wo.heap.size + 1, 0, none⟩) l0).trans Hq0.out, .inl rfl⟩
            · exact ⟨_, (hin.out.cell (p := ⟨wo.heap.size + 1, 1, none⟩) l0).trans Hq1.out, .inr ⟨_, rfl, (hin.out.cell (p := ⟨wo.heap.size, 0, none⟩) l2).trans Hq2.out⟩⟩
          have Hn := Lib.hid hnob; clear hnob
          go_wp2_with fail
          refine (ladd_nobody Hn.out _).mono ?_
          rintro e w1 ⟨rfl, rfl⟩
          clear hcell
          go_wp2_with fail
          refine (lsync_nobody Hn.out).mono ?_
          rintro e w1 ⟨rfl, rfl⟩
          go_wp2_with fail
          refine (ldrop_nobody Hn.out _).mono ?_
          rintro e w1 ⟨rfl, rfl⟩
          go_wp2_with fail
          refine (lfirst_nobody Hn.out).mono ?_
          rintro e w1 ⟨rfl, rfl⟩
          go_wp2_with fail
          refine (lnext_nobody Hn.out).mono ?_
          rintro e w1 ⟨rfl, rfl⟩
          go_wp2_with fail
          go_roundw
          case rel => exact ⟨j + 1, by omega, by go_num, hin⟩
          case measure => simp [intOf]; omega
        · go_wp2_with fail
          go_ret
          exact ⟨rfl, (HXr.out.trans Hv.out).trans hin.out⟩

end Go.Proofs.YtankiidaibpeeaaDoor
