/- Stores that no call made, and of no disk. -/
import Derived.Test.YtankiidaibpeeaaGreatDoorDiskN0
namespace Go.Proofs.YtankiidaibpeeaaGreatDoor
open Go.RowKit Go.Sort

def NoStore (w : World) (o : Option Addr) : Prop := o = none ∨ ∃ b, o = some ⟨b, 0, none⟩ ∧ w.cell? ⟨b, 0, none⟩ = some (.pointer none)
theorem NoStore.ext {w w' : World} {o : Option Addr} (h : NoStore w o) (hx : Ext w w') : NoStore w' o := by
  rcases h with h | ⟨b, h, hc⟩
  · exact .inl h
  · exact .inr ⟨b, h, by rw [hx.cell (p := ⟨b, 0, none⟩) (World.block_lt_of_cell? w _ hc)]; exact hc⟩

set_option maxHeartbeats 1000000 in
theorem snone_nobody {w : World} {o : Option Addr} (h : NoStore w o) :
    Calls Tryz.prog 20 #[.pointer o] w fun e w' => e = .returned (.bool true) ∧ w = w' := by
  rcases h with rfl | ⟨b, rfl, hc⟩
  all_goals
    go_enter Tryz.func20, Tryz.ntmps20
    go_wp2
    go_ret
    exact ⟨rfl, rfl⟩

set_option maxHeartbeats 1000000 in
theorem sopen_nobody {w : World} {o : Option Addr} (h : NoDisk w o) (n : Int) :
    Calls Tryz.prog 4 #[.pointer o, .int .i64 n, .slice none 0 0] w fun e w' => e = .returned (.tuple #[.pointer none, .int .i64 1]) ∧ Ext w w' := by
  have H := Lib.hid h; clear h
  go_enter Tryz.func4, Tryz.ntmps4
  go_wp2_with fail
  refine (read_nobody (H.out.ext (by repeat (first | exact Ext.refl _ | refine Ext.alloc ?_ _))) _).mono ?_
  rintro e w1 ⟨rfl, hw1⟩
  have HX : Hid (Ext w w1) := Lib.hid (by subst hw1; repeat (first | exact Ext.refl _ | refine Ext.alloc ?_ _))
  clear hw1
  go_wp2_with fail
  go_ret2
  exact ⟨rfl, HX.out⟩

set_option maxHeartbeats 1000000 in
theorem spoints_nobody {w : World} {o : Option Addr} (h : NoStore w o) (s : ByteArray) (f t : Int) :
    Calls Tryz.prog 5 #[.pointer o, .string s, .int .i64 f, .int .i64 t] w fun e w' => e = .returned (.tuple #[.slice none 0 0, .int .i64 1]) ∧ Ext w w' := by
  have H := Lib.hid h; clear h
  go_enter Tryz.func5, Tryz.ntmps5
  go_wp2_with fail
  refine (snone_nobody (H.out.ext (by repeat (first | exact Ext.refl _ | refine Ext.alloc ?_ _)))).mono ?_
  rintro e w1 ⟨rfl, hw1⟩
  have HX : Hid (Ext w w1) := Lib.hid (by subst hw1; repeat (first | exact Ext.refl _ | refine Ext.alloc ?_ _))
  clear hw1
  go_wp2_with fail
  go_ret2
  exact ⟨rfl, HX.out⟩

set_option maxHeartbeats 1000000 in
theorem snames_nobody {w : World} {o : Option Addr} (h : NoStore w o)  :
    Calls Tryz.prog 6 #[.pointer o] w fun e w' => e = .returned (.tuple #[.slice none 0 0, .int .i64 1]) ∧ Ext w w' := by
  have H := Lib.hid h; clear h
  go_enter Tryz.func6, Tryz.ntmps6
  go_wp2_with fail
  refine (snone_nobody (H.out.ext (by repeat (first | exact Ext.refl _ | refine Ext.alloc ?_ _)))).mono ?_
  rintro e w1 ⟨rfl, hw1⟩
  have HX : Hid (Ext w w1) := Lib.hid (by subst hw1; repeat (first | exact Ext.refl _ | refine Ext.alloc ?_ _))
  clear hw1
  go_wp2_with fail
  go_ret2
  exact ⟨rfl, HX.out⟩

set_option maxHeartbeats 1000000 in
theorem stier_nobody {w : World} {o : Option Addr} (h : NoStore w o) (k : Int) :
    Calls Tryz.prog 7 #[.pointer o, .int .i64 k] w fun e w' => e = .returned (.tuple #[.slice none 0 0, .int .i64 1]) ∧ Ext w w' := by
  have H := Lib.hid h; clear h
  go_enter Tryz.func7, Tryz.ntmps7
  go_wp2_with fail
  refine (snone_nobody (H.out.ext (by repeat (first | exact Ext.refl _ | refine Ext.alloc ?_ _)))).mono ?_
  rintro e w1 ⟨rfl, hw1⟩
  have HX : Hid (Ext w w1) := Lib.hid (by subst hw1; repeat (first | exact Ext.refl _ | refine Ext.alloc ?_ _))
  clear hw1
  go_wp2_with fail
  go_ret2
  exact ⟨rfl, HX.out⟩

set_option maxHeartbeats 1000000 in
theorem sflush_nobody {w : World} {o : Option Addr} (h : NoStore w o) (v : Value) (x y : Int) (cs : Array Value) :
    Calls Tryz.prog 8 #[.pointer o, v, .int .i64 x, .int .i64 y, .agg cs] w fun e w' => e = .returned (.int .i64 1) ∧ Ext w w' := by
  have H := Lib.hid h; clear h
  go_enter Tryz.func8, Tryz.ntmps8
  go_wp2_with fail
  refine (snone_nobody (H.out.ext (by repeat (first | exact Ext.refl _ | refine Ext.alloc ?_ _)))).mono ?_
  rintro e w1 ⟨rfl, hw1⟩
  have HX : Hid (Ext w w1) := Lib.hid (by subst hw1; repeat (first | exact Ext.refl _ | refine Ext.alloc ?_ _))
  clear hw1
  go_wp2_with fail
  go_ret
  exact ⟨rfl, HX.out⟩

set_option maxHeartbeats 1000000 in
theorem scompact_nobody {w : World} {o : Option Addr} (h : NoStore w o)  :
    Calls Tryz.prog 9 #[.pointer o] w fun e w' => e = .returned (.int .i64 1) ∧ Ext w w' := by
  have H := Lib.hid h; clear h
  go_enter Tryz.func9, Tryz.ntmps9
  go_wp2_with fail
  refine (snone_nobody (H.out.ext (by repeat (first | exact Ext.refl _ | refine Ext.alloc ?_ _)))).mono ?_
  rintro e w1 ⟨rfl, hw1⟩
  have HX : Hid (Ext w w1) := Lib.hid (by subst hw1; repeat (first | exact Ext.refl _ | refine Ext.alloc ?_ _))
  clear hw1
  go_wp2_with fail
  go_ret
  exact ⟨rfl, HX.out⟩

set_option maxHeartbeats 1000000 in
theorem sretire_nobody {w : World} {o : Option Addr} (h : NoStore w o) (n : Int) :
    Calls Tryz.prog 10 #[.pointer o, .int .i64 n] w fun e w' => e = .returned (.int .i64 1) ∧ Ext w w' := by
  have H := Lib.hid h; clear h
  go_enter Tryz.func10, Tryz.ntmps10
  go_wp2_with fail
  refine (snone_nobody (H.out.ext (by repeat (first | exact Ext.refl _ | refine Ext.alloc ?_ _)))).mono ?_
  rintro e w1 ⟨rfl, hw1⟩
  have HX : Hid (Ext w w1) := Lib.hid (by subst hw1; repeat (first | exact Ext.refl _ | refine Ext.alloc ?_ _))
  clear hw1
  go_wp2_with fail
  go_ret
  exact ⟨rfl, HX.out⟩

set_option maxHeartbeats 1000000 in
theorem sset_nobody {w : World} {o : Option Addr} (h : NoStore w o) (k n : Int) (v : Value) :
    Calls Tryz.prog 11 #[.pointer o, .int .i64 k, .int .i64 n, v] w fun e w' => e = .returned (.int .i64 1) ∧ Ext w w' := by
  have H := Lib.hid h; clear h
  go_enter Tryz.func11, Tryz.ntmps11
  go_wp2_with fail
  refine (snone_nobody (H.out.ext (by repeat (first | exact Ext.refl _ | refine Ext.alloc ?_ _)))).mono ?_
  rintro e w1 ⟨rfl, hw1⟩
  have HX : Hid (Ext w w1) := Lib.hid (by subst hw1; repeat (first | exact Ext.refl _ | refine Ext.alloc ?_ _))
  clear hw1
  go_wp2_with fail
  go_ret
  exact ⟨rfl, HX.out⟩

set_option maxHeartbeats 1000000 in
theorem sstate_nobody {w : World} {o : Option Addr} (h : NoStore w o) :
    Calls Tryz.prog 12 #[.pointer o] w fun e w' => e = .returned (.agg #[.int .i64 0, .int .i64 0, .int .i64 0, .bool false, .int .i64 0, .int .i64 0, .slice none 0 0, .slice none 0 0]) ∧ Ext w w' := by
  have H := Lib.hid h; clear h
  go_enter Tryz.func12, Tryz.ntmps12
  go_wp2_with fail
  refine (snone_nobody (H.out.ext (by repeat (first | exact Ext.refl _ | refine Ext.alloc ?_ _)))).mono ?_
  rintro e w1 ⟨rfl, hw1⟩
  subst hw1
  go_wp2_with fail
  exact bodyPost_ret (v := .agg #[.int .i64 0, .int .i64 0, .int .i64 0, .bool false, .int .i64 0, .int .i64 0, .slice none 0 0, .slice none 0 0]) (by simp [results, Tryz.results12, go_sem]) rfl ⟨rfl, (Ext.refl _).alloc _⟩

set_option maxHeartbeats 4000000 in
set_option maxRecDepth 100000 in
theorem storeNobody_any (n : Int) (w : World) :
    Calls Tryz.prog 3 #[.int .i64 n] w fun e w' => e = .returned (.bool true) ∧ Ext w w' := by
  have hfd : ∀ w : World, (Instr.field 35 (.agg #[.int .i64 0, .int .i64 0, .int .i64 0, .bool false, .int .i64 0, .int .i64 0, .slice none 0 0, .slice none 0 0]) 0).run Tryz.prog w = .ok (.int .i64 0) w := fun _ => by kernel_rfl
  go_enter Tryz.func3, Tryz.ntmps3
  go_wp2_with fail
  refine (sopen_nobody (.inl rfl) _).mono ?_
  rintro e w1 ⟨rfl, hx1⟩
  have HX1 := Lib.hid hx1; clear hx1
  go_wp2_with fail
  refine (sopen_nobody (.inr ⟨_, rfl, by simp [go_sem]⟩) _).mono ?_
  rintro e w2 ⟨rfl, hx2⟩
  have HX2 : Hid (Ext w w2) := Lib.hid ((HX1.out.alloc _).trans hx2); clear hx2 HX1
  go_wp2_with fail
  generalize hW : World.alloc _ _ = W
  have Hx : Hid (Ext w2 W) := Lib.hid (by subst hW; exact ((Ext.refl w2).alloc _).alloc _)
  have q0 : W.cell? ⟨w2.heap.size + 1, 0, none⟩ = some (.pointer none) := by subst hW; simp [go_sem]
  have q1 : W.cell? ⟨w2.heap.size + 1, 1, none⟩ = some (.pointer (some ⟨w2.heap.size, 0, none⟩)) := by subst hW; simp [go_sem]
  have q2 : W.cell? ⟨w2.heap.size, 0, none⟩ = some (.pointer none) := by subst hW; simp [go_sem]
  clear hW
  have l0 := World.block_lt_of_cell? W _ q0
  have l2 := World.block_lt_of_cell? W _ q2
  have Hq0 := Lib.hid q0; have Hq1 := Lib.hid q1; have Hq2 := Lib.hid q2
  clear q0 q1 q2
  go_loopw [43] (fun i wr => ∃ k : Nat, k ≤ 2 ∧ i = .int .i64 k ∧ Hid (Ext W wr)) (fun i _ => 2 - (intOf i).toNat)
  case atStart => exact ⟨0, by omega, rfl, Lib.hid (Ext.refl _)⟩
  case round =>
    obtain ⟨k, hk, rfl, hin⟩ := hrel
    by_cases hlt : k < 2
    · obtain ⟨o, hcell, hnob⟩ : ∃ o, wr.cell? ⟨w2.heap.size + 1, k, none⟩ = some (.pointer o) ∧ NoStore wr o := by
        rcases (show k = 0 ∨ k = 1 by omega) with rfl | rfl
        · exact ⟨_, (hin.out.cell (p := ⟨w2.heap.size + 1, 0, none⟩) l0).trans Hq0.out, .inl rfl⟩
        · exact ⟨_, (hin.out.cell (p := ⟨w2.heap.size + 1, 1, none⟩) l0).trans Hq1.out, .inr ⟨_, rfl, (hin.out.cell (p := ⟨w2.heap.size, 0, none⟩) l2).trans Hq2.out⟩⟩
      have Hn := Lib.hid hnob; clear hnob
      go_wp2_with fail
      refine (spoints_nobody Hn.out _ _ _).mono ?_
      rintro e v0 ⟨rfl, hx⟩
      replace Hn := Lib.hid (Hn.out.ext hx)
      replace hin := Lib.hid (hin.out.trans hx); clear hx
      clear hcell
      go_wp2_with fail
      refine (snames_nobody Hn.out ).mono ?_
      rintro e v1 ⟨rfl, hx⟩
      replace Hn := Lib.hid (Hn.out.ext hx)
      replace hin := Lib.hid (hin.out.trans hx); clear hx
      go_wp2_with fail
      refine (stier_nobody Hn.out _).mono ?_
      rintro e v2 ⟨rfl, hx⟩
      replace Hn := Lib.hid (Hn.out.ext hx)
      replace hin := Lib.hid (hin.out.trans hx); clear hx
      go_wp2_with fail
      refine (sflush_nobody Hn.out _ _ _ _).mono ?_
      rintro e v3 ⟨rfl, hx⟩
      replace Hn := Lib.hid (Hn.out.ext hx)
      replace hin := Lib.hid (hin.out.trans hx); clear hx
      go_wp2_with fail
      refine (scompact_nobody Hn.out ).mono ?_
      rintro e v4 ⟨rfl, hx⟩
      replace Hn := Lib.hid (Hn.out.ext hx)
      replace hin := Lib.hid (hin.out.trans hx); clear hx
      go_wp2_with fail
      refine (sretire_nobody Hn.out _).mono ?_
      rintro e v5 ⟨rfl, hx⟩
      replace Hn := Lib.hid (Hn.out.ext hx)
      replace hin := Lib.hid (hin.out.trans hx); clear hx
      go_wp2_with fail
      refine (sset_nobody Hn.out _ _ _).mono ?_
      rintro e v6 ⟨rfl, hx⟩
      replace Hn := Lib.hid (Hn.out.ext hx)
      replace hin := Lib.hid (hin.out.trans hx); clear hx
      go_wp2_with fail
      refine (sstate_nobody Hn.out ).mono ?_
      rintro e v7 ⟨rfl, hx⟩
      replace Hn := Lib.hid (Hn.out.ext hx)
      replace hin := Lib.hid (hin.out.trans hx); clear hx
      go_wp2_with fail
      go_roundw
      case rel => exact ⟨k + 1, by omega, by go_num, hin⟩
      case measure => simp [intOf]; omega
    · go_wp2_with fail
      go_ret
      exact ⟨rfl, (HX2.out.trans Hx.out).trans hin.out⟩

end Go.Proofs.YtankiidaibpeeaaGreatDoor
