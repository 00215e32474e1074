/- Databases that no call made, and of no disk. -/
import Derived.Test.YtkemfedokjkmlaaGreatDoorDiskN0
namespace Go.Proofs.YtkemfedokjkmlaaGreatDoor
open Go.RowKit Go.Sort

theorem block_ltB {w : World} {b : Nat} {o : Obj} (h : w.heap[b]? = some o) : b < w.heap.size := by
  rcases Nat.lt_or_ge b w.heap.size with h' | h'
  · exact h'
  · simp [Array.getElem?_eq_none h'] at h
theorem cell_of_blockB {w : World} {b : Nat} {cs : Array Value} {t : TypeId} {fr : Nat × Nat} (h : w.heap[b]? = some (.cells cs t fr)) (i : Nat) : w.cell? ⟨b, i, none⟩ = cs[i]? := by
  simp [World.cell?, h]

def NoEng (w : World) (o : Option Addr) : Prop := o = none ∨ ∃ b, o = some ⟨b, 0, none⟩ ∧ w.cell? ⟨b, 3, none⟩ = some (.pointer none)
theorem NoEng.ext {w w' : World} {o : Option Addr} (h : NoEng w o) (hx : Ext w w') : NoEng w' o := by
  rcases h with h | ⟨b, h, hc⟩
  · exact .inl h
  · exact .inr ⟨b, h, by rw [hx.cell (p := ⟨b, 3, none⟩) (World.block_lt_of_cell? w _ hc)]; exact hc⟩

set_option maxHeartbeats 1000000 in
theorem enone_nobody {w : World} {o : Option Addr} (h : NoEng w o) :
    Calls Tryz.prog 25 #[.pointer o] w fun e w' => e = .returned (.bool true) ∧ w = w' := by
  rcases h with rfl | ⟨b, rfl, hc⟩
  all_goals
    go_enter Tryz.func25, Tryz.ntmps25
    go_wp2
    go_ret
    exact ⟨rfl, rfl⟩

set_option maxHeartbeats 1000000 in
theorem eopen_nobody {w : World} {o : Option Addr} (h : NoDisk w o) (cs : Array Value) :
    Calls Tryz.prog 4 #[.pointer o, .agg cs] w fun e w' => e = .returned (.tuple #[.pointer none, .int .i64 1]) ∧ Ext w w' := by
  have H := Lib.hid h; clear h
  go_enter Tryz.func4, Tryz.ntmps4
  go_wp2_with fail
  refine (read_nobody (H.out.ext (by repeat (first | exact Ext.refl _ | refine Ext.alloc ?_ _))) _).mono ?_
  rintro e w1 ⟨rfl, hw1⟩
  have HX : Hid (Ext w w1) := Lib.hid (by subst hw1; repeat (first | exact Ext.refl _ | refine Ext.alloc ?_ _))
  clear hw1
  go_wp2_with fail
  go_ret2
  exact ⟨rfl, HX.out⟩

set_option maxHeartbeats 1000000 in
theorem equery_nobody {w : World} {o : Option Addr} (h : NoEng w o) (cs : Array Value) :
    Calls Tryz.prog 5 #[.pointer o, .agg cs] w fun e w' => e = .returned (.tuple #[.slice none 0 0, .int .i64 1]) ∧ Ext w w' := by
  have H := Lib.hid h; clear h
  go_enter Tryz.func5, Tryz.ntmps5
  go_wp2_with fail
  refine (enone_nobody (H.out.ext (by repeat (first | exact Ext.refl _ | refine Ext.alloc ?_ _)))).mono ?_
  rintro e w1 ⟨rfl, hw1⟩
  have HX : Hid (Ext w w1) := Lib.hid (by subst hw1; repeat (first | exact Ext.refl _ | refine Ext.alloc ?_ _))
  clear hw1
  go_wp2_with fail
  go_ret2
  exact ⟨rfl, HX.out⟩

set_option maxHeartbeats 1000000 in
theorem eby_nobody {w : World} {o : Option Addr} (h : NoEng w o) (cs : Array Value) (k : Int) :
    Calls Tryz.prog 6 #[.pointer o, .agg cs, .int .i64 k] w fun e w' => e = .returned (.tuple #[.slice none 0 0, .int .i64 1]) ∧ Ext w w' := by
  have H := Lib.hid h; clear h
  go_enter Tryz.func6, Tryz.ntmps6
  go_wp2_with fail
  refine (enone_nobody (H.out.ext (by repeat (first | exact Ext.refl _ | refine Ext.alloc ?_ _)))).mono ?_
  rintro e w1 ⟨rfl, hw1⟩
  have HX : Hid (Ext w w1) := Lib.hid (by subst hw1; repeat (first | exact Ext.refl _ | refine Ext.alloc ?_ _))
  clear hw1
  go_wp2_with fail
  go_ret2
  exact ⟨rfl, HX.out⟩

set_option maxHeartbeats 1000000 in
theorem ewater_nobody {w : World} {o : Option Addr} (h : NoEng w o)  :
    Calls Tryz.prog 7 #[.pointer o] w fun e w' => e = .returned (.tuple #[.int .i64 0, .bool false]) ∧ Ext w w' := by
  have H := Lib.hid h; clear h
  go_enter Tryz.func7, Tryz.ntmps7
  go_wp2_with fail
  refine (enone_nobody (H.out.ext (by repeat (first | exact Ext.refl _ | refine Ext.alloc ?_ _)))).mono ?_
  rintro e w1 ⟨rfl, hw1⟩
  have HX : Hid (Ext w w1) := Lib.hid (by subst hw1; repeat (first | exact Ext.refl _ | refine Ext.alloc ?_ _))
  clear hw1
  go_wp2_with fail
  go_ret2
  exact ⟨rfl, HX.out⟩

set_option maxHeartbeats 1000000 in
theorem esealed_nobody {w : World} {o : Option Addr} (h : NoEng w o) (k : Int) :
    Calls Tryz.prog 8 #[.pointer o, .int .i64 k] w fun e w' => e = .returned (.tuple #[.int .i64 0, .bool false]) ∧ Ext w w' := by
  have H := Lib.hid h; clear h
  go_enter Tryz.func8, Tryz.ntmps8
  go_wp2_with fail
  refine (enone_nobody (H.out.ext (by repeat (first | exact Ext.refl _ | refine Ext.alloc ?_ _)))).mono ?_
  rintro e w1 ⟨rfl, hw1⟩
  have HX : Hid (Ext w w1) := Lib.hid (by subst hw1; repeat (first | exact Ext.refl _ | refine Ext.alloc ?_ _))
  clear hw1
  go_wp2_with fail
  go_ret2
  exact ⟨rfl, HX.out⟩

set_option maxHeartbeats 1000000 in
theorem ewrite_nobody {w : World} {o : Option Addr} (h : NoEng w o) (v : Value) :
    Calls Tryz.prog 9 #[.pointer o, v] w fun e w' => e = .returned (.int .i64 1) ∧ Ext w w' := by
  have H := Lib.hid h; clear h
  go_enter Tryz.func9, Tryz.ntmps9
  go_wp2_with fail
  refine (enone_nobody (H.out.ext (by repeat (first | exact Ext.refl _ | refine Ext.alloc ?_ _)))).mono ?_
  rintro e w1 ⟨rfl, hw1⟩
  have HX : Hid (Ext w w1) := Lib.hid (by subst hw1; repeat (first | exact Ext.refl _ | refine Ext.alloc ?_ _))
  clear hw1
  go_wp2_with fail
  go_ret
  exact ⟨rfl, HX.out⟩

set_option maxHeartbeats 1000000 in
theorem estep_nobody {w : World} {o : Option Addr} (h : NoEng w o) (k : Int) :
    Calls Tryz.prog 10 #[.pointer o, .int .i64 k] w fun e w' => e = .returned (.int .i64 1) ∧ Ext w w' := by
  have H := Lib.hid h; clear h
  go_enter Tryz.func10, Tryz.ntmps10
  go_wp2_with fail
  refine (enone_nobody (H.out.ext (by repeat (first | exact Ext.refl _ | refine Ext.alloc ?_ _)))).mono ?_
  rintro e w1 ⟨rfl, hw1⟩
  have HX : Hid (Ext w w1) := Lib.hid (by subst hw1; repeat (first | exact Ext.refl _ | refine Ext.alloc ?_ _))
  clear hw1
  go_wp2_with fail
  go_ret
  exact ⟨rfl, HX.out⟩

set_option maxHeartbeats 1000000 in
theorem ememory_nobody {w : World} {o : Option Addr} (h : NoEng w o)  :
    Calls Tryz.prog 12 #[.pointer o] w fun e w' => e = .returned (.int .i64 0) ∧ Ext w w' := by
  have H := Lib.hid h; clear h
  go_enter Tryz.func12, Tryz.ntmps12
  go_wp2_with fail
  refine (enone_nobody (H.out.ext (by repeat (first | exact Ext.refl _ | refine Ext.alloc ?_ _)))).mono ?_
  rintro e w1 ⟨rfl, hw1⟩
  have HX : Hid (Ext w w1) := Lib.hid (by subst hw1; repeat (first | exact Ext.refl _ | refine Ext.alloc ?_ _))
  clear hw1
  go_wp2_with fail
  go_ret
  exact ⟨rfl, HX.out⟩

set_option maxHeartbeats 1000000 in
theorem epending_nobody {w : World} {o : Option Addr} (h : NoEng w o)  :
    Calls Tryz.prog 13 #[.pointer o] w fun e w' => e = .returned (.int .i64 0) ∧ Ext w w' := by
  have H := Lib.hid h; clear h
  go_enter Tryz.func13, Tryz.ntmps13
  go_wp2_with fail
  refine (enone_nobody (H.out.ext (by repeat (first | exact Ext.refl _ | refine Ext.alloc ?_ _)))).mono ?_
  rintro e w1 ⟨rfl, hw1⟩
  have HX : Hid (Ext w w1) := Lib.hid (by subst hw1; repeat (first | exact Ext.refl _ | refine Ext.alloc ?_ _))
  clear hw1
  go_wp2_with fail
  go_ret
  exact ⟨rfl, HX.out⟩

set_option maxHeartbeats 1000000 in
theorem efiles_nobody {w : World} {o : Option Addr} (h : NoEng w o)  :
    Calls Tryz.prog 14 #[.pointer o] w fun e w' => e = .returned (.int .i64 0) ∧ Ext w w' := by
  have H := Lib.hid h; clear h
  go_enter Tryz.func14, Tryz.ntmps14
  go_wp2_with fail
  refine (enone_nobody (H.out.ext (by repeat (first | exact Ext.refl _ | refine Ext.alloc ?_ _)))).mono ?_
  rintro e w1 ⟨rfl, hw1⟩
  have HX : Hid (Ext w w1) := Lib.hid (by subst hw1; repeat (first | exact Ext.refl _ | refine Ext.alloc ?_ _))
  clear hw1
  go_wp2_with fail
  go_ret
  exact ⟨rfl, HX.out⟩

set_option maxHeartbeats 1000000 in
theorem elow_nobody {w : World} {o : Option Addr} (h : NoEng w o) :
    Calls Tryz.prog 11 #[.pointer o] w fun e w' => e = .returned (.int .i64 0) ∧ Ext w w' := by
  have H := Lib.hid h; clear h
  go_enter Tryz.func11, Tryz.ntmps11
  go_wp2_with fail
  refine (ewater_nobody H.out).mono ?_
  rintro e w1 ⟨rfl, hx⟩
  have HX := Lib.hid hx; clear hx
  go_wp2_with fail
  refine (enone_nobody (H.out.ext HX.out)).mono ?_
  rintro e w2 ⟨rfl, rfl⟩
  go_wp2_with fail
  go_ret
  exact ⟨rfl, HX.out⟩

set_option maxHeartbeats 8000000 in
set_option maxRecDepth 100000 in
theorem engineNobody_any (c0 c1 c2 c3 c4 c5 c6 c7 c8 c9 c10 c11 : Value) (w : World) :
    Calls Tryz.prog 3 #[.agg #[c0, c1, c2, c3, c4, c5, c6, c7, c8, c9, c10, c11]] w fun e w' => e = .returned (.bool true) ∧ Ext w w' := by
  go_enter Tryz.func3, Tryz.ntmps3
  go_wp2_with fail
  generalize hV : World.alloc _ _ = V
  have HV : Hid (Ext w V) := Lib.hid (by subst hV; exact (Ext.refl w).alloc _)
  have BQ : Hid (V.heap[w.heap.size]? = some (.cells #[c0, c1, c2, c3, c4, c5, c6, c7, c8, c9, c10, c11] 23 (0, 0))) := Lib.hid (by subst hV; exact heap_alloc_new w _)
  clear hV
  refine (eopen_nobody (.inl rfl) _).mono ?_
  rintro e w1 ⟨rfl, hx1⟩
  have HX1 := Lib.hid hx1; clear hx1
  go_wp2_with fail
  refine (eopen_nobody (.inr ⟨_, rfl, by simp [go_sem]⟩) _).mono ?_
  rintro e w2 ⟨rfl, hx2⟩
  have HX2 : Hid (Ext V w2) := Lib.hid ((HX1.out.alloc _).trans hx2); clear hx2 HX1
  go_wp2_with fail
  generalize hW : World.alloc _ _ = W
  have Hx : Hid (Ext w2 W) := Lib.hid (by subst hW; exact ((Ext.refl w2).alloc _).alloc _)
  have q0 : W.cell? ⟨w2.heap.size + 1, 0, none⟩ = some (.pointer none) := by subst hW; simp [go_sem]
  have q1 : W.cell? ⟨w2.heap.size + 1, 1, none⟩ = some (.pointer (some ⟨w2.heap.size, 0, none⟩)) := by subst hW; simp [go_sem]
  have q2 : W.cell? ⟨w2.heap.size, 3, none⟩ = some (.pointer none) := by subst hW; simp [go_sem]
  clear hW
  have l0 := World.block_lt_of_cell? W _ q0
  have l2 := World.block_lt_of_cell? W _ q2
  have Hq0 := Lib.hid q0; have Hq1 := Lib.hid q1; have Hq2 := Lib.hid q2
  clear q0 q1 q2
  go_loopw [47] (fun i wr => ∃ k : Nat, k ≤ 2 ∧ i = .int .i64 k ∧ Hid (Ext W wr)) (fun i _ => 2 - (intOf i).toNat)
  case atStart => exact ⟨0, by omega, rfl, Lib.hid (Ext.refl _)⟩
  case round =>
    obtain ⟨k, hk, rfl, hin⟩ := hrel
    by_cases hlt : k < 2
    · obtain ⟨o, hcell, hnob⟩ : ∃ o, wr.cell? ⟨w2.heap.size + 1, k, none⟩ = some (.pointer o) ∧ NoEng wr o := by
        rcases (show k = 0 ∨ k = 1 by omega) with rfl | rfl
        · exact ⟨_, (hin.out.cell (p := ⟨w2.heap.size + 1, 0, none⟩) l0).trans Hq0.out, .inl rfl⟩
        · exact ⟨_, (hin.out.cell (p := ⟨w2.heap.size + 1, 1, none⟩) l0).trans Hq1.out, .inr ⟨_, rfl, (hin.out.cell (p := ⟨w2.heap.size, 3, none⟩) l2).trans Hq2.out⟩⟩
      have Hn := Lib.hid hnob; clear hnob
      have bq := ((HX2.out.trans Hx.out).trans hin.out).block (block_ltB BQ.out)
      rw [BQ.out] at bq
      have qc0 : wr.cell? ⟨w.heap.size, 0, none⟩ = some c0 := by have := cell_of_blockB bq 0; simpa using this
      have qc1 : wr.cell? ⟨w.heap.size, 1, none⟩ = some c1 := by have := cell_of_blockB bq 1; simpa using this
      have qc2 : wr.cell? ⟨w.heap.size, 2, none⟩ = some c2 := by have := cell_of_blockB bq 2; simpa using this
      have qc3 : wr.cell? ⟨w.heap.size, 3, none⟩ = some c3 := by have := cell_of_blockB bq 3; simpa using this
      have qc4 : wr.cell? ⟨w.heap.size, 4, none⟩ = some c4 := by have := cell_of_blockB bq 4; simpa using this
      have qc5 : wr.cell? ⟨w.heap.size, 5, none⟩ = some c5 := by have := cell_of_blockB bq 5; simpa using this
      have qc6 : wr.cell? ⟨w.heap.size, 6, none⟩ = some c6 := by have := cell_of_blockB bq 6; simpa using this
      have qc7 : wr.cell? ⟨w.heap.size, 7, none⟩ = some c7 := by have := cell_of_blockB bq 7; simpa using this
      have qc8 : wr.cell? ⟨w.heap.size, 8, none⟩ = some c8 := by have := cell_of_blockB bq 8; simpa using this
      have qc9 : wr.cell? ⟨w.heap.size, 9, none⟩ = some c9 := by have := cell_of_blockB bq 9; simpa using this
      have qc10 : wr.cell? ⟨w.heap.size, 10, none⟩ = some c10 := by have := cell_of_blockB bq 10; simpa using this
      have qc11 : wr.cell? ⟨w.heap.size, 11, none⟩ = some c11 := by have := cell_of_blockB bq 11; simpa using this
      clear bq
      go_wp2_with fail
      refine (equery_nobody Hn.out _).mono ?_
      rintro e v0 ⟨rfl, hx⟩
      replace Hn := Lib.hid (Hn.out.ext hx)
      replace hin := Lib.hid (hin.out.trans hx)
      clear hcell
      have bl := World.block_lt_of_cell? wr _ qc0
      replace qc0 := (hx.cell (p := ⟨w.heap.size, 0, none⟩) bl).trans qc0
      replace qc1 := (hx.cell (p := ⟨w.heap.size, 1, none⟩) bl).trans qc1
      replace qc2 := (hx.cell (p := ⟨w.heap.size, 2, none⟩) bl).trans qc2
      replace qc3 := (hx.cell (p := ⟨w.heap.size, 3, none⟩) bl).trans qc3
      replace qc4 := (hx.cell (p := ⟨w.heap.size, 4, none⟩) bl).trans qc4
      replace qc5 := (hx.cell (p := ⟨w.heap.size, 5, none⟩) bl).trans qc5
      replace qc6 := (hx.cell (p := ⟨w.heap.size, 6, none⟩) bl).trans qc6
      replace qc7 := (hx.cell (p := ⟨w.heap.size, 7, none⟩) bl).trans qc7
      replace qc8 := (hx.cell (p := ⟨w.heap.size, 8, none⟩) bl).trans qc8
      replace qc9 := (hx.cell (p := ⟨w.heap.size, 9, none⟩) bl).trans qc9
      replace qc10 := (hx.cell (p := ⟨w.heap.size, 10, none⟩) bl).trans qc10
      replace qc11 := (hx.cell (p := ⟨w.heap.size, 11, none⟩) bl).trans qc11
      clear hx
      go_wp2_with fail
      refine (eby_nobody Hn.out _ _).mono ?_
      rintro e v1 ⟨rfl, hx⟩
      replace Hn := Lib.hid (Hn.out.ext hx)
      replace hin := Lib.hid (hin.out.trans hx)
      clear qc0 qc1 qc2 qc3 qc4 qc5 qc6 qc7 qc8 qc9 qc10 qc11
      clear hx
      go_wp2_with fail
      refine (ewater_nobody Hn.out ).mono ?_
      rintro e v2 ⟨rfl, hx⟩
      replace Hn := Lib.hid (Hn.out.ext hx)
      replace hin := Lib.hid (hin.out.trans hx)
      clear hx
      go_wp2_with fail
      refine (esealed_nobody Hn.out _).mono ?_
      rintro e v3 ⟨rfl, hx⟩
      replace Hn := Lib.hid (Hn.out.ext hx)
      replace hin := Lib.hid (hin.out.trans hx)
      clear hx
      go_wp2_with fail
      refine (ewrite_nobody Hn.out _).mono ?_
      rintro e v4 ⟨rfl, hx⟩
      replace Hn := Lib.hid (Hn.out.ext hx)
      replace hin := Lib.hid (hin.out.trans hx)
      clear hx
      go_wp2_with fail
      refine (estep_nobody Hn.out _).mono ?_
      rintro e v5 ⟨rfl, hx⟩
      replace Hn := Lib.hid (Hn.out.ext hx)
      replace hin := Lib.hid (hin.out.trans hx)
      clear hx
      go_wp2_with fail
      refine (elow_nobody Hn.out ).mono ?_
      rintro e v6 ⟨rfl, hx⟩
      replace Hn := Lib.hid (Hn.out.ext hx)
      replace hin := Lib.hid (hin.out.trans hx)
      clear hx
      go_wp2_with fail
      refine (ememory_nobody Hn.out ).mono ?_
      rintro e v7 ⟨rfl, hx⟩
      replace Hn := Lib.hid (Hn.out.ext hx)
      replace hin := Lib.hid (hin.out.trans hx)
      clear hx
      go_wp2_with fail
      refine (epending_nobody Hn.out ).mono ?_
      rintro e v8 ⟨rfl, hx⟩
      replace Hn := Lib.hid (Hn.out.ext hx)
      replace hin := Lib.hid (hin.out.trans hx)
      clear hx
      go_wp2_with fail
      refine (efiles_nobody Hn.out ).mono ?_
      rintro e v9 ⟨rfl, hx⟩
      replace Hn := Lib.hid (Hn.out.ext hx)
      replace hin := Lib.hid (hin.out.trans hx)
      clear hx
      go_wp2_with fail
      go_roundw
      case rel => exact ⟨k + 1, by omega, by go_num, hin⟩
      case measure => simp [intOf]; omega
    · go_wp2_with fail
      go_ret
      exact ⟨rfl, ((HV.out.trans HX2.out).trans Hx.out).trans hin.out⟩

end Go.Proofs.YtkemfedokjkmlaaGreatDoor
