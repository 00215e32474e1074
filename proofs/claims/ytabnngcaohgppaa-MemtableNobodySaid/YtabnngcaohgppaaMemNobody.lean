/- Calls on tables that no call made: each tells that there is none. -/
import Derived.Test.YtabnngcaohgppaaBase
import Derived.Test.YtabnngcaohgppaaShelf
import Derived.WalkKit
import Derived.WalkSpells
namespace Go.Proofs.Ytabnngcaohgppaa
open Go.RowKit Go.Sort

/-- A table that no call made: nil, or without a map. -/
def NoTable (w : World) (pv : Value) : Prop := pv = .pointer none ∨ ∃ b, pv = .pointer (some ⟨b, 0, none⟩) ∧ w.cell? ⟨b, 0, none⟩ = some (.map none)

theorem NoTable.ext {w w' : World} {pv : Value} (h : NoTable w pv) (hx : Ext w w') : NoTable w' pv := by
  rcases h with h | ⟨b, h, hc⟩
  · exact .inl h
  · exact .inr ⟨b, h, by rw [hx.cell (p := ⟨b, 0, none⟩) (World.block_lt_of_cell? w _ hc)]; exact hc⟩

set_option maxHeartbeats 1000000 in
theorem mnone_nobody {w : World} {pv : Value} (h : NoTable w pv) :
    Calls Try.prog 22 #[pv] w fun e w' => e = .returned (.bool true) ∧ w = w' := by
  have hn := fun (w : World) => run_eql_map_nil (P := Try.prog) w 49 _ _ none Try.underlying49
  rcases h with rfl | ⟨b, rfl, hc⟩
  all_goals
    go_enter Try.func22, Try.ntmps22
    go_wp2
    go_ret
    exact ⟨rfl, rfl⟩

set_option maxHeartbeats 1000000 in
theorem mput_nobody {w : World} {pv : Value} (h : NoTable w pv) (s : ByteArray) (cs : Array Value) :
    Calls Try.prog 9 #[pv, .string s, .agg cs] w fun e w' => e = .returned (.int .i64 1) ∧ Ext w w' := by
  obtain ⟨o, rfl⟩ : ∃ o, pv = .pointer o := by
    rcases h with rfl | ⟨b, rfl, _⟩ <;> exact ⟨_, rfl⟩
  have H := Lib.hid h; clear h
  go_enter Try.func9, Try.ntmps9
  go_wp2_with fail
  refine (mnone_nobody (H.out.ext ((Ext.refl w).alloc _))).mono ?_; rintro e w' ⟨rfl, rfl⟩
  go_wp2_with fail
  go_ret
  exact ⟨rfl, (Ext.refl w).alloc _⟩

set_option maxHeartbeats 1000000 in
theorem mfits_nobody {w : World} {pv : Value} (h : NoTable w pv) (l : Value) :
    Calls Try.prog 8 #[pv, l] w fun e w' => e = .returned (.bool false) ∧ w = w' := by
  have H := Lib.hid h; clear h
  go_enter Try.func8, Try.ntmps8
  go_wp2_with (go_at_call 22; refine (mnone_nobody H.out).mono ?_; rintro e w' ⟨rfl, rfl⟩)
  go_ret
  exact ⟨rfl, rfl⟩

set_option maxHeartbeats 1000000 in
theorem mpoints_nobody {w : World} {pv : Value} (h : NoTable w pv) (s : ByteArray) (x y : Value) :
    Calls Try.prog 11 #[pv, .string s, x, y] w fun e w' => e = .returned (.slice none 0 0) ∧ w = w' := by
  have H := Lib.hid h; clear h
  go_enter Try.func11, Try.ntmps11
  go_wp2_with (go_at_call 22; refine (mnone_nobody H.out).mono ?_; rintro e w' ⟨rfl, rfl⟩)
  go_ret
  exact ⟨rfl, rfl⟩

set_option maxHeartbeats 1000000 in
theorem mlen_nobody {w : World} {pv : Value} (h : NoTable w pv) :
    Calls Try.prog 10 #[pv] w fun e w' => e = .returned (.int .i64 0) ∧ w = w' := by
  have H := Lib.hid h; clear h
  go_enter Try.func10, Try.ntmps10
  go_wp2_with (go_at_call 22; refine (mnone_nobody H.out).mono ?_; rintro e w' ⟨rfl, rfl⟩)
  go_ret
  exact ⟨rfl, rfl⟩

set_option maxHeartbeats 1000000 in
theorem mnames_nobody {w : World} {pv : Value} (h : NoTable w pv) :
    Calls Try.prog 13 #[pv] w fun e w' => e = .returned (.slice none 0 0) ∧ w = w' := by
  have H := Lib.hid h; clear h
  go_enter Try.func13, Try.ntmps13
  go_wp2_with (go_at_call 22; refine (mnone_nobody H.out).mono ?_; rintro e w' ⟨rfl, rfl⟩)
  refine (Try.slices_Sort_string_none none 0 _).mono ?_
  rintro e w1 ⟨rfl, rfl⟩
  go_wp2_with fail
  go_ret
  exact ⟨rfl, rfl⟩

set_option maxHeartbeats 1000000 in
theorem mparts_nobody {w : World} {pv : Value} (h : NoTable w pv) :
    Calls Try.prog 14 #[pv] w fun e w' => e = .returned (.slice none 0 0) ∧ Ext w w' := by
  obtain ⟨o, rfl⟩ : ∃ o, pv = .pointer o := by
    rcases h with rfl | ⟨b, rfl, _⟩ <;> exact ⟨_, rfl⟩
  have H := Lib.hid h; clear h
  go_enter Try.func14, Try.ntmps14
  go_wp2_with fail
  generalize hW : World.alloc _ _ = W
  have Hx : Hid (Ext w W) := Lib.hid (by subst hW; exact ((Ext.refl w).alloc _).alloc _)
  have q2 : W.cell? ⟨w.heap.size + 1, 0, none⟩ = some (.slice none 0 0) := by subst hW; simp [go_sem]
  clear hW
  refine (mnames_nobody (H.out.ext Hx.out)).mono ?_
  rintro e w1 ⟨rfl, rfl⟩
  go_wp2_with fail
  go_loopw [11] (fun i wr => i = .int .i64 (0 : Nat) ∧ Hid (W = wr)) (fun _ _ => 0)
  case atStart => exact ⟨rfl, rfl⟩
  case round =>
    obtain ⟨rfl, hin⟩ := hrel
    obtain rfl := hin.out
    clear hin
    go_wp2_with fail
    go_ret
    exact ⟨rfl, Hx.out⟩

set_option maxHeartbeats 1000000 in
theorem mtake_nobody {w : World} {pv : Value} (h : NoTable w pv) :
    Calls Try.prog 12 #[pv] w fun e w' => e = .returned (.slice none 0 0) ∧ Ext w w' := by
  obtain ⟨o, rfl⟩ : ∃ o, pv = .pointer o := by
    rcases h with rfl | ⟨b, rfl, _⟩ <;> exact ⟨_, rfl⟩
  have H := Lib.hid h; clear h
  go_enter Try.func12, Try.ntmps12
  go_wp2_with fail
  refine (mparts_nobody H.out).mono ?_
  rintro e w1 ⟨rfl, hx⟩
  have Hx := Lib.hid hx; clear hx
  go_wp2_with fail
  refine (mnone_nobody (H.out.ext Hx.out)).mono ?_
  rintro e w2 ⟨rfl, rfl⟩
  go_wp2_with fail
  go_ret
  exact ⟨rfl, Hx.out⟩

set_option maxHeartbeats 4000000 in
set_option maxRecDepth 100000 in
theorem memtableNobody_any (s : ByteArray) (w : World) :
    Calls Try.prog 5 #[.string s] w fun e w' => e = .returned (.bool true) ∧ Ext w w' := by
  go_enter Try.func5, Try.ntmps5
  go_wp2_with fail
  generalize hW : World.alloc _ _ = W
  have hx : Ext w W := by subst hW; exact ((Ext.refl w).alloc _).alloc _
  have q0 : W.cell? ⟨w.heap.size + 1, 0, none⟩ = some (.pointer none) := by subst hW; simp [go_sem]
  have q1 : W.cell? ⟨w.heap.size + 1, 1, none⟩ = some (.pointer (some ⟨w.heap.size, 0, none⟩)) := by subst hW; simp [go_sem]
  have q2 : W.cell? ⟨w.heap.size, 0, none⟩ = some (.map none) := by subst hW; simp [go_sem]
  clear hW
  have l0 := World.block_lt_of_cell? W _ q0
  have l2 := World.block_lt_of_cell? W _ q2
  have Hq0 := Lib.hid q0; have Hq1 := Lib.hid q1; have Hq2 := Lib.hid q2; have Hx := Lib.hid hx
  clear q0 q1 q2 hx
  go_loopw [9] (fun i wr => ∃ k : Nat, k ≤ 2 ∧ i = .int .i64 k ∧ Hid (Ext W wr)) (fun i _ => 2 - (intOf i).toNat)
  case atStart => exact ⟨0, by omega, rfl, Lib.hid (Ext.refl _)⟩
  case round =>
    obtain ⟨k, hk, rfl, hin⟩ := hrel
    by_cases hlt : k < 2
    · obtain ⟨o, hcell, hnob⟩ : ∃ o, wr.cell? ⟨w.heap.size + 1, k, none⟩ = some (.pointer o) ∧ NoTable wr (.pointer o) := by
        rcases (show k = 0 ∨ k = 1 by omega) with rfl | rfl
        · exact ⟨_, (hin.out.cell (p := ⟨w.heap.size + 1, 0, none⟩) l0).trans Hq0.out, .inl rfl⟩
        · exact ⟨_, (hin.out.cell (p := ⟨w.heap.size + 1, 1, none⟩) l0).trans Hq1.out, .inr ⟨_, rfl, (hin.out.cell (p := ⟨w.heap.size, 0, none⟩) l2).trans Hq2.out⟩⟩
      have Hn := Lib.hid hnob; clear hnob
      go_wp2_with fail
      refine (mput_nobody Hn.out _ _).mono ?_
      rintro e w0 ⟨rfl, hx0⟩
      clear hcell
      replace Hn := Lib.hid (Hn.out.ext hx0)
      replace hin := Lib.hid (hin.out.trans hx0); clear hx0
      go_wp2_with fail
      refine (mfits_nobody Hn.out _).mono ?_
      rintro e w1 ⟨rfl, rfl⟩
      go_wp2_with fail
      refine (mpoints_nobody Hn.out _ _ _).mono ?_
      rintro e w1 ⟨rfl, rfl⟩
      go_wp2_with fail
      refine (mnames_nobody Hn.out).mono ?_
      rintro e w1 ⟨rfl, rfl⟩
      go_wp2_with fail
      refine (mlen_nobody Hn.out).mono ?_
      rintro e w1 ⟨rfl, rfl⟩
      go_wp2_with fail
      refine (mparts_nobody Hn.out).mono ?_
      rintro e w1 ⟨rfl, hx1⟩
      have Hn1 := Lib.hid (Hn.out.ext hx1)
      have Hx1 := Lib.hid (hin.out.trans hx1); clear hx1
      go_wp2_with fail
      refine (mtake_nobody Hn1.out).mono ?_
      rintro e w2 ⟨rfl, hx2⟩
      have Hx2 := Lib.hid (Hx1.out.trans hx2); clear hx2
      go_wp2_with fail
      go_roundw
      case rel => exact ⟨k + 1, by omega, by go_num, Hx2⟩
      case measure => simp [intOf]; omega
    · go_wp2_with fail
      go_ret
      exact ⟨rfl, Hx.out.trans hin.out⟩

end Go.Proofs.Ytabnngcaohgppaa
