/- Calls on dicts that no call made: each tells that there is none. -/
import Derived.Test.YteojffhkdfdmgaaBase
import Derived.Test.YteojffhkdfdmgaaShelf
import Derived.WalkKit
import Derived.WalkSpells
namespace Go.Proofs.Yteojffhkdfdmgaa
open Go.RowKit Go.Sort

/-- A dict that no call made: nil, or without a map. -/
def NoDict (w : World) (pv : Value) : Prop := pv = .pointer none ∨ ∃ b, pv = .pointer (some ⟨b, 0, none⟩) ∧ w.cell? ⟨b, 0, none⟩ = some (.map none)

set_option maxHeartbeats 1000000 in
theorem dnone_nobody {w : World} {pv : Value} (h : NoDict w pv) :
    Calls Try.prog 20 #[pv] w fun e w' => e = .returned (.bool true) ∧ w = w' := by
  have hn := fun (w : World) => run_eql_map_nil (P := Try.prog) w 42 _ _ none Try.underlying42
  rcases h with rfl | ⟨b, rfl, hc⟩
  all_goals
    go_enter Try.func20, Try.ntmps20
    go_wp2
    go_ret
    exact ⟨rfl, rfl⟩

set_option maxHeartbeats 1000000 in
theorem dput_nobody {w : World} {pv : Value} (h : NoDict w pv) (s : ByteArray) :
    Calls Try.prog 7 #[pv, .string s] w fun e w' => e = .returned (.tuple #[.int .i64 0, .int .i64 1]) ∧ w = w' := by
  have H := Lib.hid h; clear h
  go_enter Try.func7, Try.ntmps7
  go_wp2_with (go_at_call 20; refine (dnone_nobody H.out).mono ?_; rintro e w' ⟨rfl, rfl⟩)
  go_ret2
  exact ⟨rfl, rfl⟩

set_option maxHeartbeats 1000000 in
theorem dfind_nobody {w : World} {pv : Value} (h : NoDict w pv) (s : ByteArray) :
    Calls Try.prog 14 #[pv, .string s] w fun e w' => e = .returned (.tuple #[.int .i64 0, .bool false]) ∧ w = w' := by
  have H := Lib.hid h; clear h
  go_enter Try.func14, Try.ntmps14
  go_wp2_with (go_at_call 20; refine (dnone_nobody H.out).mono ?_; rintro e w' ⟨rfl, rfl⟩)
  go_ret2
  exact ⟨rfl, rfl⟩

set_option maxHeartbeats 1000000 in
theorem dnames_nobody {w : World} {pv : Value} (h : NoDict w pv)  :
    Calls Try.prog 11 #[pv] w fun e w' => e = .returned (.slice none 0 0) ∧ w = w' := by
  have H := Lib.hid h; clear h
  go_enter Try.func11, Try.ntmps11
  go_wp2_with (go_at_call 20; refine (dnone_nobody H.out).mono ?_; rintro e w' ⟨rfl, rfl⟩)
  go_ret
  exact ⟨rfl, rfl⟩

set_option maxHeartbeats 1000000 in
theorem dlen_nobody {w : World} {pv : Value} (h : NoDict w pv)  :
    Calls Try.prog 9 #[pv] w fun e w' => e = .returned (.int .i64 0) ∧ w = w' := by
  have H := Lib.hid h; clear h
  go_enter Try.func9, Try.ntmps9
  go_wp2_with (go_at_call 20; refine (dnone_nobody H.out).mono ?_; rintro e w' ⟨rfl, rfl⟩)
  go_ret
  exact ⟨rfl, rfl⟩

set_option maxHeartbeats 1000000 in
theorem dbytes_nobody {w : World} {pv : Value} (h : NoDict w pv)  :
    Calls Try.prog 19 #[pv] w fun e w' => e = .returned (.slice none 0 0) ∧ w = w' := by
  have H := Lib.hid h; clear h
  go_enter Try.func19, Try.ntmps19
  go_wp2_with (go_at_call 20; refine (dnone_nobody H.out).mono ?_; rintro e w' ⟨rfl, rfl⟩)
  go_ret
  exact ⟨rfl, rfl⟩

set_option maxHeartbeats 1000000 in
theorem dname_nobody {w : World} {pv : Value} (h : NoDict w pv) :
    Calls Try.prog 17 #[pv, .int .i64 0] w fun e w' => e = .returned (.tuple #[.string ⟨#[]⟩, .bool false]) ∧ w = w' := by
  have H := Lib.hid h; clear h
  go_enter Try.func17, Try.ntmps17
  go_wp2_with (go_at_call 9; refine (dlen_nobody H.out).mono ?_; rintro e w' ⟨rfl, rfl⟩)
  go_ret2
  exact ⟨rfl, rfl⟩

set_option maxHeartbeats 1000000 in
theorem dsorted_nobody {w : World} {pv : Value} (h : NoDict w pv) :
    Calls Try.prog 8 #[pv] w fun e w' => e = .returned (.slice none 0 0) ∧ w = w' := by
  have H := Lib.hid h; clear h
  go_enter Try.func8, Try.ntmps8
  go_wp2_with fail
  refine (dnames_nobody H.out).mono ?_
  rintro e w1 ⟨rfl, rfl⟩
  go_wp2_with fail
  refine (Try.slices_Sort_string_none none 0 _).mono ?_
  rintro e w1 ⟨rfl, rfl⟩
  go_wp2_with fail
  go_ret
  exact ⟨rfl, rfl⟩

theorem NoDict.ext {w w' : World} {pv : Value} (h : NoDict w pv) (hx : Ext w w') : NoDict w' pv := by
  rcases h with h | ⟨b, h, hc⟩
  · exact .inl h
  · exact .inr ⟨b, h, by rw [hx.cell (p := ⟨b, 0, none⟩) (World.block_lt_of_cell? w _ hc)]; exact hc⟩

set_option maxHeartbeats 4000000 in
set_option maxRecDepth 100000 in
theorem seriesNobody_any (s : ByteArray) (w : World) :
    Calls Try.prog 5 #[.string s] w fun e w' => e = .returned (.bool true) ∧ Ext w w' := by
  go_enter Try.func5, Try.ntmps5
  go_wp2_with fail
  generalize hW : World.alloc _ _ = W
  have hx : Ext w W := by subst hW; exact ((Ext.refl w).alloc _).alloc _
  have q0 : W.cell? ⟨w.heap.size + 1, 0, none⟩ = some (.pointer none) := by subst hW; simp [go_sem]
  have q1 : W.cell? ⟨w.heap.size + 1, 1, none⟩ = some (.pointer (some ⟨w.heap.size, 0, none⟩)) := by subst hW; simp [go_sem]
  have q2 : W.cell? ⟨w.heap.size, 0, none⟩ = some (.map none) := by subst hW; simp [go_sem]
  clear hW
  have l0 := World.block_lt_of_cell? W _ q0
  have l2 := World.block_lt_of_cell? W _ q2
  have Hq0 := Lib.hid q0; have Hq1 := Lib.hid q1; have Hq2 := Lib.hid q2; have Hx := Lib.hid hx
  clear q0 q1 q2 hx
  go_loopw [15] (fun i wr => ∃ k : Nat, k ≤ 2 ∧ i = .int .i64 k ∧ Hid (W = wr)) (fun i _ => 2 - (intOf i).toNat)
  case atStart => exact ⟨0, by omega, rfl, rfl⟩
  case round =>
    obtain ⟨k, hk, rfl, hin⟩ := hrel
    obtain rfl := hin.out
    clear hin
    by_cases hlt : k < 2
    · obtain ⟨pv, hcell, hnob⟩ : ∃ pv, W.cell? ⟨w.heap.size + 1, k, none⟩ = some pv ∧ NoDict W pv := by
        rcases (show k = 0 ∨ k = 1 by omega) with rfl | rfl
        · exact ⟨_, Hq0.out, .inl rfl⟩
        · exact ⟨_, Hq1.out, .inr ⟨_, rfl, Hq2.out⟩⟩
      have Hn := Lib.hid hnob; clear hnob
      go_wp2_with fail
      refine (dput_nobody Hn.out _).mono ?_
      rintro e w1 ⟨rfl, rfl⟩
      go_wp2_with fail
      refine (dfind_nobody Hn.out _).mono ?_
      rintro e w1 ⟨rfl, rfl⟩
      go_wp2_with fail
      refine (dname_nobody Hn.out).mono ?_
      rintro e w1 ⟨rfl, rfl⟩
      clear hcell
      go_wp2_with fail
      refine (dnames_nobody Hn.out).mono ?_
      rintro e w1 ⟨rfl, rfl⟩
      go_wp2_with fail
      refine (dsorted_nobody Hn.out).mono ?_
      rintro e w1 ⟨rfl, rfl⟩
      go_wp2_with fail
      refine (dlen_nobody Hn.out).mono ?_
      rintro e w1 ⟨rfl, rfl⟩
      go_wp2_with fail
      refine (dbytes_nobody Hn.out).mono ?_
      rintro e w1 ⟨rfl, rfl⟩
      go_wp2_with fail
      go_roundw
      case rel => exact ⟨k + 1, by omega, by go_num, by first | trivial | rfl⟩
      case measure => simp [intOf]; omega
    · go_wp2_with fail
      go_ret
      exact ⟨rfl, Hx.out⟩

end Go.Proofs.Yteojffhkdfdmgaa
