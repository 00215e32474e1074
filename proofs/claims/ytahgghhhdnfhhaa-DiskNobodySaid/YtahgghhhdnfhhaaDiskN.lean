/- Calls on disks that no call made: each tells that there is none. -/
import Derived.Test.YtahgghhhdnfhhaaDiskDo
namespace Go.Proofs.Ytahgghhhdnfhhaa
open Go.RowKit Go.Sort

/-- A disk that no call made: nil, or without a map. -/
def NoDisk (w : World) (pv : Value) : Prop := pv = .pointer none ∨ ∃ b, pv = .pointer (some ⟨b, 0, none⟩) ∧ w.cell? ⟨b, 0, none⟩ = some (.map none)

theorem NoDisk.ext {w w' : World} {pv : Value} (h : NoDisk w pv) (hx : Ext w w') : NoDisk w' pv := by
  rcases h with h | ⟨b, h, hc⟩
  · exact .inl h
  · exact .inr ⟨b, h, by rw [hx.cell (p := ⟨b, 0, none⟩) (World.block_lt_of_cell? w _ hc)]; exact hc⟩

set_option maxHeartbeats 1000000 in
theorem none_nobody {w : World} {pv : Value} (h : NoDisk w pv) :
    Calls Try.prog 31 #[pv] w fun e w' => e = .returned (.bool true) ∧ w = w' := by
  have hn := fun (w : World) => run_eql_map_nil (P := Try.prog) w 60 _ _ none Try.underlying60
  rcases h with rfl | ⟨b, rfl, hc⟩
  all_goals
    go_enter Try.func31, Try.ntmps31
    go_wp2
    go_ret
    exact ⟨rfl, rfl⟩

set_option maxHeartbeats 1000000 in
theorem do_nobody {w : World} {pv : Value} (h : NoDisk w pv) (v1 v2 : Value) :
    Calls Try.prog 29 #[pv, v1, v2] w fun e w' => e = .returned (.int .i64 1) ∧ w = w' := by
  have H := Lib.hid h; clear h
  go_enter Try.func29, Try.ntmps29
  go_wp2_with (go_at_call 31; refine (none_nobody H.out).mono ?_; rintro e w' ⟨rfl, rfl⟩)
  go_ret
  exact ⟨rfl, rfl⟩

set_option maxHeartbeats 1000000 in
theorem cut_nobody {w : World} {pv : Value} (h : NoDisk w pv) (n : Int) :
    Calls Try.prog 13 #[pv, .int .i64 n] w fun e w' => e = .returned (.tuple #[]) ∧ w = w' := by
  have H := Lib.hid h; clear h
  go_enter Try.func13, Try.ntmps13
  go_wp2_with (go_at_call 31; refine (none_nobody H.out).mono ?_; rintro e w' ⟨rfl, rfl⟩)
  go_end0
  exact ⟨rfl, rfl⟩

set_option maxHeartbeats 1000000 in
theorem read_nobody {w : World} {pv : Value} (h : NoDisk w pv) (s : ByteArray) :
    Calls Try.prog 10 #[pv, .string s] w fun e w' => e = .returned (.tuple #[.slice none 0 0, .int .i64 1]) ∧ w = w' := by
  have H := Lib.hid h; clear h
  go_enter Try.func10, Try.ntmps10
  go_wp2_with (go_at_call 31; refine (none_nobody H.out).mono ?_; rintro e w' ⟨rfl, rfl⟩)
  go_ret2
  exact ⟨rfl, rfl⟩

set_option maxHeartbeats 1000000 in
theorem crash_nobody {w : World} {pv : Value} (h : NoDisk w pv) (v : Value) :
    Calls Try.prog 17 #[pv, v] w fun e w' => e = .returned (.tuple #[.pointer none, .int .i64 1]) ∧ w = w' := by
  have H := Lib.hid h; clear h
  go_enter Try.func17, Try.ntmps17
  go_wp2_with (go_at_call 31; refine (none_nobody H.out).mono ?_; rintro e w' ⟨rfl, rfl⟩)
  go_ret2
  exact ⟨rfl, rfl⟩

set_option maxHeartbeats 1000000 in
theorem flip_nobody {w : World} {pv : Value} (h : NoDisk w pv) (s : ByteArray) (n b : Int) :
    Calls Try.prog 22 #[pv, .string s, .int .i64 n, .int .u32 b] w fun e w' => e = .returned (.int .i64 1) ∧ w = w' := by
  have H := Lib.hid h; clear h
  go_enter Try.func22, Try.ntmps22
  go_wp2_with (go_at_call 31; refine (none_nobody H.out).mono ?_; rintro e w' ⟨rfl, rfl⟩)
  go_ret
  exact ⟨rfl, rfl⟩

set_option maxHeartbeats 1000000 in
theorem list_nobody {w : World} {pv : Value} (h : NoDisk w pv) (s : ByteArray) :
    Calls Try.prog 26 #[pv, .string s] w fun e w' => e = .returned (.slice none 0 0) ∧ w = w' := by
  have H := Lib.hid h; clear h
  go_enter Try.func26, Try.ntmps26
  go_wp2_with (go_at_call 31; refine (none_nobody H.out).mono ?_; rintro e w' ⟨rfl, rfl⟩)
  go_ret
  exact ⟨rfl, rfl⟩

set_option maxHeartbeats 1000000 in
theorem used_nobody {w : World} {pv : Value} (h : NoDisk w pv)  :
    Calls Try.prog 11 #[pv] w fun e w' => e = .returned (.int .i64 0) ∧ w = w' := by
  have H := Lib.hid h; clear h
  go_enter Try.func11, Try.ntmps11
  go_wp2_with (go_at_call 31; refine (none_nobody H.out).mono ?_; rintro e w' ⟨rfl, rfl⟩)
  go_ret
  exact ⟨rfl, rfl⟩

set_option maxHeartbeats 1000000 in
theorem ops_nobody {w : World} {pv : Value} (h : NoDisk w pv)  :
    Calls Try.prog 16 #[pv] w fun e w' => e = .returned (.int .i64 0) ∧ w = w' := by
  have H := Lib.hid h; clear h
  go_enter Try.func16, Try.ntmps16
  go_wp2_with (go_at_call 31; refine (none_nobody H.out).mono ?_; rintro e w' ⟨rfl, rfl⟩)
  go_ret
  exact ⟨rfl, rfl⟩

set_option maxHeartbeats 1000000 in
theorem with_nobody {w : World} {pv : Value} (h : NoDisk w pv) (a : Option Addr) (n c : Nat) (f : Fn) (x y : Array Value) :
    Calls Try.prog 32 #[pv, .slice a n c, .func f x y] w fun e w' => e = .returned (.int .i64 1) ∧ Ext w w' := by
  have H := Lib.hid h
  rcases h with rfl | ⟨b, rfl, hc⟩
  all_goals
    go_enter Try.func32, Try.ntmps32
    go_wp2_with fail
    refine (do_nobody (H.out.ext (by repeat (first | exact Ext.refl _ | refine Ext.alloc ?_ _))) _ _).mono ?_
    rintro e w' ⟨rfl, hw⟩
    have Hw : Hid (Ext w w') := by
      show Ext w w'
      subst hw; repeat (first | exact Ext.refl _ | refine Ext.alloc ?_ _)
    clear hw
    go_wp2_with fail
    go_ret
    exact ⟨rfl, Hw.out⟩

set_option maxHeartbeats 1000000 in
theorem append_nobody {w : World} {pv : Value} (h : NoDisk w pv) (s : ByteArray) (a : Option Addr) (n c : Nat) :
    Calls Try.prog 9 #[pv, .string s, .slice a n c] w fun e w' => e = .returned (.int .i64 1) ∧ Ext w w' := by
  have H := Lib.hid h
  rcases h with rfl | ⟨b, rfl, hc⟩
  all_goals
    go_enter Try.func9, Try.ntmps9
    go_wp2_with fail
    refine (do_nobody (H.out.ext (by repeat (first | exact Ext.refl _ | refine Ext.alloc ?_ _))) _ _).mono ?_
    rintro e w' ⟨rfl, hw⟩
    have Hw : Hid (Ext w w') := by
      show Ext w w'
      subst hw; repeat (first | exact Ext.refl _ | refine Ext.alloc ?_ _)
    clear hw
    go_wp2_with fail
    go_ret
    exact ⟨rfl, Hw.out⟩

set_option maxHeartbeats 1000000 in
theorem sync_nobody {w : World} {pv : Value} (h : NoDisk w pv) (s : ByteArray) :
    Calls Try.prog 14 #[pv, .string s] w fun e w' => e = .returned (.int .i64 1) ∧ Ext w w' := by
  have H := Lib.hid h
  rcases h with rfl | ⟨b, rfl, hc⟩
  all_goals
    go_enter Try.func14, Try.ntmps14
    go_wp2_with fail
    refine (with_nobody (H.out.ext (by repeat (first | exact Ext.refl _ | refine Ext.alloc ?_ _))) _ _ _ _ _ _).mono ?_
    rintro e w' ⟨rfl, hw⟩
    have Hw : Hid (Ext w w') := by
      show Ext w w'
      refine Ext.trans ?_ hw; repeat (first | exact Ext.refl _ | refine Ext.alloc ?_ _)
    clear hw
    go_wp2_with fail
    go_ret
    exact ⟨rfl, Hw.out⟩

set_option maxHeartbeats 1000000 in
theorem delete_nobody {w : World} {pv : Value} (h : NoDisk w pv) (s : ByteArray) :
    Calls Try.prog 12 #[pv, .string s] w fun e w' => e = .returned (.int .i64 1) ∧ Ext w w' := by
  have H := Lib.hid h
  rcases h with rfl | ⟨b, rfl, hc⟩
  all_goals
    go_enter Try.func12, Try.ntmps12
    go_wp2_with fail
    refine (with_nobody (H.out.ext (by repeat (first | exact Ext.refl _ | refine Ext.alloc ?_ _))) _ _ _ _ _ _).mono ?_
    rintro e w' ⟨rfl, hw⟩
    have Hw : Hid (Ext w w') := by
      show Ext w w'
      refine Ext.trans ?_ hw; repeat (first | exact Ext.refl _ | refine Ext.alloc ?_ _)
    clear hw
    go_wp2_with fail
    go_ret
    exact ⟨rfl, Hw.out⟩

set_option maxHeartbeats 1000000 in
theorem rename_nobody {w : World} {pv : Value} (h : NoDisk w pv) (s r : ByteArray) :
    Calls Try.prog 15 #[pv, .string s, .string r] w fun e w' => e = .returned (.int .i64 1) ∧ Ext w w' := by
  have H := Lib.hid h
  rcases h with rfl | ⟨b, rfl, hc⟩
  all_goals
    go_enter Try.func15, Try.ntmps15
    go_wp2_with fail
    refine (with_nobody (H.out.ext (by repeat (first | exact Ext.refl _ | refine Ext.alloc ?_ _))) _ _ _ _ _ _).mono ?_
    rintro e w' ⟨rfl, hw⟩
    have Hw : Hid (Ext w w') := by
      show Ext w w'
      refine Ext.trans ?_ hw; repeat (first | exact Ext.refl _ | refine Ext.alloc ?_ _)
    clear hw
    go_wp2_with fail
    go_ret
    exact ⟨rfl, Hw.out⟩

end Go.Proofs.Ytahgghhhdnfhhaa
