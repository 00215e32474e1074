/- Water marks: which are right (water's and the document's). -/
import Derived.Test.YtdgmnhcgjbkafaaGreatDoorWtr
namespace Go.Proofs.YtdgmnhcgjbkafaaGreatDoor
open Go.RowKit Go.Sort Go.Lib

def tmB (z : Int) : Bool := decide (-1152921504606846976 ≤ z) && decide (z ≤ 1152921504606846976)
def mkR (m : Mk) : Bool := decide (0 ≤ m.g) && tmB m.g && tmB m.t && (m.s || decide (m.t = 0))

set_option maxHeartbeats 2000000 in
theorem waterTime_any (z : Int) (w : World) :
    Calls Tryz.prog 75 #[.int .i64 z] w fun e w' => e = .returned (.bool (tmB z)) ∧ w = w' := by
  by_cases h0 : -1152921504606846976 ≤ z
  · by_cases h1 : z ≤ 1152921504606846976
    · have HF : Hid (tmB z = true) := Lib.hid (by simp [tmB, h0, h1])
      go_enter Tryz.func75, Tryz.ntmps75
      go_wp2_with fail
      go_ret
      rw [HF.out]
      exact ⟨rfl, rfl⟩
    · have HF : Hid (tmB z = false) := Lib.hid (by simp [tmB, h1])
      go_enter Tryz.func75, Tryz.ntmps75
      go_wp2_with fail
      go_ret
      rw [HF.out]
      exact ⟨rfl, rfl⟩
  · have HF : Hid (tmB z = false) := Lib.hid (by simp [tmB, h0])
    go_enter Tryz.func75, Tryz.ntmps75
    go_wp2_with fail
    go_ret
    rw [HF.out]
    exact ⟨rfl, rfl⟩
set_option maxHeartbeats 2000000 in
theorem ref17time_any (z : Int) (w : World) :
    Calls Tryz.prog 65 #[.int .i64 z] w fun e w' => e = .returned (.bool (tmB z)) ∧ w = w' := by
  by_cases h0 : -1152921504606846976 ≤ z
  · by_cases h1 : z ≤ 1152921504606846976
    · have HF : Hid (tmB z = true) := Lib.hid (by simp [tmB, h0, h1])
      go_enter Tryz.func65, Tryz.ntmps65
      go_wp2_with fail
      go_ret
      rw [HF.out]
      exact ⟨rfl, rfl⟩
    · have HF : Hid (tmB z = false) := Lib.hid (by simp [tmB, h1])
      go_enter Tryz.func65, Tryz.ntmps65
      go_wp2_with fail
      go_ret
      rw [HF.out]
      exact ⟨rfl, rfl⟩
  · have HF : Hid (tmB z = false) := Lib.hid (by simp [tmB, h0])
    go_enter Tryz.func65, Tryz.ntmps65
    go_wp2_with fail
    go_ret
    rw [HF.out]
    exact ⟨rfl, rfl⟩

set_option maxHeartbeats 8000000 in
set_option maxRecDepth 100000 in
theorem markRight_any (m : Mk) (w : World) :
    Calls Tryz.prog 61 #[m.val] w fun e w' => e = .returned (.bool (mkR m)) ∧ Ext w w' := by
  obtain ⟨s, t, g⟩ := m
  have HF : Hid (mkR ⟨s, t, g⟩ = (decide (0 ≤ g) && tmB g && tmB t && (s || decide (t = 0)))) := Lib.hid rfl
  have HB : Hid (0 ≤ g → decide (g ≤ 1152921504606846976) = tmB g) := Lib.hid (fun h => by simp [tmB]; omega)
  generalize mkR ⟨s, t, g⟩ = R at *
  have H1 := Lib.hid (fun w => waterTime_any g w)
  have H2 := Lib.hid (fun w => waterTime_any t w)
  generalize tmB g = bg at *
  generalize tmB t = bt at *
  by_cases h0 : 0 ≤ g
  · have hbg := HB.out h0
    clear HB
    cases bg
    · have hR : Hid (R = false) := Lib.hid (by rw [HF.out]; simp)
      clear HF
      clear hbg
      go_enter Tryz.func61, Tryz.ntmps61
      go_wp2_with (go_at_call 75; refine (H1.out _).mono ?_; rintro e w' ⟨rfl, rfl⟩)
      go_ret
      rw [hR.out]
      exact ⟨rfl, ((Ext.refl _).alloc _).alloc _⟩
    · clear hbg
      cases bt
      · have hR : Hid (R = false) := Lib.hid (by rw [HF.out]; simp)
        clear HF
        go_enter Tryz.func61, Tryz.ntmps61
        go_wp2_with fail
        refine (H1.out _).mono ?_
        rintro e w' ⟨rfl, rfl⟩
        go_wp2_with fail
        refine (H2.out _).mono ?_
        rintro e w' ⟨rfl, rfl⟩
        go_wp2_with fail
        go_ret
        rw [hR.out]
        exact ⟨rfl, ((Ext.refl _).alloc _).alloc _⟩
      · cases s
        · by_cases ht : t = 0
          · subst ht
            have hR : Hid (R = true) := Lib.hid (by rw [HF.out]; simp [h0])
            clear HF
            go_enter Tryz.func61, Tryz.ntmps61
            go_wp2_with fail
            refine (H1.out _).mono ?_
            rintro e w' ⟨rfl, rfl⟩
            go_wp2_with fail
            refine (H2.out _).mono ?_
            rintro e w' ⟨rfl, rfl⟩
            go_wp2_with fail
            go_ret
            rw [hR.out]
            exact ⟨rfl, ((Ext.refl _).alloc _).alloc _⟩
          · have hR : Hid (R = false) := Lib.hid (by rw [HF.out]; simp [ht])
            have hte : (t == 0) = false := by simp [ht]
            clear HF ht
            go_enter Tryz.func61, Tryz.ntmps61
            go_wp2_with fail
            refine (H1.out _).mono ?_
            rintro e w' ⟨rfl, rfl⟩
            go_wp2_with fail
            refine (H2.out _).mono ?_
            rintro e w' ⟨rfl, rfl⟩
            go_wp2_with fail
            go_ret
            rw [hR.out]
            exact ⟨rfl, ((Ext.refl _).alloc _).alloc _⟩
        · have hR : Hid (R = true) := Lib.hid (by rw [HF.out]; simp [h0])
          clear HF
          go_enter Tryz.func61, Tryz.ntmps61
          go_wp2_with fail
          refine (H1.out _).mono ?_
          rintro e w' ⟨rfl, rfl⟩
          go_wp2_with fail
          refine (H2.out _).mono ?_
          rintro e w' ⟨rfl, rfl⟩
          go_wp2_with fail
          go_ret
          rw [hR.out]
          exact ⟨rfl, ((Ext.refl _).alloc _).alloc _⟩
  · have hR : Hid (R = false) := Lib.hid (by rw [HF.out]; simp [h0])
    clear HF HB
    go_enter Tryz.func61, Tryz.ntmps61
    go_wp2_with fail
    go_ret
    rw [hR.out]
    exact ⟨rfl, ((Ext.refl _).alloc _).alloc _⟩
set_option maxHeartbeats 8000000 in
set_option maxRecDepth 100000 in
theorem ref17Right_any (m : Mk) (w : World) :
    Calls Tryz.prog 42 #[m.val] w fun e w' => e = .returned (.bool (mkR m)) ∧ Ext w w' := by
  obtain ⟨s, t, g⟩ := m
  have HF : Hid (mkR ⟨s, t, g⟩ = (decide (0 ≤ g) && tmB g && tmB t && (s || decide (t = 0)))) := Lib.hid rfl
  have HB : Hid (0 ≤ g → decide (g ≤ 1152921504606846976) = tmB g) := Lib.hid (fun h => by simp [tmB]; omega)
  generalize mkR ⟨s, t, g⟩ = R at *
  have H1 := Lib.hid (fun w => ref17time_any g w)
  have H2 := Lib.hid (fun w => ref17time_any t w)
  generalize tmB g = bg at *
  generalize tmB t = bt at *
  by_cases h0 : 0 ≤ g
  · have hbg := HB.out h0
    clear HB
    cases bg
    · have hR : Hid (R = false) := Lib.hid (by rw [HF.out]; simp)
      clear HF
      have hg := of_decide_eq_false hbg
      clear hbg H1
      go_enter Tryz.func42, Tryz.ntmps42
      go_wp2_with fail
      go_ret
      rw [hR.out]
      exact ⟨rfl, (Ext.refl _).alloc _⟩
    · have hg := of_decide_eq_true hbg
      clear hbg H1
      cases bt
      · have hR : Hid (R = false) := Lib.hid (by rw [HF.out]; simp)
        clear HF
        go_enter Tryz.func42, Tryz.ntmps42
        go_wp2_with fail
        refine (H2.out _).mono ?_
        rintro e w' ⟨rfl, rfl⟩
        go_wp2_with fail
        go_ret
        rw [hR.out]
        exact ⟨rfl, (Ext.refl _).alloc _⟩
      · cases s
        · by_cases ht : t = 0
          · subst ht
            have hR : Hid (R = true) := Lib.hid (by rw [HF.out]; simp [h0])
            clear HF
            go_enter Tryz.func42, Tryz.ntmps42
            go_wp2_with fail
            refine (H2.out _).mono ?_
            rintro e w' ⟨rfl, rfl⟩
            go_wp2_with fail
            go_ret
            rw [hR.out]
            exact ⟨rfl, (Ext.refl _).alloc _⟩
          · have hR : Hid (R = false) := Lib.hid (by rw [HF.out]; simp [ht])
            have hte : (t == 0) = false := by simp [ht]
            clear HF ht
            go_enter Tryz.func42, Tryz.ntmps42
            go_wp2_with fail
            refine (H2.out _).mono ?_
            rintro e w' ⟨rfl, rfl⟩
            go_wp2_with fail
            go_ret
            rw [hR.out]
            exact ⟨rfl, (Ext.refl _).alloc _⟩
        · have hR : Hid (R = true) := Lib.hid (by rw [HF.out]; simp [h0])
          clear HF
          go_enter Tryz.func42, Tryz.ntmps42
          go_wp2_with fail
          refine (H2.out _).mono ?_
          rintro e w' ⟨rfl, rfl⟩
          go_wp2_with fail
          go_ret
          rw [hR.out]
          exact ⟨rfl, (Ext.refl _).alloc _⟩
  · have hR : Hid (R = false) := Lib.hid (by rw [HF.out]; simp [h0])
    clear HF HB
    go_enter Tryz.func42, Tryz.ntmps42
    go_wp2_with fail
    go_ret
    rw [hR.out]
    exact ⟨rfl, (Ext.refl _).alloc _⟩
end Go.Proofs.YtdgmnhcgjbkafaaGreatDoor
