/- tidemilllaw12.texts. -/
import Derived.Test.YtafaagkhgdggbaaDoorNam
import Derived.Test.YtafaagkhgdggbaaDoorPutp
import Derived.BigQuiet
import Derived.Deep.QuietTactic
namespace Go.Proofs.YtafaagkhgdggbaaDoor
open Go.RowKit Go.Sort Go.Lib

theorem texts_ne {a b : List ByteArray} {k : Nat} {x y : ByteArray} (hx : a[k]? = some x) (hy : b[k]? = some y) (h : x ≠ y) : a ≠ b := by
  rintro rfl
  rw [hx] at hy
  cases hy
  exact h rfl

set_option maxHeartbeats 2000000 in
set_option maxRecDepth 100000 in
theorem texts_any (w : World) (a b : Option Addr) (n c m c' : Nat) (la lb : List ByteArray) (ha : Src w 1 (.slice a n c) n (strs la)) (hb : Src w 1 (.slice b m c') m (strs lb)) (hn : n ≤ 8796093022208) :
    Calls Tryd.prog 7 #[.slice a n c, .slice b m c'] w fun e w' => e = .returned (.bool (decide (la = lb))) ∧ Ext w w' := by
  have HA := Lib.hid ha
  have HB := Lib.hid hb
  have LA := Lib.hid (strs_src_len ha)
  have LB := Lib.hid (strs_src_len hb)
  clear ha hb
  by_cases hne : n = m
  · subst hne
    go_enter Tryd.func7, Tryd.ntmps7
    go_wp2_with fail
    go_loopw [5] (fun i wr => ∃ k : Nat, k ≤ n ∧ i = .int .i64 k ∧ Hid (Ext w wr ∧ la.take k = lb.take k)) (fun i _ => n - (RowKit.intOf i).toNat)
    case atStart => exact ⟨0, by omega, rfl, Lib.hid ⟨Ext.refl w, rfl⟩⟩
    case round =>
      obtain ⟨k, hk, rfl, HI⟩ := hrel
      by_cases hlt : k < n
      · obtain ⟨b1, o1, x, rfl, hx, c1⟩ := strs_src (HA.out.ext HI.out.1) hlt
        obtain ⟨b2, o2, y, rfl, hy, c2⟩ := strs_src (HB.out.ext HI.out.1) hlt
        have HX := Lib.hid hx
        have HY := Lib.hid hy
        clear hx hy
        go_wp2_with fail
        by_cases hxy : x = y
        · subst hxy
          have HS : Hid (la.take (k + 1) = lb.take (k + 1)) := Lib.hid (by rw [List.take_add_one, List.take_add_one, HX.out, HY.out, HI.out.2])
          go_quiet (fail)
          go_wp2_with fail
          go_roundw
          case rel => exact ⟨k + 1, by omega, by go_num, Lib.hid ⟨HI.out.1.trans (Ext.drewN _ _), HS.out⟩⟩
          case measure => simp [RowKit.intOf]; omega
        · have HN : Hid (decide (la = lb) = false) := Lib.hid (by simpa using texts_ne HX.out HY.out hxy)
          have hb1 : (x.toList == y.toList) = false := by rw [same_eq]; simpa using hxy
          clear hxy
          go_quiet (fail)
          go_wp2_with fail
          go_ret
          rw [HN.out]
          exact ⟨rfl, HI.out.1.trans (Ext.drewN _ _)⟩
      · have HN : Hid (decide (la = lb) = true) := Lib.hid (by
          have h := HI.out.2
          rw [List.take_of_length_le (by have := LA.out; omega), List.take_of_length_le (by have := LB.out; omega)] at h
          simpa using h)
        go_wp2_with fail
        go_ret
        rw [HN.out]
        exact ⟨rfl, HI.out.1⟩
  · have HN : Hid (decide (la = lb) = false) := Lib.hid (by
      simp only [decide_eq_false_iff_not]
      rintro rfl
      exact hne (by rw [← LA.out, ← LB.out]))
    have hb1 : ((n : Int) == (m : Int)) = false := beq_eq_false_iff_ne.2 (by omega)
    clear hne
    go_enter Tryd.func7, Tryd.ntmps7
    go_wp2_with fail
    go_ret
    rw [HN.out]
    exact ⟨rfl, Ext.refl w⟩
end Go.Proofs.YtafaagkhgdggbaaDoor
