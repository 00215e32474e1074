/- The closure by which buckets are sorted. -/
import Derived.Test.YthnpchfcafaiiaaBkt
import Derived.Test.YthnpchfcafaiiaaSok
namespace Go.Proofs.Ythnpchfcafaiiaa
open Go.RowKit Go.Lib Go.Sort

instance : Inhabited Bk := ⟨⟨0, 0, Ag.zero⟩⟩
theorem alloc2_grow (w : World) (a b : Obj) : (w.alloc a).alloc b = grow (w.drewN 0) (#[a] ++ #[b]) := by
  rw [alloc_eq_grow, alloc_eq_grow, grow_grow]
  rfl
def cmpB (x y : Bk) : Int := cmpI x.lo y.lo

set_option maxHeartbeats 2000000 in
set_option maxRecDepth 100000 in
theorem bcmp_any (x y : Bk) (w : World) : Calls Try.prog 34 #[.agg (bkc x).toArray, .agg (bkc y).toArray] w fun e w' => e = .returned (.int .i64 (cmpB x y)) ∧ ∃ q os', w' = grow (w.drewN q) os' := by
  obtain ⟨xl, xh, xa⟩ := x
  obtain ⟨yl, yh, ya⟩ := y
  unfold cmpB bkc
  simp only
  go_enter Try.func34, Try.ntmps34
  go_wp2_with fail
  refine (compare_int xl yl _).mono ?_
  rintro e w1 ⟨rfl, rfl⟩
  go_wp2_with fail
  go_ret
  exact ⟨rfl, 0, _, alloc2_grow w _ _⟩

theorem ltOf_cmpB (x y : Bk) : ltOf cmpB x y = decide (x.lo < y.lo) := by
  unfold ltOf cmpB cmpI
  split
  · simp; omega
  · split
    · simp; omega
    · simp; omega
theorem cmpB_swo : SWO (ltOf cmpB) := by
  refine ⟨fun x => ?_, fun x y z h1 h2 => ?_, fun x y z h1 h2 => ?_⟩
  · rw [ltOf_cmpB]; simp
  · rw [ltOf_cmpB] at *
    simp only [decide_eq_true_eq] at *
    omega
  · rw [ltOf_cmpB] at *
    simp only [decide_eq_false_iff_not] at *
    omega
theorem bcmp_lays (w : World) (blk off size : Nat) : CmpLays Try.prog 34 #[] bkc 13 cmpB blk off size w := by
  intro m os dk _ x y
  exact bcmp_any x y _
end Go.Proofs.Ythnpchfcafaiiaa
