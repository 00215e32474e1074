/- window: last, first. -/
import Derived.Test.YthnpchfcafaiiaaWrd
import Derived.Test.YthnpchfcafaiiaaRow
import Derived.Deep.QuietTactic
namespace Go.Proofs.Ythnpchfcafaiiaa
open Go.RowKit Go.Lib Go.Sort

/-- The From of the last window that has a time, of the first one. -/
def lastF (st off t : Int) : Int := t - (t - off) % st
def firstF (wd st off t : Int) : Int := lastF st off (t - wd) + st

abbrev kV (wd st off : Int) : Value := .agg #[.int .i64 wd, .int .i64 st, .int .i64 off]

set_option maxHeartbeats 1000000 in
theorem last_any (wd st off t : Int) (w : World) (h1 : 1 ≤ st) (h2 : st ≤ 1099511627776) (h3 : 0 ≤ off) (h4 : off < st) (t1 : -2305843009213693952 ≤ t) (t2 : t ≤ 2305843009213693952) :
    Calls Try.prog 50 #[.agg #[.int .i64 wd, .int .i64 st, .int .i64 off], .int .i64 t] w fun e w' => e = .returned (.int .i64 (lastF st off t)) ∧ Ext w w' := by
  have hm0 := Int.emod_nonneg (t - off) (show st ≠ 0 by omega)
  have hm1 := Int.emod_lt_of_pos (t - off) (show 0 < st by omega)
  go_enter Try.func50, Try.ntmps50
  go_wp2_with fail
  refine (mod_any (t - off) st _ h1 h2 (by omega) (by omega)).mono ?_
  rintro e w1 ⟨rfl, rfl⟩
  obtain ⟨m, hm⟩ : ∃ m, m = (t - off) % st := ⟨_, rfl⟩
  rw [← hm] at hm0 hm1 ⊢
  have HM := Lib.hid hm
  clear hm
  go_wp2_with fail
  go_ret
  exact ⟨by unfold lastF; rw [← HM.out]; rfl, (Ext.refl _).alloc _⟩

set_option maxHeartbeats 2000000 in
set_option maxRecDepth 100000 in
theorem first_any (wd st off t : Int) (w : World) (h0 : 1 ≤ wd) (h0' : wd ≤ 1099511627776) (h1 : 1 ≤ st) (h2 : st ≤ 1099511627776) (h3 : 0 ≤ off) (h4 : off < st) (t1 : -1152921504606846976 ≤ t) (t2 : t ≤ 1152921504606846976) :
    Calls Try.prog 49 #[.agg #[.int .i64 wd, .int .i64 st, .int .i64 off], .int .i64 t] w fun e w' => e = .returned (.int .i64 (firstF wd st off t)) ∧ Ext w w' := by
  have hm0 := Int.emod_nonneg (t - wd - off) (show st ≠ 0 by omega)
  have hm1 := Int.emod_lt_of_pos (t - wd - off) (show 0 < st by omega)
  obtain ⟨L, hL, hL1, hL2⟩ : ∃ L, L = lastF st off (t - wd) ∧ -2305843009213693952 ≤ L ∧ L ≤ 2305843009213693952 := ⟨_, rfl, by unfold lastF; omega, by unfold lastF; omega⟩
  have HL := Lib.hid hL
  clear hL hm0 hm1
  go_enter Try.func49, Try.ntmps49
  go_wp2_with fail
  generalize hW : World.alloc _ _ = W
  have HXW : Hid (Ext w W) := Lib.hid (by subst hW; exact (Ext.refl w).alloc _)
  have HB : Hid (W.heap[w.heap.size]? = some (.cells #[.int .i64 wd, .int .i64 st, .int .i64 off] 24 (0, 0))) := Lib.hid (by subst hW; exact heap_alloc_new w _)
  clear hW
  have r0 := cell_regrown (show W.cell? ⟨w.heap.size, 0, none⟩ = some (.int .i64 wd) by have := cell_of_block HB.out 0; simpa using this)
  have r1 := cell_regrown (show W.cell? ⟨w.heap.size, 1, none⟩ = some (.int .i64 st) by have := cell_of_block HB.out 1; simpa using this)
  have r2 := cell_regrown (show W.cell? ⟨w.heap.size, 2, none⟩ = some (.int .i64 off) by have := cell_of_block HB.out 2; simpa using this)
  have HC : Hid (∀ (d : Nat) (os : Array Obj), Calls Try.prog 50 #[.agg #[.int .i64 wd, .int .i64 st, .int .i64 off], .int .i64 (t - wd)] (grow (redrawn W d) os) fun e w'' => e = .returned (.int .i64 L) ∧ ∃ p : Regrown, w'' = grow (redrawn W p.d) p.os) := Lib.hid (fun d os => Calls.grown_of (by
    rw [HL.out]
    exact last_any wd st off (t - wd) _ h1 h2 h3 h4 (by omega) (by omega)))
  refine wp_region_quiet_below (by kernel_rfl) (by kernel_rfl) ?_
  repeat (go_big_quiet_step (first | (go_at_call 50; exact HC.out _ _)))
  refine wpQuiet_nil ?_
  intro _ hw'
  obtain ⟨pr, rfl⟩ := hw'
  generalize hW4 : grow _ _ = W4
  have HX4 : Hid (Ext W W4) := Lib.hid (by subst hW4; exact Ext.regrown _ _ _)
  clear hW4 r0 r1 r2
  go_wp2_with fail
  go_ret
  exact ⟨by unfold firstF; rw [← HL.out]; rfl, HXW.out.trans HX4.out⟩
end Go.Proofs.Ythnpchfcafaiiaa
