/- window.from, window.Of. -/
import Derived.Test.YthnpchfcafaiiaaWop
import Derived.Test.YthnpchfcafaiiaaPlan
namespace Go.Proofs.Ythnpchfcafaiiaa
open Go.RowKit Go.Lib Go.Sort

set_option maxHeartbeats 4000000 in
set_option maxRecDepth 100000 in
theorem from_any (n : Nat) (a wd st off : Int) (w : World) (hn : n ≤ 70000) (hst : 1 ≤ st) (hst2 : st ≤ 1099511627776) (hwd : 1 ≤ wd) (hwd2 : wd ≤ 1099511627776) (ha1 : -2305843009213693952 ≤ a) (ha2 : a ≤ 2305843009213693952) :
    Calls Try.prog 51 #[.agg #[.int .i64 wd, .int .i64 st, .int .i64 off], .int .i64 a, .int .i64 (n : Int)] w fun e w' => ∃ v, e = .returned v ∧ MadeTo w 72 2 v n (sps (spansL n a wd st)) w' := by
  go_enter Try.func51, Try.ntmps51
  go_wp2_with fail
  refine (list_any n a wd st off (w.heap.size + 1) w.heap.size _ (by simp) (by
    have h0 := heap_alloc_new w (.cells #[.int .i64 wd, .int .i64 st, .int .i64 off] 24 (0, 0))
    exact (((Ext.refl (w.alloc (.cells #[.int .i64 wd, .int .i64 st, .int .i64 off] 24 (0, 0)))).alloc _).block (block_lt h0)).trans h0) hn hst hst2 hwd hwd2 ha1 ha2).mono ?_
  rintro e w2 ⟨v, rfl, hm⟩
  have HM := Lib.hid hm
  obtain ⟨va, vc, rfl⟩ := hm.row.shape
  clear hm
  go_wp2_with fail
  go_ret
  exact ⟨_, rfl, ⟨HM.out.row, fun g hg => by have h1 := HM.out.own g hg; simp at h1; omega, (((Ext.refl w).alloc _).alloc _).trans HM.out.ext⟩⟩
end Go.Proofs.Ythnpchfcafaiiaa
