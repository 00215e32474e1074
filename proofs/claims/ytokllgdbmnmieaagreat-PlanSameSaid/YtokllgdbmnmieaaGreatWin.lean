/- window.Valid. -/
import Derived.Test.YtokllgdbmnmieaaGreatGpp
import Derived.Test.YtokllgdbmnmieaaGreatProg
import Derived.WalkKit
import Derived.Below
import Derived.Lib.QuietBelow
import Derived.BigQuiet
namespace Go.Proofs.YtokllgdbmnmieaaGreat
open Go.RowKit Go.Lib Go.Sort

def windowB (wd st off : Int) : Bool := decide (1 ≤ wd) && decide (wd ≤ 1099511627776) && decide (1 ≤ st) && decide (st ≤ wd) && decide (wd ≤ 64 * st) && decide (0 ≤ off) && decide (off < st)

set_option maxHeartbeats 2000000 in
theorem windowValid_any (wd st off : Int) (w : World) :
    Calls Tryz.prog 29 #[.agg #[.int .i64 wd, .int .i64 st, .int .i64 off]] w fun e w' => e = .returned (.bool (windowB wd st off)) ∧ Ext w w' := by
  have Hf : Hid (windowB wd st off = (decide (1 ≤ wd) && decide (wd ≤ 1099511627776) && decide (1 ≤ st) && decide (st ≤ wd) && decide (wd ≤ 64 * st) && decide (0 ≤ off) && decide (off < st))) := rfl
  go_enter Tryz.func29, Tryz.ntmps29
  go_wp2
  all_goals
    go_ret
    exact ⟨by rw [Hf.out]; first | (simp [*]; done) | (simp [*]; omega), (Ext.refl _).alloc _⟩

end Go.Proofs.YtokllgdbmnmieaaGreat
