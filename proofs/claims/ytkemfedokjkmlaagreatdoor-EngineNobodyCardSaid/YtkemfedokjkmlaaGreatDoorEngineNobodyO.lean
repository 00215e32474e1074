/- EngineNobody: over the door. -/
import Derived.Test.YtkemfedokjkmlaaGreatDoorEngineNobodyL
import Derived.Test.YtkemfedokjkmlaaGreatDoorEngineF
import Derived.Test.YtkemfedokjkmlaaGreatDoorEngineG
import Derived.Test.YtkemfedokjkmlaaGreatDoorEngineH
import Derived.Test.YtkemfedokjkmlaaGreatDoorEngineI
import Derived.Test.YtkemfedokjkmlaaGreatDoorEngineJ
import Derived.Test.YtkemfedokjkmlaaGreatDoorJoin
namespace Go.Proofs.YtkemfedokjkmlaaGreatDoor.engineNobody
open Go.ChangeShapes Go.WideShapes Go.ChangeAt Go.RowKit
theorem hnamed : Tryz.prog.funcNamed Rows.engineNobodyRow.func = some 3 := by kernel_rfl
set_option maxRecDepth 1000000 in
theorem hjoined : joinedFacts Tryz.prog 3 Tryz.f3 Rows.engineNobodySpec Rows.engineNobodyRow = true :=
  joined_mk j1 j2 j3 j4 j5 j6 j7 j8 j9 j10 j11 j12 j13 j14 j15 j16 j17 j17b j18 j19 j20 j21 j22 j23 j23b j24 j24b j24c j25 j26 j27 j28
theorem hinst : Tryz.f3.isInstance Tryz.prog Rows.engineNobodyRow.origin Rows.engineNobodyRow.targs := of_decide_eq_true (by kernel_rfl)
theorem hwrap : Tryz.f3.isWrapper Tryz.prog Rows.engineNobodyRow.wrapper Rows.engineNobodyRow.mainSum := by unfold Func.isWrapper; first | (rw [if_pos (by decide +kernel)]; kernel_rfl) | (rw [if_neg (by decide +kernel)]; exact ⟨rfl, rfl⟩)
theorem over : Rows.engineNobodyRow.holds Tryz.pinned (OpenSpec.ofChange Rows.engineNobodySpec) :=
  OpenClaim.holds_of_wide 3 Tryz.f3 rfl rfl rfl rfl rfl rfl rfl ⟨rfl, rfl, rfl, rfl, rfl⟩ rfl rfl rfl rfl rfl hnamed Tryz.func3 hjoined hinst hwrap
    (fun os started H enc _ => lifted os started H enc)
end Go.Proofs.YtkemfedokjkmlaaGreatDoor.engineNobody
