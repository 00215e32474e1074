/- EngineNobody: the closed facts one by one. -/
import Derived.Test.YtkemfedokjkmlaaGreatDoorRows
import Derived.WalkKit
import Derived.ProofKit
import Derived.JoinedOf
namespace Go.Proofs.YtkemfedokjkmlaaGreatDoor.engineNobody
theorem j10 : (Rows.engineNobodyRow.inPlace == Tryz.prog.inPlace 3) = true := by kernel_rfl
theorem j11 : (Rows.engineNobodyRow.unfollowed == Tryz.prog.unfollowed 3) = true := by kernel_rfl
end Go.Proofs.YtkemfedokjkmlaaGreatDoor.engineNobody
