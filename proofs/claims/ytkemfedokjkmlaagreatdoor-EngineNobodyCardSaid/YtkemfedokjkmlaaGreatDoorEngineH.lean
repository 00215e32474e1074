/- EngineNobody: the closed facts one by one. -/
import Derived.Test.YtkemfedokjkmlaaGreatDoorRows
import Derived.WalkKit
import Derived.ProofKit
import Derived.JoinedOf
namespace Go.Proofs.YtkemfedokjkmlaaGreatDoor.engineNobody
theorem j12 : (Rows.engineNobodyRow.recurses == Tryz.prog.recurses 3) = true := by kernel_rfl
theorem j13 : (Rows.engineNobodyRow.named == Tryz.prog.varsNamed 3) = true := by kernel_rfl
end Go.Proofs.YtkemfedokjkmlaaGreatDoor.engineNobody
