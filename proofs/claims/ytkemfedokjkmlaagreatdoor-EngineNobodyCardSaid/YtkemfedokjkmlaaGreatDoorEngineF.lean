/- EngineNobody: the closed facts one by one. -/
import Derived.Test.YtkemfedokjkmlaaGreatDoorRows
import Derived.WalkKit
import Derived.ProofKit
import Derived.JoinedOf
namespace Go.Proofs.YtkemfedokjkmlaaGreatDoor.engineNobody
theorem j1 : Rows.engineNobodyRow.wf (OpenSpec.ofChange Rows.engineNobodySpec) = true := by kernel_rfl
theorem j2 : laidOutB Tryz.prog = true := by kernel_rfl
theorem j3 : mapsRowed Tryz.prog = true := by kernel_rfl
theorem j4 : Tryz.f3.params.all (Tryz.prog.readableRec ·) = true := by kernel_rfl
theorem j5 : namedTie Tryz.prog Rows.engineNobodyRow.named Rows.engineNobodySpec.vars = true := by kernel_rfl
end Go.Proofs.YtkemfedokjkmlaaGreatDoor.engineNobody
