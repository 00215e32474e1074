/- EngineNobody: the closed facts one by one. -/
import Derived.Test.YtkemfedokjkmlaaGreatDoorRows
import Derived.WalkKit
import Derived.ProofKit
import Derived.JoinedOf
namespace Go.Proofs.YtkemfedokjkmlaaGreatDoor.engineNobody
theorem j22 : (Rows.engineNobodyRow.plainKeys == Tryz.prog.plainKeys) = true := by kernel_rfl
theorem j23 : Rows.engineNobodyRow.shortTexts.isNone = true := by kernel_rfl
theorem j23b : Tryz.prog.stopsHeard = true := by kernel_rfl
theorem j24 : Tryz.prog.mayEnter = true := by kernel_rfl
theorem j24b : (Rows.engineNobodyRow.lifted == Tryz.prog.liftsFinal) = true := by kernel_rfl
theorem j24c : (Tryz.prog.make == some Rows.engineNobodyRow.make) = true := by kernel_rfl
theorem j25 : (Rows.engineNobodyRow.kinds == (if Rows.engineNobodyRow.domain.isEmpty then [] else Tryz.f3.params.toList.map fun t => match Tryz.prog.underlying t with | some (.int k) => some k | _ => none)) = true := by kernel_rfl
theorem j26 : (Rows.engineNobodyRow.pinned == Rows.engineNobodyRow.pinnedBy) = true := by kernel_rfl
theorem j27 : (Rows.engineNobodyRow.veiled == (Tryz.f3.params.toList ++ Rows.engineNobodySpec.plain.varTypes Tryz.prog ++ Tryz.f3.resultTypes.toList).any (Tryz.prog.veiledRec ·)) = true := by kernel_rfl
theorem j28 : Rows.engineNobodyRow.veiledFits Tryz.prog Tryz.f3.params.toList (Tryz.f3.params.toList ++ Rows.engineNobodySpec.plain.varTypes Tryz.prog ++ Tryz.f3.resultTypes.toList) = true := by kernel_rfl
end Go.Proofs.YtkemfedokjkmlaaGreatDoor.engineNobody
