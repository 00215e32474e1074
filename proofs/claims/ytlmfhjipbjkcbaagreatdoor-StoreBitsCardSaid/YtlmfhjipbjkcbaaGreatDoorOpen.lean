/- x -/
import Derived.Test.YtlmfhjipbjkcbaaGreatDoorFlm
import Derived.ProofKit
set_option linter.unusedSimpArgs false
set_option linter.unusedVariables false
namespace Go.Proofs.YtlmfhjipbjkcbaaGreatDoor
open Go.RowKit Go.Sort
def ints (zs:List Int):List Value:=zs.map (Value.int .i64)
end Go.Proofs.YtlmfhjipbjkcbaaGreatDoor
