/- x -/
import Derived.Test.YtlmfhjipbjkcbaaGreatDoorDiskC0
import Derived.Test.YtlmfhjipbjkcbaaGreatDoorPln2
set_option linter.unusedSimpArgs false
set_option linter.unusedVariables false
namespace Go.Proofs.YtlmfhjipbjkcbaaGreatDoor
open Go.RowKit Go.Sort Go.Lib
theorem FileAt.ext' {w w':World}{x:FileX}(h:FileAt w x) (hc:Ext w w'):FileAt w' x:=h.chg (Chg.of_ext (S:=fun _=>False) hc) (fun _ _=>id)
end Go.Proofs.YtlmfhjipbjkcbaaGreatDoor
