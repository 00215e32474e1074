/-
  DERIVED. GIVEN WITH THE SEED: THE CARDS: each row of YtgdgjnecgelalaaGreatDoorRows.lean that lists a variable, with what it lists TIED to the program's text (the seventh form; the later family's looks); each row that meets fmt, with fmt's text TOLD by the authors' own Lean function (tested against real Go, not proved from fmt's source: count such statements apart). THE CARD IS WHAT COUNTS. Prove the row's statement (the work); the ties are given (YtgdgjnecgelalaaGreatDoorTie.lean); close each card by the builder's one call (the guide's Derived/Test/ToyasCard.lean, 'card_holds'). Laid BY PROGRAM, IN A SANDBOX (cutbox-door.mjs). By AI agents, Wed Nov 11 2026. No macro, syntax, notation, axiom, sorry.
-/
import Derived.Test.YtgdgjnecgelalaaGreatDoorRows
import GoSem.ClaimSeven
namespace Go.Proofs.YtgdgjnecgelalaaGreatDoor
namespace Rows

/-- THE TIED CARD OF 'tidemilllaw18.ManifestSaves'. -/
def manifestSavesCard : Claim7 := { stood := { row := manifestSavesRow, standIns := [], harness := (true, "bf38722b8c3c0e76a071500b4066c83364b57ae0d6ec658e3c80dd3e64a0d598"), looks := true }, kinds := [], alts := [], laidByText := true, laidKinds := [.handle], laidTests := true, laidLooks := .later }
def ManifestSavesCardSaid : Prop := Claim7.holds Tryz.pinned (.plain (OpenSpec.ofChange manifestSavesSpec)) manifestSavesCard

/-- THE TIED CARD OF 'tidemilllaw18.ManifestLast'. -/
def manifestLastCard : Claim7 := { stood := { row := manifestLastRow, standIns := [], harness := (true, "bf38722b8c3c0e76a071500b4066c83364b57ae0d6ec658e3c80dd3e64a0d598"), looks := true }, kinds := [], alts := [], laidByText := true, laidKinds := [.handle], laidTests := true, laidLooks := .later }
def ManifestLastCardSaid : Prop := Claim7.holds Tryz.pinned (.plain (OpenSpec.ofChange manifestLastSpec)) manifestLastCard

/-- THE TIED CARD OF 'tidemilllaw18.ManifestCrash'. -/
def manifestCrashCard : Claim7 := { stood := { row := manifestCrashRow, standIns := [], harness := (true, "bf38722b8c3c0e76a071500b4066c83364b57ae0d6ec658e3c80dd3e64a0d598"), looks := true }, kinds := [], alts := [], laidByText := true, laidKinds := [.handle], laidTests := true, laidLooks := .later }
def ManifestCrashCardSaid : Prop := Claim7.holds Tryz.pinned (.plain (OpenSpec.ofChange manifestCrashSpec)) manifestCrashCard

/-- THE SECOND FORM's CARD OF 'tidemilllaw18.ManifestSaves'. -/
def manifestSavesUptoCard : Claim7 := { stood := { row := manifestSavesUptoRow, standIns := [], harness := (true, "bf38722b8c3c0e76a071500b4066c83364b57ae0d6ec658e3c80dd3e64a0d598"), looks := true }, kinds := [], alts := [], laidByText := true, laidKinds := [.handle], laidTests := true, laidLooks := .later }
def ManifestSavesUptoCardSaid : Prop := Claim7.holds Tryz.pinned (.plain (OpenSpec.upto manifestSavesSpec)) manifestSavesUptoCard

/-- THE SECOND FORM's CARD OF 'tidemilllaw18.ManifestLast'. -/
def manifestLastUptoCard : Claim7 := { stood := { row := manifestLastUptoRow, standIns := [], harness := (true, "bf38722b8c3c0e76a071500b4066c83364b57ae0d6ec658e3c80dd3e64a0d598"), looks := true }, kinds := [], alts := [], laidByText := true, laidKinds := [.handle], laidTests := true, laidLooks := .later }
def ManifestLastUptoCardSaid : Prop := Claim7.holds Tryz.pinned (.plain (OpenSpec.upto manifestLastSpec)) manifestLastUptoCard

/-- THE SECOND FORM's CARD OF 'tidemilllaw18.ManifestCrash'. -/
def manifestCrashUptoCard : Claim7 := { stood := { row := manifestCrashUptoRow, standIns := [], harness := (true, "bf38722b8c3c0e76a071500b4066c83364b57ae0d6ec658e3c80dd3e64a0d598"), looks := true }, kinds := [], alts := [], laidByText := true, laidKinds := [.handle], laidTests := true, laidLooks := .later }
def ManifestCrashUptoCardSaid : Prop := Claim7.holds Tryz.pinned (.plain (OpenSpec.upto manifestCrashSpec)) manifestCrashUptoCard
end Rows
end Go.Proofs.YtgdgjnecgelalaaGreatDoor
