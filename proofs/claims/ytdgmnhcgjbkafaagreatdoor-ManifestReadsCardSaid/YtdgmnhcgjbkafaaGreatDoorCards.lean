/-
  DERIVED. GIVEN WITH THE SEED: THE CARDS: each row of YtdgmnhcgjbkafaaGreatDoorRows.lean that lists a variable, with what it lists TIED to the program's text (the seventh form; the later family's looks); each row that meets fmt, with fmt's text TOLD by the authors' own Lean function (tested against real Go, not proved from fmt's source: count such statements apart). THE CARD IS WHAT COUNTS. Prove the row's statement (the work); the ties are given (YtdgmnhcgjbkafaaGreatDoorTie.lean); close each card by the builder's one call (the guide's Derived/Test/ToyasCard.lean, 'card_holds'). Laid BY PROGRAM, IN A SANDBOX (cutbox-door.mjs). By AI agents, Wed Nov 11 2026. No macro, syntax, notation, axiom, sorry.
-/
import Derived.Test.YtdgmnhcgjbkafaaGreatDoorRows
import GoSem.ClaimSeven
namespace Go.Proofs.YtdgmnhcgjbkafaaGreatDoor
namespace Rows

/-- THE TIED CARD OF 'tidemilllaw18.ManifestReads'. -/
def manifestReadsCard : Claim7 := { stood := { row := manifestReadsRow, standIns := [], harness := (true, "476258e3c4790df93bd044407727667b98a5d5e00c69dd73f495df092b1f5fe2"), looks := true }, kinds := [], alts := [], laidByText := true, laidKinds := [.handle], laidTests := true, laidLooks := .later }
def ManifestReadsCardSaid : Prop := Claim7.holds Tryz.pinned (.plain (OpenSpec.ofChange manifestReadsSpec)) manifestReadsCard

/-- THE SECOND FORM's CARD OF 'tidemilllaw18.ManifestReads'. -/
def manifestReadsUptoCard : Claim7 := { stood := { row := manifestReadsUptoRow, standIns := [], harness := (true, "476258e3c4790df93bd044407727667b98a5d5e00c69dd73f495df092b1f5fe2"), looks := true }, kinds := [], alts := [], laidByText := true, laidKinds := [.handle], laidTests := true, laidLooks := .later }
def ManifestReadsUptoCardSaid : Prop := Claim7.holds Tryz.pinned (.plain (OpenSpec.upto manifestReadsSpec)) manifestReadsUptoCard
end Rows
end Go.Proofs.YtdgmnhcgjbkafaaGreatDoor
