/-
  DERIVED. GIVEN WITH THE SEED: THE CARDS: each row of YtankiidaibpeeaaDoorRows.lean that lists a variable, with what it lists TIED to the program's text (the seventh form; the later family's looks); each row that meets fmt, with fmt's text TOLD by the authors' own Lean function (tested against real Go, not proved from fmt's source: count such statements apart). THE CARD IS WHAT COUNTS. Prove the row's statement (the work); the ties are given (YtankiidaibpeeaaDoorTie.lean); close each card by the builder's one call (the guide's Derived/Test/ToyasCard.lean, 'card_holds'). Laid BY PROGRAM, IN A SANDBOX (cutbox-door.mjs). By AI agents, Wed Nov 11 2026. No macro, syntax, notation, axiom, sorry.
-/
import Derived.Test.YtankiidaibpeeaaDoorRows
import GoSem.ClaimSeven
namespace Go.Proofs.YtankiidaibpeeaaDoor
namespace Rows

/-- THE TIED CARD OF 'tidemilllaw11.WalNobody'. -/
def walNobodyCard : Claim7 := { stood := { row := walNobodyRow, standIns := [], harness := (true, "fd1c16a7136839967ac9c99ffe06f4d58a6432f0c8e9199aeb7fda957dff4a73"), looks := true }, kinds := [], alts := [], laidByText := true, laidKinds := [.handle], laidTests := true, laidLooks := .later }
def WalNobodyCardSaid : Prop := Claim7.holds Tryd.pinned (.plain (OpenSpec.ofChange walNobodySpec)) walNobodyCard

/-- THE SECOND FORM's CARD OF 'tidemilllaw11.WalNobody'. -/
def walNobodyUptoCard : Claim7 := { stood := { row := walNobodyUptoRow, standIns := [], harness := (true, "fd1c16a7136839967ac9c99ffe06f4d58a6432f0c8e9199aeb7fda957dff4a73"), looks := true }, kinds := [], alts := [], laidByText := true, laidKinds := [.handle], laidTests := true, laidLooks := .later }
def WalNobodyUptoCardSaid : Prop := Claim7.holds Tryd.pinned (.plain (OpenSpec.upto walNobodySpec)) walNobodyUptoCard
end Rows
end Go.Proofs.YtankiidaibpeeaaDoor
