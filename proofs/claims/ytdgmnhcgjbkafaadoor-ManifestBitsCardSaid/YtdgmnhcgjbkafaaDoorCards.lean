/-
  DERIVED. GIVEN WITH THE SEED: THE CARDS: each row of YtdgmnhcgjbkafaaDoorRows.lean that lists a variable, with what it lists TIED to the program's text (the seventh form; the later family's looks); each row that meets fmt, with fmt's text TOLD by the authors' own Lean function (tested against real Go, not proved from fmt's source: count such statements apart). THE CARD IS WHAT COUNTS. Prove the row's statement (the work); the ties are given (YtdgmnhcgjbkafaaDoorTie.lean); close each card by the builder's one call (the guide's Derived/Test/ToyasCard.lean, 'card_holds'). Laid BY PROGRAM, IN A SANDBOX (cutbox-door.mjs). By AI agents, Wed Nov 11 2026. No macro, syntax, notation, axiom, sorry.
-/
import Derived.Test.YtdgmnhcgjbkafaaDoorRows
import GoSem.ClaimSeven
namespace Go.Proofs.YtdgmnhcgjbkafaaDoor
namespace Rows

/-- THE TIED CARD OF 'tidemilllaw18.ManifestBits'. -/
def manifestBitsCard : Claim7 := { stood := { row := manifestBitsRow, standIns := [], harness := (true, "19ee980aec52cafd7362646a2fd3583b8c51fde0f07b35d9751cd3b6987b7c2b"), looks := true }, kinds := [], alts := [], laidByText := true, laidKinds := [.handle], laidTests := true, laidLooks := .later }
def ManifestBitsCardSaid : Prop := Claim7.holds Tryd.pinned (.plain (OpenSpec.ofChange manifestBitsSpec)) manifestBitsCard

/-- THE SECOND FORM's CARD OF 'tidemilllaw18.ManifestBits'. -/
def manifestBitsUptoCard : Claim7 := { stood := { row := manifestBitsUptoRow, standIns := [], harness := (true, "19ee980aec52cafd7362646a2fd3583b8c51fde0f07b35d9751cd3b6987b7c2b"), looks := true }, kinds := [], alts := [], laidByText := true, laidKinds := [.handle], laidTests := true, laidLooks := .later }
def ManifestBitsUptoCardSaid : Prop := Claim7.holds Tryd.pinned (.plain (OpenSpec.upto manifestBitsSpec)) manifestBitsUptoCard
end Rows
end Go.Proofs.YtdgmnhcgjbkafaaDoor
