/-
  DERIVED. GIVEN WITH THE SEED: THE CARDS: each row of YtipbniaehhoaaaaDoorRows.lean that lists a variable, with what it lists TIED to the program's text (the seventh form; the later family's looks); each row that meets fmt, with fmt's text TOLD by the authors' own Lean function (tested against real Go, not proved from fmt's source: count such statements apart). THE CARD IS WHAT COUNTS. Prove the row's statement (the work); the ties are given (YtipbniaehhoaaaaDoorTie.lean); close each card by the builder's one call (the guide's Derived/Test/ToyasCard.lean, 'card_holds'). Laid BY PROGRAM, IN A SANDBOX (cutbox-door.mjs). By AI agents, Wed Nov 11 2026. No macro, syntax, notation, axiom, sorry.
-/
import Derived.Test.YtipbniaehhoaaaaDoorRows
import GoSem.ClaimSeven
namespace Go.Proofs.YtipbniaehhoaaaaDoor
namespace Rows

/-- THE TIED CARD OF 'tidemilllaw28.ReportRows'. -/
def reportRowsCard : Claim7 := { stood := { row := reportRowsRow, standIns := [], harness := (true, "2cf4dd29d3a1aab357196ab2be5c66b88327abea3d320f5bc9883a042230f3a1"), looks := false }, kinds := [], alts := [], laidByText := true, laidKinds := [.data, .data, .data, .data, .pinned], laidTests := true, laidLooks := .later }
def ReportRowsCardSaid : Prop := Claim7.holds Tryd.pinned (.plain (OpenSpec.ofChange reportRowsSpec)) reportRowsCard

/-- THE SECOND FORM's CARD OF 'tidemilllaw28.ReportRows'. -/
def reportRowsUptoCard : Claim7 := { stood := { row := reportRowsUptoRow, standIns := [], harness := (true, "2cf4dd29d3a1aab357196ab2be5c66b88327abea3d320f5bc9883a042230f3a1"), looks := false }, kinds := [], alts := [], laidByText := true, laidKinds := [.data, .data, .data, .data, .pinned], laidTests := true, laidLooks := .later }
def ReportRowsUptoCardSaid : Prop := Claim7.holds Tryd.pinned (.plain (OpenSpec.upto reportRowsSpec)) reportRowsUptoCard
end Rows
end Go.Proofs.YtipbniaehhoaaaaDoor
