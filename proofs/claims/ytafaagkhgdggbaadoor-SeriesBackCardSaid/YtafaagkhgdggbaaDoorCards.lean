/-
  DERIVED. GIVEN WITH THE SEED: THE CARDS: each row of YtafaagkhgdggbaaDoorRows.lean that lists a variable, with what it lists TIED to the program's text (the seventh form; the later family's looks); each row that meets fmt, with fmt's text TOLD by the authors' own Lean function (tested against real Go, not proved from fmt's source: count such statements apart). THE CARD IS WHAT COUNTS. Prove the row's statement (the work); the ties are given (YtafaagkhgdggbaaDoorTie.lean); close each card by the builder's one call (the guide's Derived/Test/ToyasCard.lean, 'card_holds'). Laid BY PROGRAM, IN A SANDBOX (cutbox-door.mjs). By AI agents, Wed Nov 11 2026. No macro, syntax, notation, axiom, sorry.
-/
import Derived.Test.YtafaagkhgdggbaaDoorRows
import GoSem.ClaimSeven
namespace Go.Proofs.YtafaagkhgdggbaaDoor
namespace Rows

/-- THE TIED CARD OF 'tidemilllaw12.SeriesReads'. -/
def seriesReadsCard : Claim7 := { stood := { row := seriesReadsRow, standIns := [], harness := (true, "1d88dd08696417133f1a26a2b3d7a8ae05e3d50d44d4ee9682ff755c06ad7d52"), looks := true }, kinds := [], alts := [], laidByText := true, laidKinds := [.handle], laidTests := true, laidLooks := .later }
def SeriesReadsCardSaid : Prop := Claim7.holds Tryd.pinned (.plain (OpenSpec.ofChange seriesReadsSpec)) seriesReadsCard

/-- THE TIED CARD OF 'tidemilllaw12.SeriesBack'. -/
def seriesBackCard : Claim7 := { stood := { row := seriesBackRow, standIns := [], harness := (true, "1d88dd08696417133f1a26a2b3d7a8ae05e3d50d44d4ee9682ff755c06ad7d52"), looks := true }, kinds := [], alts := [], laidByText := true, laidKinds := [.handle], laidTests := true, laidLooks := .later }
def SeriesBackCardSaid : Prop := Claim7.holds Tryd.pinned (.plain (OpenSpec.ofChange seriesBackSpec)) seriesBackCard

/-- THE SECOND FORM's CARD OF 'tidemilllaw12.SeriesReads'. -/
def seriesReadsUptoCard : Claim7 := { stood := { row := seriesReadsUptoRow, standIns := [], harness := (true, "1d88dd08696417133f1a26a2b3d7a8ae05e3d50d44d4ee9682ff755c06ad7d52"), looks := true }, kinds := [], alts := [], laidByText := true, laidKinds := [.handle], laidTests := true, laidLooks := .later }
def SeriesReadsUptoCardSaid : Prop := Claim7.holds Tryd.pinned (.plain (OpenSpec.upto seriesReadsSpec)) seriesReadsUptoCard

/-- THE SECOND FORM's CARD OF 'tidemilllaw12.SeriesBack'. -/
def seriesBackUptoCard : Claim7 := { stood := { row := seriesBackUptoRow, standIns := [], harness := (true, "1d88dd08696417133f1a26a2b3d7a8ae05e3d50d44d4ee9682ff755c06ad7d52"), looks := true }, kinds := [], alts := [], laidByText := true, laidKinds := [.handle], laidTests := true, laidLooks := .later }
def SeriesBackUptoCardSaid : Prop := Claim7.holds Tryd.pinned (.plain (OpenSpec.upto seriesBackSpec)) seriesBackUptoCard
end Rows
end Go.Proofs.YtafaagkhgdggbaaDoor
