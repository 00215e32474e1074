/-
  DERIVED. GIVEN WITH THE SEED: THE CARDS: each row of YtfablbhkmddnbaaDoorRows.lean that lists a variable, with what it lists TIED to the program's text (the seventh form; the later family's looks); each row that meets fmt, with fmt's text TOLD by the authors' own Lean function (tested against real Go, not proved from fmt's source: count such statements apart). THE CARD IS WHAT COUNTS. Prove the row's statement (the work); the ties are given (YtfablbhkmddnbaaDoorTie.lean); close each card by the builder's one call (the guide's Derived/Test/ToyasCard.lean, 'card_holds'). Laid BY PROGRAM, IN A SANDBOX (cutbox-door.mjs). By AI agents, Wed Nov 11 2026. No macro, syntax, notation, axiom, sorry.
-/
import Derived.Test.YtfablbhkmddnbaaDoorRows
import GoSem.ClaimSeven
namespace Go.Proofs.YtfablbhkmddnbaaDoor
namespace Rows

/-- THE TIED CARD OF 'tidemilllaw11.WalBits'. -/
def walBitsCard : Claim7 := { stood := { row := walBitsRow, standIns := [], harness := (true, "9f8dddb204d250112a9afe12b771fac7bf731c312ace5998f00a7c76691f2569"), looks := true }, kinds := [], alts := [], laidByText := true, laidKinds := [.handle], laidTests := true, laidLooks := .later }
def WalBitsCardSaid : Prop := Claim7.holds Tryd.pinned (.plain (OpenSpec.ofChange walBitsSpec)) walBitsCard

/-- THE TIED CARD OF 'tidemilllaw11.WalTorn'. -/
def walTornCard : Claim7 := { stood := { row := walTornRow, standIns := [], harness := (true, "9f8dddb204d250112a9afe12b771fac7bf731c312ace5998f00a7c76691f2569"), looks := true }, kinds := [], alts := [], laidByText := true, laidKinds := [.handle], laidTests := true, laidLooks := .later }
def WalTornCardSaid : Prop := Claim7.holds Tryd.pinned (.plain (OpenSpec.ofChange walTornSpec)) walTornCard

/-- THE TIED CARD OF 'tidemilllaw11.WalDrops'. -/
def walDropsCard : Claim7 := { stood := { row := walDropsRow, standIns := [], harness := (true, "9f8dddb204d250112a9afe12b771fac7bf731c312ace5998f00a7c76691f2569"), looks := true }, kinds := [], alts := [], laidByText := true, laidKinds := [.handle], laidTests := true, laidLooks := .later }
def WalDropsCardSaid : Prop := Claim7.holds Tryd.pinned (.plain (OpenSpec.ofChange walDropsSpec)) walDropsCard

/-- THE TIED CARD OF 'tidemilllaw11.WalLasts'. -/
def walLastsCard : Claim7 := { stood := { row := walLastsRow, standIns := [], harness := (true, "9f8dddb204d250112a9afe12b771fac7bf731c312ace5998f00a7c76691f2569"), looks := true }, kinds := [], alts := [], laidByText := true, laidKinds := [.handle], laidTests := true, laidLooks := .later }
def WalLastsCardSaid : Prop := Claim7.holds Tryd.pinned (.plain (OpenSpec.ofChange walLastsSpec)) walLastsCard

/-- THE SECOND FORM's CARD OF 'tidemilllaw11.WalBits'. -/
def walBitsUptoCard : Claim7 := { stood := { row := walBitsUptoRow, standIns := [], harness := (true, "9f8dddb204d250112a9afe12b771fac7bf731c312ace5998f00a7c76691f2569"), looks := true }, kinds := [], alts := [], laidByText := true, laidKinds := [.handle], laidTests := true, laidLooks := .later }
def WalBitsUptoCardSaid : Prop := Claim7.holds Tryd.pinned (.plain (OpenSpec.upto walBitsSpec)) walBitsUptoCard

/-- THE SECOND FORM's CARD OF 'tidemilllaw11.WalTorn'. -/
def walTornUptoCard : Claim7 := { stood := { row := walTornUptoRow, standIns := [], harness := (true, "9f8dddb204d250112a9afe12b771fac7bf731c312ace5998f00a7c76691f2569"), looks := true }, kinds := [], alts := [], laidByText := true, laidKinds := [.handle], laidTests := true, laidLooks := .later }
def WalTornUptoCardSaid : Prop := Claim7.holds Tryd.pinned (.plain (OpenSpec.upto walTornSpec)) walTornUptoCard

/-- THE SECOND FORM's CARD OF 'tidemilllaw11.WalDrops'. -/
def walDropsUptoCard : Claim7 := { stood := { row := walDropsUptoRow, standIns := [], harness := (true, "9f8dddb204d250112a9afe12b771fac7bf731c312ace5998f00a7c76691f2569"), looks := true }, kinds := [], alts := [], laidByText := true, laidKinds := [.handle], laidTests := true, laidLooks := .later }
def WalDropsUptoCardSaid : Prop := Claim7.holds Tryd.pinned (.plain (OpenSpec.upto walDropsSpec)) walDropsUptoCard

/-- THE SECOND FORM's CARD OF 'tidemilllaw11.WalLasts'. -/
def walLastsUptoCard : Claim7 := { stood := { row := walLastsUptoRow, standIns := [], harness := (true, "9f8dddb204d250112a9afe12b771fac7bf731c312ace5998f00a7c76691f2569"), looks := true }, kinds := [], alts := [], laidByText := true, laidKinds := [.handle], laidTests := true, laidLooks := .later }
def WalLastsUptoCardSaid : Prop := Claim7.holds Tryd.pinned (.plain (OpenSpec.upto walLastsSpec)) walLastsUptoCard
end Rows
end Go.Proofs.YtfablbhkmddnbaaDoor
