/-
  DERIVED. GIVEN WITH THE SEED: THE CARDS: each row of YtlmfhjipbjkcbaaGreatDoorRows.lean that lists a variable, with what it lists TIED to the program's text (the seventh form; the later family's looks); each row that meets fmt, with fmt's text TOLD by the authors' own Lean function (tested against real Go, not proved from fmt's source: count such statements apart). THE CARD IS WHAT COUNTS. Prove the row's statement (the work); the ties are given (YtlmfhjipbjkcbaaGreatDoorTie.lean); close each card by the builder's one call (the guide's Derived/Test/ToyasCard.lean, 'card_holds'). Laid BY PROGRAM, IN A SANDBOX (cutbox-door.mjs). By AI agents, Wed Nov 11 2026. No macro, syntax, notation, axiom, sorry.
-/
import Derived.Test.YtlmfhjipbjkcbaaGreatDoorRows
import GoSem.ClaimSeven
namespace Go.Proofs.YtlmfhjipbjkcbaaGreatDoor
namespace Rows

/-- THE TIED CARD OF 'tidemilllaw25.StoreBits'. -/
def storeBitsCard : Claim7 := { stood := { row := storeBitsRow, standIns := [], harness := (true, "0d8c355b68b5f60f38db33090297890094a19778c591dd71cc5f48758d8c09a9"), looks := true }, kinds := [], alts := [], laidByText := true, laidKinds := [.handle], laidTests := true, laidLooks := .later }
def StoreBitsCardSaid : Prop := Claim7.holds Tryz.pinned (.plain (OpenSpec.ofChange storeBitsSpec)) storeBitsCard

/-- THE TIED CARD OF 'tidemilllaw25.StoreCompacts'. -/
def storeCompactsCard : Claim7 := { stood := { row := storeCompactsRow, standIns := [], harness := (true, "0d8c355b68b5f60f38db33090297890094a19778c591dd71cc5f48758d8c09a9"), looks := true }, kinds := [], alts := [], laidByText := true, laidKinds := [.handle], laidTests := true, laidLooks := .later }
def StoreCompactsCardSaid : Prop := Claim7.holds Tryz.pinned (.plain (OpenSpec.ofChange storeCompactsSpec)) storeCompactsCard

/-- THE TIED CARD OF 'tidemilllaw25.StoreCrash'. -/
def storeCrashCard : Claim7 := { stood := { row := storeCrashRow, standIns := [], harness := (true, "0d8c355b68b5f60f38db33090297890094a19778c591dd71cc5f48758d8c09a9"), looks := true }, kinds := [], alts := [], laidByText := true, laidKinds := [.handle], laidTests := true, laidLooks := .later }
def StoreCrashCardSaid : Prop := Claim7.holds Tryz.pinned (.plain (OpenSpec.ofChange storeCrashSpec)) storeCrashCard

/-- THE TIED CARD OF 'tidemilllaw25.StorePlays'. -/
def storePlaysCard : Claim7 := { stood := { row := storePlaysRow, standIns := [], harness := (true, "0d8c355b68b5f60f38db33090297890094a19778c591dd71cc5f48758d8c09a9"), looks := true }, kinds := [], alts := [], laidByText := true, laidKinds := [.handle], laidTests := true, laidLooks := .later }
def StorePlaysCardSaid : Prop := Claim7.holds Tryz.pinned (.plain (OpenSpec.ofChange storePlaysSpec)) storePlaysCard

/-- THE TIED CARD OF 'tidemilllaw25.StoreTiers'. -/
def storeTiersCard : Claim7 := { stood := { row := storeTiersRow, standIns := [], harness := (true, "0d8c355b68b5f60f38db33090297890094a19778c591dd71cc5f48758d8c09a9"), looks := true }, kinds := [], alts := [], laidByText := true, laidKinds := [.handle], laidTests := true, laidLooks := .later }
def StoreTiersCardSaid : Prop := Claim7.holds Tryz.pinned (.plain (OpenSpec.ofChange storeTiersSpec)) storeTiersCard

/-- THE SECOND FORM's CARD OF 'tidemilllaw25.StoreBits'. -/
def storeBitsUptoCard : Claim7 := { stood := { row := storeBitsUptoRow, standIns := [], harness := (true, "0d8c355b68b5f60f38db33090297890094a19778c591dd71cc5f48758d8c09a9"), looks := true }, kinds := [], alts := [], laidByText := true, laidKinds := [.handle], laidTests := true, laidLooks := .later }
def StoreBitsUptoCardSaid : Prop := Claim7.holds Tryz.pinned (.plain (OpenSpec.upto storeBitsSpec)) storeBitsUptoCard

/-- THE SECOND FORM's CARD OF 'tidemilllaw25.StoreCompacts'. -/
def storeCompactsUptoCard : Claim7 := { stood := { row := storeCompactsUptoRow, standIns := [], harness := (true, "0d8c355b68b5f60f38db33090297890094a19778c591dd71cc5f48758d8c09a9"), looks := true }, kinds := [], alts := [], laidByText := true, laidKinds := [.handle], laidTests := true, laidLooks := .later }
def StoreCompactsUptoCardSaid : Prop := Claim7.holds Tryz.pinned (.plain (OpenSpec.upto storeCompactsSpec)) storeCompactsUptoCard

/-- THE SECOND FORM's CARD OF 'tidemilllaw25.StoreCrash'. -/
def storeCrashUptoCard : Claim7 := { stood := { row := storeCrashUptoRow, standIns := [], harness := (true, "0d8c355b68b5f60f38db33090297890094a19778c591dd71cc5f48758d8c09a9"), looks := true }, kinds := [], alts := [], laidByText := true, laidKinds := [.handle], laidTests := true, laidLooks := .later }
def StoreCrashUptoCardSaid : Prop := Claim7.holds Tryz.pinned (.plain (OpenSpec.upto storeCrashSpec)) storeCrashUptoCard

/-- THE SECOND FORM's CARD OF 'tidemilllaw25.StorePlays'. -/
def storePlaysUptoCard : Claim7 := { stood := { row := storePlaysUptoRow, standIns := [], harness := (true, "0d8c355b68b5f60f38db33090297890094a19778c591dd71cc5f48758d8c09a9"), looks := true }, kinds := [], alts := [], laidByText := true, laidKinds := [.handle], laidTests := true, laidLooks := .later }
def StorePlaysUptoCardSaid : Prop := Claim7.holds Tryz.pinned (.plain (OpenSpec.upto storePlaysSpec)) storePlaysUptoCard

/-- THE SECOND FORM's CARD OF 'tidemilllaw25.StoreTiers'. -/
def storeTiersUptoCard : Claim7 := { stood := { row := storeTiersUptoRow, standIns := [], harness := (true, "0d8c355b68b5f60f38db33090297890094a19778c591dd71cc5f48758d8c09a9"), looks := true }, kinds := [], alts := [], laidByText := true, laidKinds := [.handle], laidTests := true, laidLooks := .later }
def StoreTiersUptoCardSaid : Prop := Claim7.holds Tryz.pinned (.plain (OpenSpec.upto storeTiersSpec)) storeTiersUptoCard
end Rows
end Go.Proofs.YtlmfhjipbjkcbaaGreatDoor
