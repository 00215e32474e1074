/-
  No cell of these rows narrows 'for every input' (looked for: loops, veiled, ifaces, maps, wideKeys, modest, calm, conditions, laid).
  DERIVED. THE GIVEN ROWS OF THIS SEAT. 3 by the template 'for every input the law returns true; each argument reads behind the call as it read before'; 0 by the template 'total and deterministic' (their statements: YteojffhkdfdmgaaTotals.lean).
  GIVEN WITH THE SEED: the statements are not yours to turn. If you find one false, say at which input.
  Laid BY PROGRAM, IN A SANDBOX (cutbox-rows.mjs): the forced cells as the released guide's own fill.sh prints them over the translation eaac6e26bf4e86c4… (all of the seat's roots in one cut). By AI agents, Wed Nov 11 2026. No macro, syntax, notation, axiom, sorry.
-/
import Derived.Test.YteojffhkdfdmgaaChecked
import GoSem.Claim
import GoSem.ClaimJoined
import GoSem.ClaimMapViews
import Derived.JoinedTies
import Derived.KernelRfl
namespace Go.Proofs.Yteojffhkdfdmgaa
/- THE CELL 'sum', in the pinned program and in every row, IS THE sha256 OF THE DUMP (.gsa) THAT YteojffhkdfdmgaaProg.lean LOADS. Nothing in Lean hashes anything: it is a label: what it is worth is what the hold of that sum in a sandbox is worth. -/
noncomputable def Try.pinned : Pinned := { name := "yteojffhkdfdmgaa", sum := "eaac6e26bf4e86c494994582452001e095795648d64c672970ddc58c4230e019", checked := Try.checked }
namespace Rows
def none {H : Type} : Left H := { results := [], args := [] }

/-- 'tidemilllaw12.SeriesSorts': WHATEVER THE INPUT: true; the input reads as it did. -/
def seriesSortsSpec : ChangeSpec := { name := "seriesSorts", fn := fun _ => fun
  | [d] => { results := [.lit (.bool true)], args := [d] }
  | _ => none }
def seriesSortsRow : OpenClaim := { program := "yteojffhkdfdmgaa", sum := "eaac6e26bf4e86c494994582452001e095795648d64c672970ddc58c4230e019", func := "tidemill/tidemilllaw12.SeriesSorts", spec := "seriesSorts", inPlace := ["internal/bytealg.IndexByteString"], recurses := true, apart := false }
def SeriesSortsSaid : Prop := seriesSortsRow.holds Try.pinned (OpenSpec.ofChange seriesSortsSpec)

/-- ITS FALSE NEIGHBOUR: 'it returns false'. Refute it at one input. -/
def seriesSortsWrong : ChangeSpec := { name := "seriesSorts", fn := fun _ => fun
  | [d] => { results := [.lit (.bool false)], args := [d] }
  | _ => none }
def SeriesSortsWrongFalsely : Prop := seriesSortsRow.holds Try.pinned (OpenSpec.ofChange seriesSortsWrong)

/-- 'tidemilllaw12.SeriesPlays': WHATEVER THE INPUT: true; the input reads as it did. -/
def seriesPlaysSpec : ChangeSpec := { name := "seriesPlays", fn := fun _ => fun
  | [d1, d2] => { results := [.lit (.bool true)], args := [d1, d2] }
  | _ => none }
def seriesPlaysRow : OpenClaim := { program := "yteojffhkdfdmgaa", sum := "eaac6e26bf4e86c494994582452001e095795648d64c672970ddc58c4230e019", func := "tidemill/tidemilllaw12.SeriesPlays", spec := "seriesPlays", inPlace := ["internal/bytealg.IndexByteString"], recurses := true, apart := false }
def SeriesPlaysSaid : Prop := seriesPlaysRow.holds Try.pinned (OpenSpec.ofChange seriesPlaysSpec)

/-- ITS FALSE NEIGHBOUR: 'it returns false'. Refute it at one input. -/
def seriesPlaysWrong : ChangeSpec := { name := "seriesPlays", fn := fun _ => fun
  | [d1, d2] => { results := [.lit (.bool false)], args := [d1, d2] }
  | _ => none }
def SeriesPlaysWrongFalsely : Prop := seriesPlaysRow.holds Try.pinned (OpenSpec.ofChange seriesPlaysWrong)

/-- 'tidemilllaw12.SeriesNobody': WHATEVER THE INPUT: true; the input reads as it did. -/
def seriesNobodySpec : ChangeSpec := { name := "seriesNobody", fn := fun _ => fun
  | [d] => { results := [.lit (.bool true)], args := [d] }
  | _ => none }
def seriesNobodyRow : OpenClaim := { program := "yteojffhkdfdmgaa", sum := "eaac6e26bf4e86c494994582452001e095795648d64c672970ddc58c4230e019", func := "tidemill/tidemilllaw12.SeriesNobody", spec := "seriesNobody", inPlace := ["internal/bytealg.IndexByteString"], recurses := true, apart := false }
def SeriesNobodySaid : Prop := seriesNobodyRow.holds Try.pinned (OpenSpec.ofChange seriesNobodySpec)

/-- ITS FALSE NEIGHBOUR: 'it returns false'. Refute it at one input. -/
def seriesNobodyWrong : ChangeSpec := { name := "seriesNobody", fn := fun _ => fun
  | [d] => { results := [.lit (.bool false)], args := [d] }
  | _ => none }
def SeriesNobodyWrongFalsely : Prop := seriesNobodyRow.holds Try.pinned (OpenSpec.ofChange seriesNobodyWrong)

/- THE SECOND FORM. 'bulk': how many values and letters a reading holds, each counted each time it is reached (what is shared counts as often as it is met; a slice's spare places count too). A statement '..UptoSaid' is the law's where the arguments, and the package variables that the reading takes, are together of bulk at most 1048576: NARROWER than '..Said'. Prove '..Said' where nothing that the law and all that it calls make is longer than what came in: it says more and counts as full. Else prove '..UptoSaid'. A law counts once. -/
mutual
def uptoBulk {H : Type} : DataW H → Nat
  | .lit (.string bytes) => bytes.length + 1
  | .lit _ => 1
  | .nil => 1
  | .ptr d => uptoBulk d + 1
  | .slice elems spare => uptoBulkAll elems + uptoBulkAll spare + 1
  | .agg parts => uptoBulkAll parts + 1
  | .iface _ d => uptoBulk d + 1
  | .map entries => uptoBulkEntries entries + 1
  | .held _ => 1
def uptoBulkAll {H : Type} : List (DataW H) → Nat
  | [] => 0
  | d :: r => uptoBulk d + uptoBulkAll r
def uptoBulkEntries {H : Type} : List (Lit × DataW H) → Nat
  | [] => 0
  | x :: r => uptoBulkEntry x + uptoBulkEntries r
def uptoBulkEntry {H : Type} : Lit × DataW H → Nat
  | (.string bytes, d) => bytes.length + uptoBulk d + 1
  | (_, d) => uptoBulk d + 1
 end
def uptoSmall : (H : Type) → List (DataW H) → Bool := fun _ ds => decide (uptoBulkAll ds ≤ 1048576)
def OpenSpec.upto (s : _root_.Go.ChangeSpec) : _root_.Go.OpenSpec := { _root_.Go.OpenSpec.ofChange s with cond := some uptoSmall }

/-- 'tidemilllaw12.SeriesSorts', WHERE WHAT IT READS IS OF BULK AT MOST 1048576: true; the input reads as it did. -/
def seriesSortsUptoRow : OpenClaim := { program := "yteojffhkdfdmgaa", sum := "eaac6e26bf4e86c494994582452001e095795648d64c672970ddc58c4230e019", func := "tidemill/tidemilllaw12.SeriesSorts", spec := "seriesSorts", inPlace := ["internal/bytealg.IndexByteString"], recurses := true, apart := false, narrowed := true }
def SeriesSortsUptoSaid : Prop := seriesSortsUptoRow.holds Try.pinned (OpenSpec.upto seriesSortsSpec)

/-- 'tidemilllaw12.SeriesPlays', WHERE WHAT IT READS IS OF BULK AT MOST 1048576: true; the input reads as it did. -/
def seriesPlaysUptoRow : OpenClaim := { program := "yteojffhkdfdmgaa", sum := "eaac6e26bf4e86c494994582452001e095795648d64c672970ddc58c4230e019", func := "tidemill/tidemilllaw12.SeriesPlays", spec := "seriesPlays", inPlace := ["internal/bytealg.IndexByteString"], recurses := true, apart := false, narrowed := true }
def SeriesPlaysUptoSaid : Prop := seriesPlaysUptoRow.holds Try.pinned (OpenSpec.upto seriesPlaysSpec)

/-- 'tidemilllaw12.SeriesNobody', WHERE WHAT IT READS IS OF BULK AT MOST 1048576: true; the input reads as it did. -/
def seriesNobodyUptoRow : OpenClaim := { program := "yteojffhkdfdmgaa", sum := "eaac6e26bf4e86c494994582452001e095795648d64c672970ddc58c4230e019", func := "tidemill/tidemilllaw12.SeriesNobody", spec := "seriesNobody", inPlace := ["internal/bytealg.IndexByteString"], recurses := true, apart := false, narrowed := true }
def SeriesNobodyUptoSaid : Prop := seriesNobodyUptoRow.holds Try.pinned (OpenSpec.upto seriesNobodySpec)

end Rows
end Go.Proofs.Yteojffhkdfdmgaa
