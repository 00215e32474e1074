/-
  No cell of these rows narrows 'for every input' (looked for: loops, veiled, ifaces, maps, wideKeys, modest, calm, conditions, laid).
  DERIVED. THE GIVEN ROWS OF THIS SEAT. 2 by the template 'for every input the law returns true; each argument reads behind the call as it read before'; 0 by the template 'total and deterministic' (their statements: YtfhoilccgekpmaaTotals.lean).
  GIVEN WITH THE SEED: the statements are not yours to turn. If you find one false, say at which input.
  Laid BY PROGRAM, IN A SANDBOX (cutbox-rows.mjs): the forced cells as the released guide's own fill.sh prints them over the translation 138222432e2b352b… (all of the seat's roots in one cut). By AI agents, Wed Nov 11 2026. No macro, syntax, notation, axiom, sorry.
-/
import Derived.Test.YtfhoilccgekpmaaChecked
import GoSem.Claim
import GoSem.ClaimJoined
import GoSem.ClaimMapViews
import Derived.JoinedTies
import Derived.KernelRfl
namespace Go.Proofs.Ytfhoilccgekpmaa
/- THE CELL 'sum', in the pinned program and in every row, IS THE sha256 OF THE DUMP (.gsa) THAT YtfhoilccgekpmaaProg.lean LOADS. Nothing in Lean hashes anything: it is a label: what it is worth is what the hold of that sum in a sandbox is worth. -/
noncomputable def Try.pinned : Pinned := { name := "ytfhoilccgekpmaa", sum := "138222432e2b352b98e85b591d65e32d2946a9a3d3538f59f0650327720b8bfc", checked := Try.checked }
namespace Rows
def none {H : Type} : Left H := { results := [], args := [] }

/-- 'tidemilllaw12.SeriesMany': WHATEVER THE INPUT: true; the input reads as it did. -/
def seriesManySpec : ChangeSpec := { name := "seriesMany", fn := fun _ => fun
  | [d] => { results := [.lit (.bool true)], args := [d] }
  | _ => none }
def seriesManyRow : OpenClaim := { program := "ytfhoilccgekpmaa", sum := "138222432e2b352b98e85b591d65e32d2946a9a3d3538f59f0650327720b8bfc", func := "tidemill/tidemilllaw12.SeriesMany", spec := "seriesMany", inPlace := ["internal/bytealg.IndexByteString"], unfollowed := true, recurses := true, apart := false }
def SeriesManySaid : Prop := seriesManyRow.holds Try.pinned (OpenSpec.ofChange seriesManySpec)

/-- ITS FALSE NEIGHBOUR: 'it returns false'. Refute it at one input. -/
def seriesManyWrong : ChangeSpec := { name := "seriesMany", fn := fun _ => fun
  | [d] => { results := [.lit (.bool false)], args := [d] }
  | _ => none }
def SeriesManyWrongFalsely : Prop := seriesManyRow.holds Try.pinned (OpenSpec.ofChange seriesManyWrong)

/-- 'tidemilllaw19.QueryBare': WHATEVER THE INPUT: true; the input reads as it did. -/
def queryBareSpec : ChangeSpec := { name := "queryBare", fn := fun _ => fun
  | [d1, d2] => { results := [.lit (.bool true)], args := [d1, d2] }
  | _ => none }
def queryBareRow : OpenClaim := { program := "ytfhoilccgekpmaa", sum := "138222432e2b352b98e85b591d65e32d2946a9a3d3538f59f0650327720b8bfc", func := "tidemill/tidemilllaw19.QueryBare", spec := "queryBare", inPlace := ["internal/bytealg.IndexByteString"], apart := false }
def QueryBareSaid : Prop := queryBareRow.holds Try.pinned (OpenSpec.ofChange queryBareSpec)

/-- ITS FALSE NEIGHBOUR: 'it returns false'. Refute it at one input. -/
def queryBareWrong : ChangeSpec := { name := "queryBare", fn := fun _ => fun
  | [d1, d2] => { results := [.lit (.bool false)], args := [d1, d2] }
  | _ => none }
def QueryBareWrongFalsely : Prop := queryBareRow.holds Try.pinned (OpenSpec.ofChange queryBareWrong)

/- THE SECOND FORM. 'bulk': how many values and letters a reading holds, each counted each time it is reached (what is shared counts as often as it is met; a slice's spare places count too). A statement '..UptoSaid' is the law's where the arguments, and the package variables that the reading takes, are together of bulk at most 1048576: NARROWER than '..Said'. Prove '..Said' where nothing that the law and all that it calls make is longer than what came in: it says more and counts as full. Else prove '..UptoSaid'. A law counts once. -/
mutual
def uptoBulk {H : Type} : DataW H → Nat
  | .lit (.string bytes) => bytes.length + 1
  | .lit _ => 1
  | .nil => 1
  | .ptr d => uptoBulk d + 1
  | .slice elems spare => uptoBulkAll elems + uptoBulkAll spare + 1
  | .agg parts => uptoBulkAll parts + 1
  | .iface _ d => uptoBulk d + 1
  | .map entries => uptoBulkEntries entries + 1
  | .held _ => 1
def uptoBulkAll {H : Type} : List (DataW H) → Nat
  | [] => 0
  | d :: r => uptoBulk d + uptoBulkAll r
def uptoBulkEntries {H : Type} : List (Lit × DataW H) → Nat
  | [] => 0
  | x :: r => uptoBulkEntry x + uptoBulkEntries r
def uptoBulkEntry {H : Type} : Lit × DataW H → Nat
  | (.string bytes, d) => bytes.length + uptoBulk d + 1
  | (_, d) => uptoBulk d + 1
 end
def uptoSmall : (H : Type) → List (DataW H) → Bool := fun _ ds => decide (uptoBulkAll ds ≤ 1048576)
def OpenSpec.upto (s : _root_.Go.ChangeSpec) : _root_.Go.OpenSpec := { _root_.Go.OpenSpec.ofChange s with cond := some uptoSmall }

/-- 'tidemilllaw12.SeriesMany', WHERE WHAT IT READS IS OF BULK AT MOST 1048576: true; the input reads as it did. -/
def seriesManyUptoRow : OpenClaim := { program := "ytfhoilccgekpmaa", sum := "138222432e2b352b98e85b591d65e32d2946a9a3d3538f59f0650327720b8bfc", func := "tidemill/tidemilllaw12.SeriesMany", spec := "seriesMany", inPlace := ["internal/bytealg.IndexByteString"], unfollowed := true, recurses := true, apart := false, narrowed := true }
def SeriesManyUptoSaid : Prop := seriesManyUptoRow.holds Try.pinned (OpenSpec.upto seriesManySpec)

/-- 'tidemilllaw19.QueryBare', WHERE WHAT IT READS IS OF BULK AT MOST 1048576: true; the input reads as it did. -/
def queryBareUptoRow : OpenClaim := { program := "ytfhoilccgekpmaa", sum := "138222432e2b352b98e85b591d65e32d2946a9a3d3538f59f0650327720b8bfc", func := "tidemill/tidemilllaw19.QueryBare", spec := "queryBare", inPlace := ["internal/bytealg.IndexByteString"], apart := false, narrowed := true }
def QueryBareUptoSaid : Prop := queryBareUptoRow.holds Try.pinned (OpenSpec.upto queryBareSpec)

end Rows
end Go.Proofs.Ytfhoilccgekpmaa
