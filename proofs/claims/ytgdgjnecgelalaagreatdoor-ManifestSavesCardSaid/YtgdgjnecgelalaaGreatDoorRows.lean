/-
  NARROWER THAN 'FOR EVERY INPUT', by the rows' own cells (each row's printed sentence says how): ManifestSaves: laid · ManifestLast: laid · ManifestCrash: laid.
  DERIVED. THE GIVEN ROWS OF THIS SEAT. 3 by the template 'for every input the law returns true; each argument reads behind the call as it read before'; 0 by the template 'total and deterministic' (their statements: YtgdgjnecgelalaaGreatDoorTotals.lean).
  GIVEN WITH THE SEED: the statements are not yours to turn. If you find one false, say at which input.
  Laid BY PROGRAM, IN A SANDBOX (cutbox-rows.mjs): the forced cells as the released guide's own fill.sh prints them over the translation b2e276c72ff01be6… (all of the seat's roots in one cut). By AI agents, Wed Nov 11 2026. No macro, syntax, notation, axiom, sorry.
-/
import Derived.Test.YtgdgjnecgelalaaGreatDoorChecked
import GoSem.Claim
import GoSem.ClaimJoined
import GoSem.ClaimMapViews
import Derived.JoinedTies
import Derived.KernelRfl
namespace Go.Proofs.YtgdgjnecgelalaaGreatDoor
/- THE CELL 'sum', in the pinned program and in every row, IS THE sha256 OF THE DUMP (.gsa) THAT YtgdgjnecgelalaaGreatDoorProg.lean LOADS. Nothing in Lean hashes anything: it is a label: what it is worth is what the hold of that sum in a sandbox is worth. -/
noncomputable def Tryz.pinned : Pinned := { name := "ytgdgjnecgelalaagreatdoor", sum := "b2e276c72ff01be663d49c0dd80a02b2433fdf551e009581220fbe21150e4dca", checked := Tryz.checked }
namespace Rows
def none {H : Type} : Left H := { results := [], args := [] }

/- WHAT THE LISTED PACKAGE-LEVEL VARIABLES READ AS WHEN THE CALL BEGINS. Each datum BY PROGRAM (the guide's laid-datum.mjs) off the statement by which the dump's own 'gosem.cut.vars' lays the variable. In a bare row this is a premise. The card (YtgdgjnecgelalaaGreatDoorCards.lean) ties it to the program's text. -/
def laid_errors_errorType {H : Type} : DataW H := .iface "internal/reflectlite.rtype" (.agg [.ptr (.lit (.string [101, 114, 114, 111, 114]))])

/-- 'tidemilllaw18.ManifestSaves': WHATEVER THE INPUT: true; the input reads as it did. -/
def manifestSavesSpec : ChangeSpec := { name := "manifestSaves", fn := fun _ => fun
  | [d1, d2, d3] => { results := [.lit (.bool true)], args := [d1, d2, d3] }
  | _ => none }
def manifestSavesRow : OpenClaim := { program := "ytgdgjnecgelalaagreatdoor", sum := "b2e276c72ff01be663d49c0dd80a02b2433fdf551e009581220fbe21150e4dca", func := "tidemill/tidemilllaw18.ManifestSaves", spec := "manifestSaves", inPlace := ["internal/reflectlite.TypeOf", "internal/reflectlite.ValueOf", "(internal/reflectlite.Value).Type", "(internal/reflectlite.Value).IsNil", "(internal/reflectlite.Value).Elem", "(internal/reflectlite.Value).Set"], unfollowed := true, recurses := true, named := ["errors.errorType"], apart := false, laid := [("errors.errorType", laid_errors_errorType)] }
def ManifestSavesSaid : Prop := manifestSavesRow.holds Tryz.pinned (OpenSpec.ofChange manifestSavesSpec)

/-- ITS FALSE NEIGHBOUR: 'it returns false'. Refute it at one input. -/
def manifestSavesWrong : ChangeSpec := { name := "manifestSaves", fn := fun _ => fun
  | [d1, d2, d3] => { results := [.lit (.bool false)], args := [d1, d2, d3] }
  | _ => none }
def ManifestSavesWrongFalsely : Prop := manifestSavesRow.holds Tryz.pinned (OpenSpec.ofChange manifestSavesWrong)

/-- 'tidemilllaw18.ManifestLast': WHATEVER THE INPUT: true; the input reads as it did. -/
def manifestLastSpec : ChangeSpec := { name := "manifestLast", fn := fun _ => fun
  | [d] => { results := [.lit (.bool true)], args := [d] }
  | _ => none }
def manifestLastRow : OpenClaim := { program := "ytgdgjnecgelalaagreatdoor", sum := "b2e276c72ff01be663d49c0dd80a02b2433fdf551e009581220fbe21150e4dca", func := "tidemill/tidemilllaw18.ManifestLast", spec := "manifestLast", inPlace := ["internal/reflectlite.TypeOf", "internal/reflectlite.ValueOf", "(internal/reflectlite.Value).Type", "(internal/reflectlite.Value).IsNil", "(internal/reflectlite.Value).Elem", "(internal/reflectlite.Value).Set"], unfollowed := true, recurses := true, named := ["errors.errorType"], apart := false, laid := [("errors.errorType", laid_errors_errorType)] }
def ManifestLastSaid : Prop := manifestLastRow.holds Tryz.pinned (OpenSpec.ofChange manifestLastSpec)

/-- ITS FALSE NEIGHBOUR: 'it returns false'. Refute it at one input. -/
def manifestLastWrong : ChangeSpec := { name := "manifestLast", fn := fun _ => fun
  | [d] => { results := [.lit (.bool false)], args := [d] }
  | _ => none }
def ManifestLastWrongFalsely : Prop := manifestLastRow.holds Tryz.pinned (OpenSpec.ofChange manifestLastWrong)

/-- 'tidemilllaw18.ManifestCrash': WHATEVER THE INPUT: true; the input reads as it did. -/
def manifestCrashSpec : ChangeSpec := { name := "manifestCrash", fn := fun _ => fun
  | [d1, d2] => { results := [.lit (.bool true)], args := [d1, d2] }
  | _ => none }
def manifestCrashRow : OpenClaim := { program := "ytgdgjnecgelalaagreatdoor", sum := "b2e276c72ff01be663d49c0dd80a02b2433fdf551e009581220fbe21150e4dca", func := "tidemill/tidemilllaw18.ManifestCrash", spec := "manifestCrash", inPlace := ["internal/reflectlite.TypeOf", "internal/reflectlite.ValueOf", "(internal/reflectlite.Value).Type", "(internal/reflectlite.Value).IsNil", "(internal/reflectlite.Value).Elem", "(internal/reflectlite.Value).Set"], unfollowed := true, recurses := true, named := ["errors.errorType"], apart := false, laid := [("errors.errorType", laid_errors_errorType)] }
def ManifestCrashSaid : Prop := manifestCrashRow.holds Tryz.pinned (OpenSpec.ofChange manifestCrashSpec)

/-- ITS FALSE NEIGHBOUR: 'it returns false'. Refute it at one input. -/
def manifestCrashWrong : ChangeSpec := { name := "manifestCrash", fn := fun _ => fun
  | [d1, d2] => { results := [.lit (.bool false)], args := [d1, d2] }
  | _ => none }
def ManifestCrashWrongFalsely : Prop := manifestCrashRow.holds Tryz.pinned (OpenSpec.ofChange manifestCrashWrong)

/- THE SECOND FORM. 'bulk': how many values and letters a reading holds, each counted each time it is reached (what is shared counts as often as it is met; a slice's spare places count too). A statement '..UptoSaid' is the law's where the arguments, and the package variables that the reading takes, are together of bulk at most 1048576: NARROWER than '..Said'. Prove '..Said' where nothing that the law and all that it calls make is longer than what came in: it says more and counts as full. Else prove '..UptoSaid'. A law counts once. -/
mutual
def uptoBulk {H : Type} : DataW H → Nat
  | .lit (.string bytes) => bytes.length + 1
  | .lit _ => 1
  | .nil => 1
  | .ptr d => uptoBulk d + 1
  | .slice elems spare => uptoBulkAll elems + uptoBulkAll spare + 1
  | .agg parts => uptoBulkAll parts + 1
  | .iface _ d => uptoBulk d + 1
  | .map entries => uptoBulkEntries entries + 1
  | .held _ => 1
def uptoBulkAll {H : Type} : List (DataW H) → Nat
  | [] => 0
  | d :: r => uptoBulk d + uptoBulkAll r
def uptoBulkEntries {H : Type} : List (Lit × DataW H) → Nat
  | [] => 0
  | x :: r => uptoBulkEntry x + uptoBulkEntries r
def uptoBulkEntry {H : Type} : Lit × DataW H → Nat
  | (.string bytes, d) => bytes.length + uptoBulk d + 1
  | (_, d) => uptoBulk d + 1
 end
def uptoSmall : (H : Type) → List (DataW H) → Bool := fun _ ds => decide (uptoBulkAll ds ≤ 1048576)
def OpenSpec.upto (s : _root_.Go.ChangeSpec) : _root_.Go.OpenSpec := { _root_.Go.OpenSpec.ofChange s with cond := some uptoSmall }

/-- 'tidemilllaw18.ManifestSaves', WHERE WHAT IT READS IS OF BULK AT MOST 1048576: true; the input reads as it did. -/
def manifestSavesUptoRow : OpenClaim := { program := "ytgdgjnecgelalaagreatdoor", sum := "b2e276c72ff01be663d49c0dd80a02b2433fdf551e009581220fbe21150e4dca", func := "tidemill/tidemilllaw18.ManifestSaves", spec := "manifestSaves", inPlace := ["internal/reflectlite.TypeOf", "internal/reflectlite.ValueOf", "(internal/reflectlite.Value).Type", "(internal/reflectlite.Value).IsNil", "(internal/reflectlite.Value).Elem", "(internal/reflectlite.Value).Set"], unfollowed := true, recurses := true, named := ["errors.errorType"], apart := false, laid := [("errors.errorType", laid_errors_errorType)], narrowed := true }
def ManifestSavesUptoSaid : Prop := manifestSavesUptoRow.holds Tryz.pinned (OpenSpec.upto manifestSavesSpec)

/-- 'tidemilllaw18.ManifestLast', WHERE WHAT IT READS IS OF BULK AT MOST 1048576: true; the input reads as it did. -/
def manifestLastUptoRow : OpenClaim := { program := "ytgdgjnecgelalaagreatdoor", sum := "b2e276c72ff01be663d49c0dd80a02b2433fdf551e009581220fbe21150e4dca", func := "tidemill/tidemilllaw18.ManifestLast", spec := "manifestLast", inPlace := ["internal/reflectlite.TypeOf", "internal/reflectlite.ValueOf", "(internal/reflectlite.Value).Type", "(internal/reflectlite.Value).IsNil", "(internal/reflectlite.Value).Elem", "(internal/reflectlite.Value).Set"], unfollowed := true, recurses := true, named := ["errors.errorType"], apart := false, laid := [("errors.errorType", laid_errors_errorType)], narrowed := true }
def ManifestLastUptoSaid : Prop := manifestLastUptoRow.holds Tryz.pinned (OpenSpec.upto manifestLastSpec)

/-- 'tidemilllaw18.ManifestCrash', WHERE WHAT IT READS IS OF BULK AT MOST 1048576: true; the input reads as it did. -/
def manifestCrashUptoRow : OpenClaim := { program := "ytgdgjnecgelalaagreatdoor", sum := "b2e276c72ff01be663d49c0dd80a02b2433fdf551e009581220fbe21150e4dca", func := "tidemill/tidemilllaw18.ManifestCrash", spec := "manifestCrash", inPlace := ["internal/reflectlite.TypeOf", "internal/reflectlite.ValueOf", "(internal/reflectlite.Value).Type", "(internal/reflectlite.Value).IsNil", "(internal/reflectlite.Value).Elem", "(internal/reflectlite.Value).Set"], unfollowed := true, recurses := true, named := ["errors.errorType"], apart := false, laid := [("errors.errorType", laid_errors_errorType)], narrowed := true }
def ManifestCrashUptoSaid : Prop := manifestCrashUptoRow.holds Tryz.pinned (OpenSpec.upto manifestCrashSpec)

end Rows
end Go.Proofs.YtgdgjnecgelalaaGreatDoor
