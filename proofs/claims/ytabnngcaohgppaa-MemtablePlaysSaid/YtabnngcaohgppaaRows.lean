/-
  No cell of these rows narrows 'for every input' (looked for: loops, veiled, ifaces, maps, wideKeys, modest, calm, conditions, laid).
  DERIVED. THE GIVEN ROWS OF THIS SEAT. 4 by the template 'for every input the law returns true; each argument reads behind the call as it read before'; 0 by the template 'total and deterministic' (their statements: YtabnngcaohgppaaTotals.lean).
  GIVEN WITH THE SEED: the statements are not yours to turn. If you find one false, say at which input.
  Laid BY PROGRAM, IN A SANDBOX (cutbox-rows.mjs): the forced cells as the released guide's own fill.sh prints them over the translation 87cb3e965b162dc1… (all of the seat's roots in one cut). By AI agents, Wed Nov 11 2026. No macro, syntax, notation, axiom, sorry.
-/
import Derived.Test.YtabnngcaohgppaaChecked
import GoSem.Claim
import GoSem.ClaimJoined
import GoSem.ClaimMapViews
import Derived.JoinedTies
import Derived.KernelRfl
namespace Go.Proofs.Ytabnngcaohgppaa
/- THE CELL 'sum', in the pinned program and in every row, IS THE sha256 OF THE DUMP (.gsa) THAT YtabnngcaohgppaaProg.lean LOADS. Nothing in Lean hashes anything: it is a label: what it is worth is what the hold of that sum in a sandbox is worth. -/
noncomputable def Try.pinned : Pinned := { name := "ytabnngcaohgppaa", sum := "87cb3e965b162dc13e8741e175d38dc7b65bf5674e9f68acf0dd19d8ca8e76f5", checked := Try.checked }
namespace Rows
def none {H : Type} : Left H := { results := [], args := [] }

/-- 'tidemilllaw16.MemtableRoom': WHATEVER THE INPUT: true; the input reads as it did. -/
def memtableRoomSpec : ChangeSpec := { name := "memtableRoom", fn := fun _ => fun
  | [d1, d2] => { results := [.lit (.bool true)], args := [d1, d2] }
  | _ => none }
def memtableRoomRow : OpenClaim := { program := "ytabnngcaohgppaa", sum := "87cb3e965b162dc13e8741e175d38dc7b65bf5674e9f68acf0dd19d8ca8e76f5", func := "tidemill/tidemilllaw16.MemtableRoom", spec := "memtableRoom", inPlace := ["internal/bytealg.IndexByteString"], unfollowed := true, recurses := true, plainKeys := false, apart := false }
def MemtableRoomSaid : Prop := memtableRoomRow.holds Try.pinned (OpenSpec.ofChange memtableRoomSpec)

/-- ITS FALSE NEIGHBOUR: 'it returns false'. Refute it at one input. -/
def memtableRoomWrong : ChangeSpec := { name := "memtableRoom", fn := fun _ => fun
  | [d1, d2] => { results := [.lit (.bool false)], args := [d1, d2] }
  | _ => none }
def MemtableRoomWrongFalsely : Prop := memtableRoomRow.holds Try.pinned (OpenSpec.ofChange memtableRoomWrong)

/-- 'tidemilllaw16.MemtableLast': WHATEVER THE INPUT: true; the input reads as it did. -/
def memtableLastSpec : ChangeSpec := { name := "memtableLast", fn := fun _ => fun
  | [d1, d2, d3] => { results := [.lit (.bool true)], args := [d1, d2, d3] }
  | _ => none }
def memtableLastRow : OpenClaim := { program := "ytabnngcaohgppaa", sum := "87cb3e965b162dc13e8741e175d38dc7b65bf5674e9f68acf0dd19d8ca8e76f5", func := "tidemill/tidemilllaw16.MemtableLast", spec := "memtableLast", inPlace := ["internal/bytealg.IndexByteString"], unfollowed := true, recurses := true, plainKeys := false, apart := false }
def MemtableLastSaid : Prop := memtableLastRow.holds Try.pinned (OpenSpec.ofChange memtableLastSpec)

/-- ITS FALSE NEIGHBOUR: 'it returns false'. Refute it at one input. -/
def memtableLastWrong : ChangeSpec := { name := "memtableLast", fn := fun _ => fun
  | [d1, d2, d3] => { results := [.lit (.bool false)], args := [d1, d2, d3] }
  | _ => none }
def MemtableLastWrongFalsely : Prop := memtableLastRow.holds Try.pinned (OpenSpec.ofChange memtableLastWrong)

/-- 'tidemilllaw16.MemtableNobody': WHATEVER THE INPUT: true; the input reads as it did. -/
def memtableNobodySpec : ChangeSpec := { name := "memtableNobody", fn := fun _ => fun
  | [d] => { results := [.lit (.bool true)], args := [d] }
  | _ => none }
def memtableNobodyRow : OpenClaim := { program := "ytabnngcaohgppaa", sum := "87cb3e965b162dc13e8741e175d38dc7b65bf5674e9f68acf0dd19d8ca8e76f5", func := "tidemill/tidemilllaw16.MemtableNobody", spec := "memtableNobody", inPlace := ["internal/bytealg.IndexByteString"], unfollowed := true, recurses := true, plainKeys := false, apart := false }
def MemtableNobodySaid : Prop := memtableNobodyRow.holds Try.pinned (OpenSpec.ofChange memtableNobodySpec)

/-- ITS FALSE NEIGHBOUR: 'it returns false'. Refute it at one input. -/
def memtableNobodyWrong : ChangeSpec := { name := "memtableNobody", fn := fun _ => fun
  | [d] => { results := [.lit (.bool false)], args := [d] }
  | _ => none }
def MemtableNobodyWrongFalsely : Prop := memtableNobodyRow.holds Try.pinned (OpenSpec.ofChange memtableNobodyWrong)

/-- 'tidemilllaw16.MemtablePlays': WHATEVER THE INPUT: true; the input reads as it did. -/
def memtablePlaysSpec : ChangeSpec := { name := "memtablePlays", fn := fun _ => fun
  | [d1, d2, d3] => { results := [.lit (.bool true)], args := [d1, d2, d3] }
  | _ => none }
def memtablePlaysRow : OpenClaim := { program := "ytabnngcaohgppaa", sum := "87cb3e965b162dc13e8741e175d38dc7b65bf5674e9f68acf0dd19d8ca8e76f5", func := "tidemill/tidemilllaw16.MemtablePlays", spec := "memtablePlays", inPlace := ["internal/bytealg.IndexByteString"], unfollowed := true, recurses := true, plainKeys := false, apart := false }
def MemtablePlaysSaid : Prop := memtablePlaysRow.holds Try.pinned (OpenSpec.ofChange memtablePlaysSpec)

/-- ITS FALSE NEIGHBOUR: 'it returns false'. Refute it at one input. -/
def memtablePlaysWrong : ChangeSpec := { name := "memtablePlays", fn := fun _ => fun
  | [d1, d2, d3] => { results := [.lit (.bool false)], args := [d1, d2, d3] }
  | _ => none }
def MemtablePlaysWrongFalsely : Prop := memtablePlaysRow.holds Try.pinned (OpenSpec.ofChange memtablePlaysWrong)

/- THE SECOND FORM. 'bulk': how many values and letters a reading holds, each counted each time it is reached (what is shared counts as often as it is met; a slice's spare places count too). A statement '..UptoSaid' is the law's where the arguments, and the package variables that the reading takes, are together of bulk at most 1048576: NARROWER than '..Said'. Prove '..Said' where nothing that the law and all that it calls make is longer than what came in: it says more and counts as full. Else prove '..UptoSaid'. A law counts once. -/
mutual
def uptoBulk {H : Type} : DataW H → Nat
  | .lit (.string bytes) => bytes.length + 1
  | .lit _ => 1
  | .nil => 1
  | .ptr d => uptoBulk d + 1
  | .slice elems spare => uptoBulkAll elems + uptoBulkAll spare + 1
  | .agg parts => uptoBulkAll parts + 1
  | .iface _ d => uptoBulk d + 1
  | .map entries => uptoBulkEntries entries + 1
  | .held _ => 1
def uptoBulkAll {H : Type} : List (DataW H) → Nat
  | [] => 0
  | d :: r => uptoBulk d + uptoBulkAll r
def uptoBulkEntries {H : Type} : List (Lit × DataW H) → Nat
  | [] => 0
  | x :: r => uptoBulkEntry x + uptoBulkEntries r
def uptoBulkEntry {H : Type} : Lit × DataW H → Nat
  | (.string bytes, d) => bytes.length + uptoBulk d + 1
  | (_, d) => uptoBulk d + 1
 end
def uptoSmall : (H : Type) → List (DataW H) → Bool := fun _ ds => decide (uptoBulkAll ds ≤ 1048576)
def OpenSpec.upto (s : _root_.Go.ChangeSpec) : _root_.Go.OpenSpec := { _root_.Go.OpenSpec.ofChange s with cond := some uptoSmall }

/-- 'tidemilllaw16.MemtableRoom', WHERE WHAT IT READS IS OF BULK AT MOST 1048576: true; the input reads as it did. -/
def memtableRoomUptoRow : OpenClaim := { program := "ytabnngcaohgppaa", sum := "87cb3e965b162dc13e8741e175d38dc7b65bf5674e9f68acf0dd19d8ca8e76f5", func := "tidemill/tidemilllaw16.MemtableRoom", spec := "memtableRoom", inPlace := ["internal/bytealg.IndexByteString"], unfollowed := true, recurses := true, plainKeys := false, apart := false, narrowed := true }
def MemtableRoomUptoSaid : Prop := memtableRoomUptoRow.holds Try.pinned (OpenSpec.upto memtableRoomSpec)

/-- 'tidemilllaw16.MemtableLast', WHERE WHAT IT READS IS OF BULK AT MOST 1048576: true; the input reads as it did. -/
def memtableLastUptoRow : OpenClaim := { program := "ytabnngcaohgppaa", sum := "87cb3e965b162dc13e8741e175d38dc7b65bf5674e9f68acf0dd19d8ca8e76f5", func := "tidemill/tidemilllaw16.MemtableLast", spec := "memtableLast", inPlace := ["internal/bytealg.IndexByteString"], unfollowed := true, recurses := true, plainKeys := false, apart := false, narrowed := true }
def MemtableLastUptoSaid : Prop := memtableLastUptoRow.holds Try.pinned (OpenSpec.upto memtableLastSpec)

/-- 'tidemilllaw16.MemtableNobody', WHERE WHAT IT READS IS OF BULK AT MOST 1048576: true; the input reads as it did. -/
def memtableNobodyUptoRow : OpenClaim := { program := "ytabnngcaohgppaa", sum := "87cb3e965b162dc13e8741e175d38dc7b65bf5674e9f68acf0dd19d8ca8e76f5", func := "tidemill/tidemilllaw16.MemtableNobody", spec := "memtableNobody", inPlace := ["internal/bytealg.IndexByteString"], unfollowed := true, recurses := true, plainKeys := false, apart := false, narrowed := true }
def MemtableNobodyUptoSaid : Prop := memtableNobodyUptoRow.holds Try.pinned (OpenSpec.upto memtableNobodySpec)

/-- 'tidemilllaw16.MemtablePlays', WHERE WHAT IT READS IS OF BULK AT MOST 1048576: true; the input reads as it did. -/
def memtablePlaysUptoRow : OpenClaim := { program := "ytabnngcaohgppaa", sum := "87cb3e965b162dc13e8741e175d38dc7b65bf5674e9f68acf0dd19d8ca8e76f5", func := "tidemill/tidemilllaw16.MemtablePlays", spec := "memtablePlays", inPlace := ["internal/bytealg.IndexByteString"], unfollowed := true, recurses := true, plainKeys := false, apart := false, narrowed := true }
def MemtablePlaysUptoSaid : Prop := memtablePlaysUptoRow.holds Try.pinned (OpenSpec.upto memtablePlaysSpec)

end Rows
end Go.Proofs.Ytabnngcaohgppaa
