/- x -/
import Derived.Test.YtlmfhjipbjkcbaaGreatDoorOac
set_option linter.unusedSimpArgs false
set_option linter.unusedVariables false
namespace Go.Proofs.YtlmfhjipbjkcbaaGreatDoor
open Go.RowKit Go.Sort Go.Lib Go.ChangeShapes Go.WideShapes Go.Deep
section
variable {H:Type} {enc:TypeId×Value→H} {w:World} {base:Nat} {spare:Nat→Bool} {held:Bool}
theorem zints_flat (l:List Int):(l.flatMap fun z=>[Value.int .i64 z])=zints l:=by
 induction l with
 | nil=>rfl
 | cons s l ih=>rw [List.flatMap_cons,ih];rfl
theorem open_zints {fuel:Nat}{cs:List Value}{x:DataW H×List MemPlace}(h:DataW.trod enc Tryz.prog w base spare held fuel 39 cs=some x) :
 ∃(o:Option Addr) (n c:Nat) (l:List Int),cs=[.slice o n c]∧Src w 1 (.slice o n c) n (zints l)∧n≤c∧∀B:Nat,(∀k∈x.1.weights Tryz.prog 39,k≤B)→n*Tryz.prog.bytesOf 3≤B:=by
 obtain ⟨o,n,c,l,h1,h2,_,h3⟩:=open_els (fun z:Int=>[Value.int .i64 z]) (fun _=>True) 1 (by omega) (fun _=>rfl) (fun s u hu=>by simp at hu;subst hu;rfl) Tryz.underlying39 (by kernel_rfl)
  (fun _ _ _ h=>by
    obtain ⟨z,hz,_⟩:=DataW.trod_int Tryz.underlying3 h
    exact ⟨z,hz,trivial⟩) h
 exact ⟨o,n,c,l,h1,by rw [←zints_flat];exact h2,h3⟩
end
end Go.Proofs.YtlmfhjipbjkcbaaGreatDoor
