/- StoreCrash returns true for every input; no condition. -/
import Derived.Test.YtlmfhjipbjkcbaaGreatDoorRows
import Derived.Test.YtlmfhjipbjkcbaaGreatDoorCards
import Derived.Test.YtlmfhjipbjkcbaaGreatDoorTie
import Derived.Test.YtlmfhjipbjkcbaaGreatDoorStoreCrashO
set_option linter.unusedSimpArgs false
set_option linter.unusedVariables false
namespace Go.Proofs.YtlmfhjipbjkcbaaGreatDoor.storeCrash
open Go.ChangeShapes Go.WideShapes Go.ChangeAt Go.RowKit
open Go.ChangeMaps (open_string shut_string)
set_option linter.unusedVariables false
theorem proved:Rows.StoreCrashCardSaid :=
 Claim7.holds_tied_plain_at .later [] [.handle] true Rows.storeCrashCard.stood.harness true
  over (fun _ h=>by cases h) (by as_aux_lemma=>kernel_rfl) (fun _ h=>by cases h) storeCrash_row_tie rfl ⟨rfl,rfl⟩ (by as_aux_lemma=>kernel_rfl) rfl
  (fun f fn hf hfn=>by
    obtain rfl:f=5:=yaG ((show Tryz.prog.funcNamed "tidemill/tidemilllaw25.StoreCrash"=some 5 by as_aux_lemma=>kernel_rfl).symm.trans hf) |>.symm
    obtain rfl:fn=Tryz.f5:=(yaG (Tryz.func5.symm.trans hfn)).symm
    exact ⟨by as_aux_lemma=>kernel_rfl,fun j t ht=>by
     rw [Tryz.params5] at ht
     rcases j with _|j
     ·obtain rfl:t=22:=by simpa using ht.symm
      exact (show Tryz.prog.wantsStandIn 22=false by as_aux_lemma=>kernel_rfl)
     ·rcases j with _|j
      ·obtain rfl:t=3:=by simpa using ht.symm
       exact (show Tryz.prog.wantsStandIn 3=false by as_aux_lemma=>kernel_rfl)
      ·rcases j with _|j
       ·obtain rfl:t=39:=by simpa using ht.symm
        exact (show Tryz.prog.wantsStandIn 39=false by as_aux_lemma=>kernel_rfl)
       ·simp at ht
⟩)
 (by as_aux_lemma=>kernel_rfl)
#print axioms proved
end Go.Proofs.YtlmfhjipbjkcbaaGreatDoor.storeCrash
