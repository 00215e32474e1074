/- StoreCompacts returns true for every input; no condition. -/
import Derived.Test.YtlmfhjipbjkcbaaGreatDoorRows
import Derived.Test.YtlmfhjipbjkcbaaGreatDoorCards
import Derived.Test.YtlmfhjipbjkcbaaGreatDoorTie
import Derived.ChangeSame
import Derived.ChangeVars
import Derived.JoinedOf
import Derived.LaidLaws
import Derived.LaidHandle
import Derived.SevenTiedAt
import Derived.Test.YtlmfhjipbjkcbaaGreatDoorStoreCompactsO
import Derived.WalkKit
import Derived.ProofKit
import Derived.OpenShut
import Derived.ShutString
import Derived.ChangeOld
import Derived.Below
import Derived.SizedLaws
set_option linter.unusedSimpArgs false
set_option linter.unusedVariables false
namespace Go.Proofs.YtlmfhjipbjkcbaaGreatDoor.storeCompacts
open Go.ChangeShapes Go.WideShapes Go.ChangeAt Go.RowKit
open Go.ChangeMaps (open_string shut_string)
set_option linter.unusedVariables false
theorem proved:Rows.StoreCompactsCardSaid :=
 Claim7.holds_tied_plain_at .later [] [.handle] true Rows.storeCompactsCard.stood.harness true
  over (fun _ h=>by cases h) (by as_aux_lemma=>kernel_rfl) (fun _ h=>by cases h) storeCompacts_row_tie rfl ⟨rfl,rfl⟩ (by as_aux_lemma=>kernel_rfl) rfl
  (fun f fn hf hfn=>by
    obtain rfl:f=4:=Option.some.inj ((show Tryz.prog.funcNamed "tidemill/tidemilllaw25.StoreCompacts"=some 4 by as_aux_lemma=>kernel_rfl).symm.trans hf) |>.symm
    obtain rfl:fn=Tryz.f4:=(Option.some.inj (Tryz.func4.symm.trans hfn)).symm
    exact ⟨by as_aux_lemma=>kernel_rfl,fun j t ht=>by
     rw [Tryz.params4] at ht
     rcases j with _|j
     ·obtain rfl:t=22:=by simpa using ht.symm
      exact (show Tryz.prog.wantsStandIn 22=false by as_aux_lemma=>kernel_rfl)
     ·rcases j with _|j
      ·obtain rfl:t=61:=by simpa using ht.symm
       exact (show Tryz.prog.wantsStandIn 61=false by as_aux_lemma=>kernel_rfl)
      ·simp at ht
⟩)
 (by as_aux_lemma=>kernel_rfl)
#print axioms proved
end Go.Proofs.YtlmfhjipbjkcbaaGreatDoor.storeCompacts
