/- x -/
import Derived.Test.YtlmfhjipbjkcbaaGreatDoorRows
import Derived.WalkKit
import Derived.ProofKit
set_option linter.unusedSimpArgs false
set_option linter.unusedVariables false
namespace Go.Proofs.YtlmfhjipbjkcbaaGreatDoor
open Go
theorem joined_mk {P:Program}{f:FuncId}{fn:Func}{s:ChangeSpec}{c:OpenClaim}
 (k1:c.wf (OpenSpec.ofChange s)=true) (k2:laidOutB P=true) (k3:mapsRowed P=true) (k4:fn.params.all (P.readableRec ·)=true) (k5:namedTie P c.named s.vars=true)
 (k6:(c.stops==[])=true) (k7:(P.stops==[])=true) (k8:(c.knobs==[])=true) (k9:(P.stopKnobs==[])=true)
 (k10:(c.inPlace==P.inPlace f)=true) (k11:(c.unfollowed==P.unfollowed f)=true) (k12:(c.recurses==P.recurses f)=true) (k13:(c.named==P.varsNamed f)=true)
 (k14:(c.maps==(fn.params.toList++s.plain.varTypes P).any (P.mapsRec ·))=true) (k15:(c.ifaces==(fn.params.toList++s.plain.varTypes P).any (P.ifacesRec ·))=true) (k16:(c.mapsOut==P.mapsAmong fn.resultTypes.toList)=true)
 (k17:(c.loops==(fn.params.toList++s.plain.varTypes P).any (P.loopsFrom ·))=true) (k17b:(c.wideKeys==(fn.params.toList++s.plain.varTypes P++fn.resultTypes.toList).any (P.wideKeysFrom ·))=true)
 (k18:s.vars.all (P.varReadable ·)=true) (k19:fn.resultTypes.all (fun t=>P.readableRec t&&decide (t<P.types.size))=true) (k20:(c.ifacesOut==fn.resultTypes.toList.any (P.ifacesRec ·))=true) (k21:(c.loopsOut==fn.resultTypes.toList.any (P.loopsFrom ·))=true)
 (k22:(c.plainKeys==P.plainKeys)=true) (k23:c.shortTexts.isNone=true) (k23b:P.stopsHeard=true) (k24:P.mayEnter=true) (k24b:(c.lifted==P.liftsFinal)=true) (k24c:(P.make==some c.make)=true)
 (k25:(c.kinds==(if c.domain.isEmpty then [] else fn.params.toList.map fun t=>match P.underlying t with|some (.int k)=>some k|_=>none))=true) (k26:(c.pinned==c.pinnedBy)=true)
 (k27:(c.veiled==(fn.params.toList++s.plain.varTypes P++fn.resultTypes.toList).any (P.veiledRec ·))=true) (k28:c.veiledFits P fn.params.toList (fn.params.toList++s.plain.varTypes P++fn.resultTypes.toList)=true) :
 joinedFacts P f fn s c=true:=by
 unfold joinedFacts
 simp only [Bool.and_eq_true]
 exact ⟨⟨⟨⟨⟨⟨⟨⟨⟨⟨⟨⟨⟨⟨⟨⟨⟨⟨⟨⟨⟨⟨⟨⟨⟨⟨⟨⟨⟨⟨⟨k1,k2⟩,k3⟩,k4⟩,k5⟩,k6⟩,k7⟩,k8⟩,k9⟩,k10⟩,k11⟩,k12⟩,k13⟩,k14⟩,k15⟩,k16⟩,k17⟩,k17b⟩,k18⟩,k19⟩,k20⟩,k21⟩,k22⟩,k23⟩,k23b⟩,k24⟩,k24b⟩,k24c⟩,k25⟩,k26⟩,k27⟩,k28⟩
end Go.Proofs.YtlmfhjipbjkcbaaGreatDoor
namespace Go.Proofs.YtlmfhjipbjkcbaaGreatDoor
theorem pf2:laidOutB Tryz.prog=true:=by kernel_rfl
theorem pf3:mapsRowed Tryz.prog=true:=by kernel_rfl
theorem pf7:(Tryz.prog.stops==[])=true:=by kernel_rfl
theorem pf9:(Tryz.prog.stopKnobs==[])=true:=by kernel_rfl
theorem pf23b:Tryz.prog.stopsHeard=true:=by kernel_rfl
theorem pf24:Tryz.prog.mayEnter=true:=by kernel_rfl
end Go.Proofs.YtlmfhjipbjkcbaaGreatDoor
namespace Go.Proofs.YtlmfhjipbjkcbaaGreatDoor.storeCrash
theorem j1:Rows.storeCrashRow.wf (OpenSpec.ofChange Rows.storeCrashSpec)=true:=by kernel_rfl
theorem j4:Tryz.f5.params.all (Tryz.prog.readableRec ·)=true:=by kernel_rfl
theorem j5:namedTie Tryz.prog Rows.storeCrashRow.named Rows.storeCrashSpec.vars=true:=by kernel_rfl
end Go.Proofs.YtlmfhjipbjkcbaaGreatDoor.storeCrash
namespace Go.Proofs.YtlmfhjipbjkcbaaGreatDoor.storeCrash
theorem j10:(Rows.storeCrashRow.inPlace==Tryz.prog.inPlace 5)=true:=by kernel_rfl
theorem j11:(Rows.storeCrashRow.unfollowed==Tryz.prog.unfollowed 5)=true:=by kernel_rfl
end Go.Proofs.YtlmfhjipbjkcbaaGreatDoor.storeCrash
namespace Go.Proofs.YtlmfhjipbjkcbaaGreatDoor.storeCrash
theorem j12:(Rows.storeCrashRow.recurses==Tryz.prog.recurses 5)=true:=by kernel_rfl
theorem j13:(Rows.storeCrashRow.named==Tryz.prog.varsNamed 5)=true:=by kernel_rfl
end Go.Proofs.YtlmfhjipbjkcbaaGreatDoor.storeCrash
namespace Go.Proofs.YtlmfhjipbjkcbaaGreatDoor.storeCrash
theorem j6:(Rows.storeCrashRow.stops==[])=true:=by kernel_rfl
theorem j8:(Rows.storeCrashRow.knobs==[])=true:=by kernel_rfl
theorem j14:(Rows.storeCrashRow.maps==(Tryz.f5.params.toList++Rows.storeCrashSpec.plain.varTypes Tryz.prog).any (Tryz.prog.mapsRec ·))=true:=by kernel_rfl
theorem j15:(Rows.storeCrashRow.ifaces==(Tryz.f5.params.toList++Rows.storeCrashSpec.plain.varTypes Tryz.prog).any (Tryz.prog.ifacesRec ·))=true:=by kernel_rfl
theorem j16:(Rows.storeCrashRow.mapsOut==Tryz.prog.mapsAmong Tryz.f5.resultTypes.toList)=true:=by kernel_rfl
theorem j17:(Rows.storeCrashRow.loops==(Tryz.f5.params.toList++Rows.storeCrashSpec.plain.varTypes Tryz.prog).any (Tryz.prog.loopsFrom ·))=true:=by kernel_rfl
theorem j17b:(Rows.storeCrashRow.wideKeys==(Tryz.f5.params.toList++Rows.storeCrashSpec.plain.varTypes Tryz.prog++Tryz.f5.resultTypes.toList).any (Tryz.prog.wideKeysFrom ·))=true:=by kernel_rfl
theorem j18:Rows.storeCrashSpec.vars.all (Tryz.prog.varReadable ·)=true:=by kernel_rfl
theorem j19:Tryz.f5.resultTypes.all (fun t=>Tryz.prog.readableRec t&&decide (t<Tryz.prog.types.size))=true:=by kernel_rfl
theorem j20:(Rows.storeCrashRow.ifacesOut==Tryz.f5.resultTypes.toList.any (Tryz.prog.ifacesRec ·))=true:=by kernel_rfl
theorem j21:(Rows.storeCrashRow.loopsOut==Tryz.f5.resultTypes.toList.any (Tryz.prog.loopsFrom ·))=true:=by kernel_rfl
end Go.Proofs.YtlmfhjipbjkcbaaGreatDoor.storeCrash
namespace Go.Proofs.YtlmfhjipbjkcbaaGreatDoor.storeCrash
theorem j22:(Rows.storeCrashRow.plainKeys==Tryz.prog.plainKeys)=true:=by kernel_rfl
theorem j23:Rows.storeCrashRow.shortTexts.isNone=true:=by kernel_rfl
theorem j24b:(Rows.storeCrashRow.lifted==Tryz.prog.liftsFinal)=true:=by kernel_rfl
theorem j24c:(Tryz.prog.make==some Rows.storeCrashRow.make)=true:=by kernel_rfl
theorem j25:(Rows.storeCrashRow.kinds==(if Rows.storeCrashRow.domain.isEmpty then [] else Tryz.f5.params.toList.map fun t=>match Tryz.prog.underlying t with|some (.int k)=>some k|_=>none))=true:=by kernel_rfl
theorem j26:(Rows.storeCrashRow.pinned==Rows.storeCrashRow.pinnedBy)=true:=by kernel_rfl
theorem j27:(Rows.storeCrashRow.veiled==(Tryz.f5.params.toList++Rows.storeCrashSpec.plain.varTypes Tryz.prog++Tryz.f5.resultTypes.toList).any (Tryz.prog.veiledRec ·))=true:=by kernel_rfl
theorem j28:Rows.storeCrashRow.veiledFits Tryz.prog Tryz.f5.params.toList (Tryz.f5.params.toList++Rows.storeCrashSpec.plain.varTypes Tryz.prog++Tryz.f5.resultTypes.toList)=true:=by kernel_rfl
end Go.Proofs.YtlmfhjipbjkcbaaGreatDoor.storeCrash
