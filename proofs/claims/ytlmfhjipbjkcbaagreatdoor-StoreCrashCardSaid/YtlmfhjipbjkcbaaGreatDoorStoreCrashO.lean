/- x -/
import Derived.Test.YtlmfhjipbjkcbaaGreatDoorRows
import Derived.Test.YtlmfhjipbjkcbaaGreatDoorCards
import Derived.Test.YtlmfhjipbjkcbaaGreatDoorTie
import Derived.SevenTiedAt
import Derived.Test.YtlmfhjipbjkcbaaGreatDoorLct
import Derived.Test.YtlmfhjipbjkcbaaGreatDoorOpz
import Derived.Test.YtlmfhjipbjkcbaaGreatDoorStoreCrashJ
import Derived.ShutString
set_option maxHeartbeats 1000000
set_option maxRecDepth 1000000
set_option linter.unusedSimpArgs false
set_option linter.unusedVariables false
namespace Go.Proofs.YtlmfhjipbjkcbaaGreatDoor
open Go.ChangeShapes Go.WideShapes Go.RowKit
theorem et_glob:Tryz.prog.globalNamed "errors.errorType"=some 0:=by kernel_rfl
theorem et_rt:(Tryz.prog.cutTypes.find? (·.1 == "internal/reflectlite.rtype")).map (·.2)=some 342:=by kernel_rfl
theorem et_one:((List.range Tryz.prog.types.size).filter fun t=>Tryz.prog.rowNamed t [101,114,114,111,114])=[233]:=by kernel_rfl
theorem hasET_of_laid {W:World}(h:laidMetH Tryz.prog [("errors.errorType",Rows.laid_errors_errorType)] W):HasET W:=by
 have h':laidMet Tryz.prog [] W∧handlesMet Tryz.prog [("errors.errorType",Rows.laid_errors_errorType)] W:=h
 obtain ⟨name,u,ty,e1,e2,e3,e4,e5⟩:=h'.2 _ (yal.2 rfl)
 have en:name=[101,114,114,111,114]:=(yaG e1).symm
 subst en
 obtain rfl:=yaG (et_rt.symm.trans e2)
 have hm:ty∈(List.range Tryz.prog.types.size).filter fun t=>Tryz.prog.rowNamed t [101,114,114,111,114]:=yay.2 ⟨List.mem_range.2 e3,e4⟩
 rw [et_one] at hm
 obtain rfl:=yal.1 hm
 have hh:typeHandle Tryz.prog 233=.pointer (some ⟨hB,233,none⟩):=by kernel_rfl
 rw [hh] at e5
 unfold HasET
 simpa using World.var?_cell et_glob e5 0
end Go.Proofs.YtlmfhjipbjkcbaaGreatDoor
namespace Go.Proofs.YtlmfhjipbjkcbaaGreatDoor.storeCrash
open Go.ChangeShapes Go.WideShapes Go.ChangeAt Go.RowKit
open Go.ChangeMaps (open_string shut_string)
set_option linter.unusedVariables false
theorem own:ownKnob Tryz.prog.godebug=none:=by kernel_rfl
theorem laidOut:laidOutB Tryz.prog=true:=pf2
noncomputable def laidWorld (os:Os):World :=
 let w0:=World.holding Tryz.prog os ⟨#[],#[],[]⟩
 { w0 with heap:=w0.heap.modify 0 fun
   | .cells _ t frozen=>.cells #[.iface 342 (.agg #[typeHandle Tryz.prog 233])] t frozen
   | o=>o }
theorem laidWorld_met (os:Os) (args:Array Value):laidMetH Tryz.prog [("errors.errorType",Rows.laid_errors_errorType)] ((laidWorld os).forCall (fun _ _=>0) ⟨#[],args,[]⟩).memory :=
 laidMetH_of_parts (laidMet_nil _ _) (by kernel_rfl)
theorem lifted (os:Os) (started:os.Started) (H:Type) (enc:TypeId×Value→H) :
 ReturnsInHanded {} Tryz.checked os 5 .any (fun w args=>(Rows.storeCrashSpec.pre enc Tryz.prog Tryz.f5 [] false w args∧laidMetH Tryz.prog [("errors.errorType",Rows.laid_errors_errorType)] w)∧sizedMet enc Tryz.prog Tryz.f5 (OpenSpec.ofChange Rows.storeCrashSpec) false w args) (Rows.storeCrashSpec.post enc Tryz.prog Tryz.f5 false true false false):=by
 refine returnsInHanded_of_change_and (C:=Tryz.checked) (X:=fun w _=>laidMetH Tryz.prog [("errors.errorType",Rows.laid_errors_errorType)] w) (fun _ _ _ hh h=>h.of_heap hh) own started (by kernel_rfl) Tryz.func5
  (ChangeSpec.witness_at (enc:=enc) (C:=Tryz.checked) (os:=os) (X:=fun w _=>laidMetH Tryz.prog [("errors.errorType",Rows.laid_errors_errorType)] w) false (laidWorld os) #[.slice none 0 0,.int .i64 0,.slice none 0 0] 8 rfl (by kernel_rfl) (by kernel_rfl) (by kernel_rfl) (by kernel_rfl) (by kernel_rfl) (laidWorld_met os _)) ?_
 intro W base args ds gs before hval0 hW hcnd hsz hL _
 have hval:∀(j:Nat) t v,Tryz.f5.params[j]?=some t→args[j]?=some v→Value.okWide Tryz.prog W .any base t v:=hval0
 have hW':=hW
 obtain ⟨p,q,hA0,hV,rfl,hfz,hnd⟩:=hW
 have hA:DataW.TrodAll enc Tryz.prog W 0 (fun _=>true) true Tryz.f5.params.toList args.toList ds p:=hA0
 rw [Tryz.params5] at hA hval
 obtain ⟨v0,vs0,d0,ds0,p0,q0,hargs,rfl,rfl,h0,r0⟩:=trodAll_cons hA
 obtain ⟨v1,vs1,d1,ds1,p1,q1,rfl,rfl,rfl,h1,r1⟩:=trodAll_cons r0
 obtain ⟨v2,vs2,d2,ds2,p2,q2,rfl,rfl,rfl,h2,r2⟩:=trodAll_cons r1
 obtain ⟨rfl,rfl,rfl⟩:=trodAll_nil r2
 obtain rfl:args=#[v0,v1,v2]:=by cases args;simp_all
 obtain ⟨rfl,rfl⟩:=trodVars_none hV
 obtain ⟨o0,n0,c0,rfl⟩:=okWide_slice Tryz.underlying22 (hval 0 22 v0 rfl rfl)
 have k0:=h0
 have lt0:∀x∈p0,x.block<W.heap.size:=by obtain ⟨m,hm⟩:=k0;exact DataW.trod_lt m _ _ _ hm
 obtain ⟨l0,k0s,k0k,k0n⟩:∃l:List AcM,Src W 5 (.slice o0 n0 c0) n0 (acms l)∧(∀p∈l,p.Ok W)∧n0<4398046511104:=by
  obtain ⟨fuel,hf⟩:=h0
  obtain ⟨o',n',c',l,e1,e2,e3,e4,e5⟩:=open_acms hf (fun k hk=>by simpa using yaV.1 hsz k (DataW.weights_mem_each (j:=0) rfl rfl k hk))
  simp [Value.cells] at e1
  obtain ⟨rfl,rfl,rfl⟩:=e1
  exact ⟨l,e2,e3,e5⟩
 obtain ⟨a1,rfl,rfl,rfl,w1⟩:=open_int Tryz.underlying3 (hval 1 3 v1 rfl rfl) h1
 obtain ⟨o2,n2,c2,rfl⟩:=okWide_slice Tryz.underlying39 (hval 2 39 v2 rfl rfl)
 have k2:=h2
 have lt2:∀x∈p2,x.block<W.heap.size:=by obtain ⟨m,hm⟩:=k2;exact DataW.trod_lt m _ _ _ hm
 obtain ⟨l2,k2s,k2c,k2n⟩:∃l:List Int,Src W 1 (.slice o2 n2 c2) n2 (zints l)∧n2≤c2∧n2≤17592186044416:=by
  obtain ⟨fuel,hf⟩:=h2
  obtain ⟨o',n',c',l,e1,e2,e3,e4⟩:=open_zints hf
  have e5:=e4 reachBytes (fun k hk=>by simpa using yaV.1 hsz k (DataW.weights_mem_each (j:=2) rfl rfl k hk))
  simp [Value.cells] at e1
  obtain ⟨rfl,rfl,rfl⟩:=e1
  rw [show Tryz.prog.bytesOf 3=8 by kernel_rfl] at e5
  have hr:=reachBytes_lt
  exact ⟨l,e2,e3,by omega⟩
 clear hA0 hval0
 refine (storeCrash_any W o0 n0 c0 l0 k0s k0k k0n a1 o2 n2 c2 l2 k2s (by omega) (hasET_of_laid hL)).mono fun e W' ⟨he,hx⟩=>?_
 have bel:=hx.below
 subst he
 exact ⟨_,rfl,_,_,_,[],_,[],hW',trodAll_mk1 (shut_bool Tryz.underlying4 _),(trodAll_cons_mk (Below.trod laidOut (by kernel_rfl) (of_decide_eq_true (by kernel_rfl)) k0 bel lt0) (trodAll_cons_mk (shut_int Tryz.underlying3 w1) (trodAll_cons_mk (Below.trod laidOut (by kernel_rfl) (of_decide_eq_true (by kernel_rfl)) k2 bel lt2) trodAll_mk0))),rfl,bel.frame _,fun h=>by cases h⟩
end Go.Proofs.YtlmfhjipbjkcbaaGreatDoor.storeCrash
namespace Go.Proofs.YtlmfhjipbjkcbaaGreatDoor.storeCrash
open Go.ChangeShapes Go.WideShapes Go.ChangeAt Go.RowKit
theorem hnamed:Tryz.prog.funcNamed Rows.storeCrashRow.func=some 5:=by kernel_rfl
theorem hjoined:joinedFacts Tryz.prog 5 Tryz.f5 Rows.storeCrashSpec Rows.storeCrashRow=true :=
 joined_mk j1 pf2 pf3 j4 j5 j6 pf7 j8 pf9 j10 j11 j12 j13 j14 j15 j16 j17 j17b j18 j19 j20 j21 j22 j23 pf23b pf24 j24b j24c j25 j26 j27 j28
theorem hinst:Tryz.f5.isInstance Tryz.prog Rows.storeCrashRow.origin Rows.storeCrashRow.targs:=of_decide_eq_true (by kernel_rfl)
theorem hwrap:Tryz.f5.isWrapper Tryz.prog Rows.storeCrashRow.wrapper Rows.storeCrashRow.mainSum:=by unfold Func.isWrapper;first|(rw [if_pos (by decide +kernel)];kernel_rfl)|(rw [if_neg (by decide +kernel)];exact ⟨rfl,rfl⟩)
theorem over:Rows.storeCrashRow.holds Tryz.pinned (OpenSpec.ofChange Rows.storeCrashSpec) :=
 OpenClaim.holds_of_wide 5 Tryz.f5 rfl rfl rfl rfl rfl rfl rfl ⟨rfl,rfl,rfl,rfl,rfl⟩ rfl rfl rfl rfl rfl hnamed Tryz.func5 hjoined hinst hwrap
  (fun os started H enc _=>lifted os started H enc)
end Go.Proofs.YtlmfhjipbjkcbaaGreatDoor.storeCrash
