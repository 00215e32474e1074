/- PlanSame returns true for every input; no condition. -/
import Derived.Test.YtokllgdbmnmieaaGreatRows
import Derived.Test.YtokllgdbmnmieaaGreatPls
import Derived.WalkKit
import Derived.ProofKit
import Derived.OpenShut
import Derived.ShutString
import Derived.ChangeOld
import Derived.Below
import Derived.SizedLaws
namespace Go.Proofs.YtokllgdbmnmieaaGreat.planSame
open Go.ChangeShapes Go.WideShapes Go.ChangeAt Go.RowKit
open Go.ChangeMaps (open_string shut_string)
set_option linter.unusedVariables false

theorem own : ownKnob Tryz.prog.godebug = none := by kernel_rfl
theorem laidOut : laidOutB Tryz.prog = true := by kernel_rfl


set_option maxRecDepth 100000 in
set_option maxHeartbeats 1000000 in
theorem lifted (os : Os) (started : os.Started) (H : Type) (enc : TypeId × Value → H) :
    ReturnsInHanded {} Tryz.checked os 3 .any (Rows.planSameSpec.pre6 enc Tryz.prog Tryz.f3 Rows.planSameRow.domain false) (Rows.planSameSpec.post enc Tryz.prog Tryz.f3 false true false false) := by
  refine returnsInHanded_of_change_sized (C := Tryz.checked) own started (by kernel_rfl) Tryz.func3
    (ChangeSpec.witness6 (enc := enc) (C := Tryz.checked) false ⟨#[], #[.agg #[.int .i64 0, .int .i64 0, .string ⟨#[]⟩, .string ⟨#[]⟩, .int .i64 0, .int .i64 0, .int .i64 0, .int .i64 0, .int .i64 0, .int .i64 0, .int .i64 0, .int .i64 0], .slice none 0 0, .slice none 0 0], []⟩ 8 (by kernel_rfl) (by kernel_rfl) (by kernel_rfl) (by kernel_rfl)) ?_
  intro W base args ds gs before hval0 hW hcnd hsz _
  have hval : ∀ (j : Nat) t v, Tryz.f3.params[j]? = some t → args[j]? = some v → Value.okWide Tryz.prog W .any base t v := hval0
  have hW' := hW
  obtain ⟨p, q, hA0, hV, rfl, hfz, hnd⟩ := hW
  have hA : DataW.TrodAll enc Tryz.prog W 0 (fun _ => true) true Tryz.f3.params.toList args.toList ds p := hA0
  rw [Tryz.params3] at hA hval
  obtain ⟨v0, vs0, d0, ds0, p0, q0, hargs, rfl, rfl, h0, r0⟩ := trodAll_cons hA
  obtain ⟨v1, vs1, d1, ds1, p1, q1, rfl, rfl, rfl, h1, r1⟩ := trodAll_cons r0
  obtain ⟨v2, vs2, d2, ds2, p2, q2, rfl, rfl, rfl, h2, r2⟩ := trodAll_cons r1
  obtain ⟨rfl, rfl, rfl⟩ := trodAll_nil r2
  obtain rfl : args = #[v0, v1, v2] := by cases args; simp_all
  obtain ⟨rfl, rfl⟩ := trodVars_none hV
  have k0 := h0
  have lt0 : ∀ x ∈ p0, x.block < W.heap.size := by obtain ⟨m, hm⟩ := k0; exact DataW.trod_lt m _ _ _ hm
  obtain ⟨op0, fn0, ser0, oth0, fr0, to0, wd0, st0, off0, gap0, tol0, fill0, rfl, zs0, zo0⟩ := open_qv (hval 0 23 v0 rfl rfl) h0
  obtain ⟨o1, n1, c1, rfl⟩ := okWide_slice Tryz.underlying24 (hval 1 24 v1 rfl rfl)
  have k1 := h1
  have lt1 : ∀ x ∈ p1, x.block < W.heap.size := by obtain ⟨m, hm⟩ := k1; exact DataW.trod_lt m _ _ _ hm
  obtain ⟨l1, k1s, k1z, k1c, k1n⟩ : ∃ l : List Ti, Src W 5 (.slice o1 n1 c1) n1 (tis l) ∧ (∀ p ∈ l, p.f.size ≤ maxLen) ∧ n1 ≤ c1 ∧ n1 ≤ 4398046511104 := by
    obtain ⟨fuel, hf⟩ := h1
    obtain ⟨o', n', c', l, e1, e2, e2', e3, e4⟩ := open_tiers hf
    have e5 := e4 reachBytes (fun k hk => by simpa using List.all_eq_true.1 hsz k (DataW.weights_mem_each (j := 1) rfl rfl k hk))
    simp [Value.cells] at e1
    obtain ⟨rfl, rfl, rfl⟩ := e1
    rw [show Tryz.prog.bytesOf 48 = 48 by kernel_rfl] at e5
    have hr := reachBytes_lt
    exact ⟨l, e2, e2', e3, by omega⟩
  have k2 := h2
  have lt2 : ∀ x ∈ p2, x.block < W.heap.size := by obtain ⟨m, hm⟩ := k2; exact DataW.trod_lt m _ _ _ hm
  obtain ⟨o2, n2, c2, rfl⟩ := okWide_slice Tryz.underlying25 (hval 2 25 v2 rfl rfl)
  obtain ⟨l2, k2s, k2f, k2c, k2n⟩ : ∃ l : List Pt, Src W 3 (.slice o2 n2 c2) n2 (pts l) ∧ (∀ p ∈ l, p.fits) ∧ n2 ≤ c2 ∧ n2 ≤ 1099511627776000 := by
    obtain ⟨fuel, hf⟩ := h2
    obtain ⟨o', n', c', l, e1, e2, e3, e6, e4⟩ := open_ptsw Tryz.underlying25 Tryz.underlying37 (by kernel_rfl) (by kernel_rfl) rfl rfl rfl Tryz.underlying3 hf
    have e5 := e4 reachBytes (fun k hk => by simpa using List.all_eq_true.1 hsz k (DataW.weights_mem_each (j := 2) rfl rfl k hk))
    simp [Value.cells] at e1
    obtain ⟨rfl, rfl, rfl⟩ := e1
    rw [show Tryz.prog.bytesOf 37 = 24 by kernel_rfl] at e5
    have hr := reachBytes_lt
    exact ⟨l, e2, e6, e3, by omega⟩
  clear hA0 hval0
  refine (planSame_any op0 fn0 ser0 oth0 fr0 to0 wd0 st0 off0 gap0 tol0 fill0 zs0 zo0 W o1 n1 c1 l1 k1s k1n o2 n2 c2 l2 k2s k2f).mono fun e W' ⟨he, hx⟩ => ?_
  have bel := hx.below
  subst he
  exact ⟨_, rfl, _, _, _, [], _, [], hW', trodAll_mk1 (shut_bool Tryz.underlying4 _), (trodAll_cons_mk (Below.trod laidOut (by kernel_rfl) (of_decide_eq_true (by kernel_rfl)) k0 bel lt0) (trodAll_cons_mk (Below.trod laidOut (by kernel_rfl) (of_decide_eq_true (by kernel_rfl)) k1 bel lt1) (trodAll_cons_mk (Below.trod laidOut (by kernel_rfl) (of_decide_eq_true (by kernel_rfl)) k2 bel lt2) trodAll_mk0))), rfl, bel.frame _, fun h => by cases h⟩

theorem over : Rows.planSameRow.holds Tryz.pinned (OpenSpec.ofChange Rows.planSameSpec) :=
  OpenClaim.holds_of_wide 3 Tryz.f3 rfl rfl rfl rfl rfl rfl rfl ⟨rfl, rfl, rfl, rfl, rfl⟩ rfl rfl rfl rfl rfl (by kernel_rfl) Tryz.func3 (by kernel_rfl)
    (of_decide_eq_true (by kernel_rfl)) (by unfold Func.isWrapper; first | (rw [if_pos (by decide +kernel)]; kernel_rfl) | (rw [if_neg (by decide +kernel)]; exact ⟨rfl, rfl⟩))
    (fun os started H enc _ => lifted os started H enc)

theorem proved : Rows.PlanSameSaid := over
#print axioms proved
end Go.Proofs.YtokllgdbmnmieaaGreat.planSame
