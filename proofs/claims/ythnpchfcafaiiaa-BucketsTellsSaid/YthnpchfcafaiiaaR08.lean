/- The document's aggr: of, Of, ahead. -/
import Derived.Test.YthnpchfcafaiiaaR07
import Derived.Test.YthnpchfcafaiiaaAgg
import Derived.Test.YthnpchfcafaiiaaGat
namespace Go.Proofs.Ythnpchfcafaiiaa
open Go.RowKit Go.Lib Go.Sort

set_option maxHeartbeats 1000000 in
theorem rof_any (n : Int) (w : World) (h1 : -9223372036854775808 ≤ n) (h2 : n ≤ 9223372036854775807) :
    Calls Try.prog 37 #[.int .i64 n] w fun e w' => e = .returned (.agg (lmA n)) ∧ Ext w w' := by
  have HC := Lib.hid (fun W => limbs_any n W (by omega) (by omega))
  have e1 : n / 9223372036854775808 = n / 18446744073709551616 := by omega
  have e2 : IntKind.u64.wrap n = n % 18446744073709551616 := by rw [IntKind.wrap_u64]
  obtain ⟨hi, hhi⟩ : ∃ x, x = n / 18446744073709551616 := ⟨_, rfl⟩
  obtain ⟨lo, hlo⟩ : ∃ x, x = n % 18446744073709551616 := ⟨_, rfl⟩
  rw [← hhi] at e1 HC
  rw [← hlo] at e2 HC
  obtain ⟨A, hA⟩ : ∃ A, A = lmA n := ⟨_, rfl⟩
  rw [← hA] at HC ⊢
  have HA := Lib.hid hA
  clear hhi hlo hA h1 h2
  go_enter Try.func37, Try.ntmps37
  go_wp2_with fail
  refine (HC.out _).mono ?_
  rintro e w1 ⟨rfl, hx1⟩
  have HX1 := Lib.hid (((Ext.refl w).alloc (.cells #[.int .i64 0, .int .i64 0, .int .i64 0, .int .i64 0, .int .i64 0, .int .i64 0, .int .i64 0, .int .i64 0] 64 (0, 0))).trans hx1)
  have HZ1 := Lib.hid ((hx1.block (block_lt (heap_alloc_new w _))).trans (heap_alloc_new w (.cells #[.int .i64 0, .int .i64 0, .int .i64 0, .int .i64 0, .int .i64 0, .int .i64 0, .int .i64 0, .int .i64 0] 64 (0, 0))))
  clear hx1
  go_wp2_with (first | (refine wpList_store_box rfl _ _ _ rfl _ _ _ _ rfl rfl HZ1.out (by rw [HA.out]; rfl) (by rw [HA.out]; exact lm_info) (by rw [HA.out]; simp [lmA, Value.oneCell']) ?_; rintro w5 hb5 hc5; have HB5 := Lib.hid hb5; have HC5 := Lib.hid hc5; clear hb5 hc5))
  exact bodyPost_ret (results_box Try.results37 _ _ rfl HB5.out Try.underlying64 rfl (by rw [HA.out]; exact lm_info)) rfl ⟨rfl, ((Chg.of_ext (S := fun _ => False) HX1.out).trans HC5.out (fun i hi e => by omega)).ext (fun _ _ e => e)⟩

/-- What is told of points, as the document has it: its cells. -/
def agR (g : Ag) : Array Value := #[.int .i64 g.n, .int .i64 (g.s % 65536), .int .i64 (g.s / 65536 % 65536), .int .i64 (g.s / 4294967296 % 65536), .int .i64 (g.s / 281474976710656 % 65536),
  .int .i64 (g.s / 18446744073709551616 % 65536), .int .i64 (g.s / 1208925819614629174706176 % 65536), .int .i64 (g.s / 79228162514264337593543950336 % 65536), .int .i64 (g.s / 5192296858534827628530496329220096 % 65536),
  .int .i64 g.mn, .int .i64 g.mx, .int .i64 g.f.t, .int .i64 g.f.v, .int .i64 g.f.s, .int .i64 g.l.t, .int .i64 g.l.v, .int .i64 g.l.s]
theorem ar_info : (Try.prog.info? 66).map (·.size) = some 17 := by kernel_rfl
abbrev arZ : Obj := .cells #[.int .i64 0, .int .i64 0, .int .i64 0, .int .i64 0, .int .i64 0, .int .i64 0, .int .i64 0, .int .i64 0, .int .i64 0, .int .i64 0, .int .i64 0, .int .i64 0, .int .i64 0, .int .i64 0, .int .i64 0, .int .i64 0, .int .i64 0] 66 (0, 0)

set_option maxHeartbeats 2000000 in
set_option maxRecDepth 100000 in
theorem rOf_any (p : Pt) (w : World) (hv1 : -9223372036854775808 ≤ p.v) (hv2 : p.v ≤ 9223372036854775807) :
    Calls Try.prog 21 #[p.val] w fun e w' => e = .returned (.agg (agR (agOf p))) ∧ Ext w w' := by
  obtain ⟨pt, pv, ps⟩ := p
  unfold agOf Pt.val agR
  simp only at hv1 hv2 ⊢
  have HC := Lib.hid (fun W => rof_any pv W hv1 hv2)
  unfold lmA at HC
  obtain ⟨l0, h0⟩ : ∃ x, x = pv % 65536 := ⟨_, rfl⟩
  obtain ⟨l1, h1⟩ : ∃ x, x = pv / 65536 % 65536 := ⟨_, rfl⟩
  obtain ⟨l2, h2⟩ : ∃ x, x = pv / 4294967296 % 65536 := ⟨_, rfl⟩
  obtain ⟨l3, h3⟩ : ∃ x, x = pv / 281474976710656 % 65536 := ⟨_, rfl⟩
  obtain ⟨l4, h4⟩ : ∃ x, x = pv / 18446744073709551616 % 65536 := ⟨_, rfl⟩
  obtain ⟨l5, h5⟩ : ∃ x, x = pv / 1208925819614629174706176 % 65536 := ⟨_, rfl⟩
  obtain ⟨l6, h6⟩ : ∃ x, x = pv / 79228162514264337593543950336 % 65536 := ⟨_, rfl⟩
  obtain ⟨l7, h7⟩ : ∃ x, x = pv / 5192296858534827628530496329220096 % 65536 := ⟨_, rfl⟩
  rw [← h0, ← h1, ← h2, ← h3, ← h4, ← h5, ← h6, ← h7] at HC
  rw [← h0, ← h1, ← h2, ← h3, ← h4, ← h5, ← h6, ← h7]
  clear h0 h1 h2 h3 h4 h5 h6 h7 hv1 hv2
  go_enter Try.func21, Try.ntmps21
  go_wp2_with fail
  generalize hW : World.alloc _ _ = W
  have b0 : W.heap[w.heap.size]? = some (.cells #[.int .i64 pt, .int .i64 pv, .int .i64 ps] 35 (0, 0)) := by
    subst hW
    have h0 := heap_alloc_new w (.cells #[.int .i64 pt, .int .i64 pv, .int .i64 ps] 35 (0, 0))
    exact ((((Ext.refl _).alloc _).block (block_lt h0)).trans h0)
  have b1 : Hid (W.heap[w.heap.size + 1]? = some arZ) := Lib.hid (by
    subst hW
    exact heap_alloc2 w _ _)
  have HXW : Hid (Ext w W) := Lib.hid (by subst hW; exact (((Ext.refl w).alloc _).alloc _))
  clear hW
  have f0 := cell_turned (T := fun _ => false) (show W.cell? ⟨w.heap.size, 0, none⟩ = some (.int .i64 pt) by have := cell_of_block b0 0; simpa using this) rfl
  have f1 := cell_turned (T := fun _ => false) (show W.cell? ⟨w.heap.size, 1, none⟩ = some (.int .i64 pv) by have := cell_of_block b0 1; simpa using this) rfl
  have f2 := cell_turned (T := fun _ => false) (show W.cell? ⟨w.heap.size, 2, none⟩ = some (.int .i64 ps) by have := cell_of_block b0 2; simpa using this) rfl
  clear b0
  refine wp_region_plan 9 (fun w' => ∃ p : Turned, w' = turned W (fun _ => false) p.d p.f p.os) (.reads [0, 1, 3, 4, 5, 6, 7, 8] (.one 2 (.one 9 (.one 10 .done)))) (by kernel_rfl) (by kernel_rfl) (fun _ _ dd _ _ hh => by cases dd <;> exact hh) ?_ ?_
  · exact turned_of_ext (Ext.drewN W 1)
  refine wpPlan_reads ?_
  simp only [pickOps, List.getElem?_cons_succ, List.getElem?_cons_zero]
  repeat (go_big_quiet_step (fail))
  refine wpQuiet_nil ?_
  clear f0 f1 f2
  refine wpPlan_one ?_
  simp only [pickOps, List.getElem?_cons_succ, List.getElem?_cons_zero]
  go_wp2_with fail
  refine (HC.out _).mono ?_
  rintro e w1 ⟨rfl, hx1⟩
  have HX1 := Lib.hid ((Ext.drewN W 1).trans hx1)
  clear hx1 HC
  go_wp2_with fail
  refine thenX_mk (turned_of_ext HX1.out) (wpPlan_one ?_)
  simp only [pickOps, List.getElem?_cons_succ, List.getElem?_cons_zero]
  go_wp2_with fail
  refine thenX_last (wpPlan_one ?_)
  simp only [pickOps, List.getElem?_cons_succ, List.getElem?_cons_zero]
  have B2 := Lib.hid ((HX1.out.block (block_lt b1.out)).trans b1.out)
  clear b1
  refine wpList_store_box rfl _ _ _ rfl _ _ _ _ rfl rfl B2.out rfl (by kernel_rfl) (by simp [Value.oneCell']) ?_
  rintro w2 hb2 hc2
  have HX2 := Lib.hid (((Chg.of_ext (HXW.out.trans HX1.out)).trans hc2 (fun _ _ e => e)).ext (fun i hi e => by omega))
  have HB2 := Lib.hid hb2
  clear hb2 hc2
  go_wp2_with fail
  refine thenX_last (wpPlan_done ?_)
  go_wp2_with fail
  exact bodyPost_ret (results_box Try.results21 _ _ rfl HB2.out Try.underlying66 rfl (by kernel_rfl)) rfl ⟨rfl, HX2.out⟩

theorem ordI_lt (p q : Pt) : ordI p q < 0 ↔ (p.t < q.t ∨ (p.t = q.t ∧ (p.s < q.s ∨ (p.s = q.s ∧ p.v < q.v)))) := by
  unfold ordI orL orL orL orL cmpI
  split <;> split <;> (try split) <;> (try split) <;> omega

theorem ordI_zero (p q : Pt) : ordI p q = 0 ↔ (p.t = q.t ∧ p.s = q.s ∧ p.v = q.v) := by
  unfold ordI orL orL orL orL cmpI
  split <;> split <;> (try split) <;> (try split) <;> omega

set_option maxHeartbeats 2000000 in
theorem ahead_any (p q : Pt) (w : World) : Calls Try.prog 42 #[p.val, q.val] w fun e w' => e = .returned (.bool (decide (ordI p q < 0))) ∧ Ext w w' := by
  have HO := Lib.hid (ordI_lt p q)
  obtain ⟨pt, pv, ps⟩ := p
  obtain ⟨qt, qv, qs⟩ := q
  simp only at HO
  obtain ⟨Z, hZ⟩ : ∃ Z, Z = ordI ⟨pt, pv, ps⟩ ⟨qt, qv, qs⟩ := ⟨_, rfl⟩
  rw [← hZ] at HO ⊢
  clear hZ
  unfold Pt.val
  by_cases h1 : pt = qt
  case' pos => by_cases h2 : ps = qs
  case' neg => skip
  all_goals
    go_enter Try.func42, Try.ntmps42
    go_wp2_with fail
    go_ret
    have h := HO.out
    refine ⟨congrArg Ending.returned (congrArg Value.bool (decide_eq_decide.2 (Iff.trans ?_ h.symm))), ((Ext.refl w).alloc _).alloc _⟩
    omega
end Go.Proofs.Ythnpchfcafaiiaa
