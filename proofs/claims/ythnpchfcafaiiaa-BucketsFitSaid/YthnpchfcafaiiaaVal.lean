/- aggr.Valid, where points have it. -/
import Derived.Test.YthnpchfcafaiiaaTms
import Derived.Test.YthnpchfcafaiiaaAgg
import Derived.Deep.DeepCutAuto
namespace Go.Proofs.Ythnpchfcafaiiaa
open Go.RowKit Go.Lib Go.Sort



set_option maxHeartbeats 1000000 in
set_option maxRecDepth 100000 in
theorem between_any (c : List Value) (gn gh gl gmn gmx gft gfv gfs glt glv gls : Int) (b : Bool) (x : Int) (w : World) (h1 : gmn ≤ x) (h2 : x ≤ gmx) :
    Calls Try.prog 44 #[.agg #[.int .i64 gn, .int .i64 gh, .int .u64 gl, .int .i64 gmn, .int .i64 gmx, .int .i64 gft, .int .i64 gfv, .int .i64 gfs, .int .i64 glt, .int .i64 glv, .int .i64 gls, .bool b], .int .i64 x] w fun e w' => e = .returned (.bool true) ∧ Ext w w' := by
  have hd1 : decide (gmn ≤ x) = true := by simp; omega
  have hd2 : decide (x ≤ gmx) = true := by simp; omega
  go_enter Try.func44, Try.ntmps44
  go_wp2_with fail
  go_ret
  exact ⟨rfl, (Ext.refl w).alloc _⟩

/-- Points have it. -/
structure Had (g : Ag) : Prop where
  n1 : 1 ≤ g.n
  n2 : g.n ≤ 1000000
  mn1 : -9223372036854775808 ≤ g.mn
  mm : g.mn ≤ g.mx
  mx2 : g.mx ≤ 9223372036854775807
  f1 : g.mn ≤ g.f.v
  f2 : g.f.v ≤ g.mx
  l1 : g.mn ≤ g.l.v
  l2 : g.l.v ≤ g.mx
  ord : ¬ ordI g.l g.f < 0
  s1 : g.mn * g.n ≤ g.s
  s2 : g.s ≤ g.mx * g.n
  one : 1 < g.n ∨ (g.f = g.l ∧ g.mn = g.mx)

set_option maxHeartbeats 8000000 in
set_option maxRecDepth 100000 in
theorem valid_ok (g : Ag) (w : World) (H : Had g) :
    Calls Try.prog 27 #[g.val] w fun e w' => e = .returned (.bool true) ∧ Ext w w' := by
  obtain ⟨gn, gs, gmn, gmx, ⟨gft, gfv, gfs⟩, ⟨glt, glv, gls⟩⟩ := g
  obtain ⟨n1, n2, mn1, mm, mx2, fv1, fv2, lv1, lv2, ord, s1, s2, one⟩ := H
  simp only at n1 n2 mn1 mm mx2 fv1 fv2 lv1 lv2 ord s1 s2 one
  unfold Ag.val
  simp only
  have b1 : -9223372036854775808000000 ≤ gmn * gn := by
    have h1 : -9223372036854775808 * gn ≤ gmn * gn := Int.mul_le_mul_of_nonneg_right mn1 (by omega)
    omega
  have b2 : gmx * gn ≤ 9223372036854775807000000 := by
    have h1 : gmx * gn ≤ 9223372036854775807 * gn := Int.mul_le_mul_of_nonneg_right mx2 (by omega)
    omega
  have hsl : sumOk (gmn * gn) := by unfold sumOk; omega
  have hsh : sumOk (gmx * gn) := by unfold sumOk; omega
  have hss : sumOk gs := by unfold sumOk; omega
  have HOF6 := Lib.hid (fun W => wideOf_any gmn W (by omega) (by omega))
  have HOF7 := Lib.hid (fun W => wideOf_any gmx W (by omega) (by omega))
  have HTI6 := Lib.hid (fun W => wtimes_any gmn gn W (by omega) (by omega) n1 n2)
  have HTI7 := Lib.hid (fun W => wtimes_any gmx gn W (by omega) (by omega) n1 n2)
  have HC1 := Lib.hid (fun W => (wcmp_any gs (gmn * gn) W))
  have HC2 := Lib.hid (fun W => (wcmp_any gs (gmx * gn) W))
  obtain ⟨r1, hr1, hr1'⟩ : ∃ r, r = cmpI gs (gmn * gn) ∧ ¬ r < 0 := ⟨_, rfl, by unfold cmpI; split <;> (try split) <;> omega⟩
  obtain ⟨r2, hr2, hr2'⟩ : ∃ r, r = cmpI gs (gmx * gn) ∧ ¬ 0 < r := ⟨_, rfl, by unfold cmpI; split <;> (try split) <;> omega⟩
  rw [← hr1] at HC1
  rw [← hr2] at HC2
  unfold sumV at HOF6 HOF7 HTI6 HTI7 HC1 HC2
  obtain ⟨gh, hgh⟩ : ∃ x, x = gs / 18446744073709551616 := ⟨_, rfl⟩
  obtain ⟨gl, hgl⟩ : ∃ x, x = gs % 18446744073709551616 := ⟨_, rfl⟩
  obtain ⟨ph, hph⟩ : ∃ x, x = gmn * gn / 18446744073709551616 := ⟨_, rfl⟩
  obtain ⟨pl, hpl⟩ : ∃ x, x = gmn * gn % 18446744073709551616 := ⟨_, rfl⟩
  obtain ⟨qh, hqh⟩ : ∃ x, x = gmx * gn / 18446744073709551616 := ⟨_, rfl⟩
  obtain ⟨ql, hql⟩ : ∃ x, x = gmx * gn % 18446744073709551616 := ⟨_, rfl⟩
  obtain ⟨oh, hoh⟩ : ∃ x, x = gmn / 18446744073709551616 := ⟨_, rfl⟩
  obtain ⟨ol, hol⟩ : ∃ x, x = gmn % 18446744073709551616 := ⟨_, rfl⟩
  obtain ⟨uh, huh⟩ : ∃ x, x = gmx / 18446744073709551616 := ⟨_, rfl⟩
  obtain ⟨ul, hul⟩ : ∃ x, x = gmx % 18446744073709551616 := ⟨_, rfl⟩
  rw [← hgh, ← hgl, ← hph, ← hpl] at HC1
  rw [← hgh, ← hgl, ← hqh, ← hql] at HC2
  rw [← hoh, ← hol] at HOF6
  rw [← huh, ← hul] at HOF7
  rw [← hoh, ← hol, ← hph, ← hpl] at HTI6
  rw [← huh, ← hul, ← hqh, ← hql] at HTI7
  rw [← hgh, ← hgl]
  have HORD := Lib.hid (fun W => order_any ⟨glt, glv, gls⟩ ⟨gft, gfv, gfs⟩ W)
  unfold Pt.val at HORD
  simp only at HORD
  obtain ⟨oo, hoo⟩ : ∃ x, x = ordI ⟨glt, glv, gls⟩ ⟨gft, gfv, gfs⟩ := ⟨_, rfl⟩
  rw [← hoo] at HORD ord
  have HBT := Lib.hid (fun (x : Int) (h1 : gmn ≤ x) (h2 : x ≤ gmx) W => between_any [] gn gh gl gmn gmx gft gfv gfs glt glv gls true x W h1 h2)
  have HONE := Lib.hid one
  have hd0 : (gn == 0) = false := by simp; omega
  have hd1 : decide (0 < gn) = true := by simp; omega
  have hd2 : decide (gn ≤ 4611686018427387904) = true := by simp; omega
  have hd3 : decide (gmn ≤ gmx) = true := by simp; omega
  have hd4 : decide (oo < 0) = false := by simp; omega
  have hd5 : decide (r1 < 0) = false := by simp; omega
  have hd6 : decide (0 < r2) = false := by simp; omega
  clear hr1 hr2 hgh hgl hph hpl hqh hql hoh hol huh hul hoo one b1 b2 hsl hsh hss s1 s2
  go_enter Try.func27, Try.ntmps27
  go_upto_region 4 with fail
  obtain ⟨bl, hbl⟩ : ∃ bl, bl = w.heap.size + 1 := ⟨_, rfl⟩
  obtain ⟨W, hW⟩ : ∃ W, W = (w.alloc (.cells #[.int .i64 gn, .int .i64 gh, .int .u64 gl, .int .i64 gmn, .int .i64 gmx, .int .i64 gft, .int .i64 gfv, .int .i64 gfs, .int .i64 glt, .int .i64 glv, .int .i64 gls] 48 (0, 0))).alloc (.cells #[.int .i64 gn, .int .i64 gh, .int .u64 gl, .int .i64 gmn, .int .i64 gmx, .int .i64 gft, .int .i64 gfv, .int .i64 gfs, .int .i64 glt, .int .i64 glv, .int .i64 gls, .bool true] 102 (0, 0)) := ⟨_, rfl⟩
  have HXW : Hid (Ext w W) := Lib.hid (by rw [hW]; exact ((Ext.refl w).alloc _).alloc _)
  have HW : Hid (W.heap[bl]? = some (.cells #[.int .i64 gn, .int .i64 gh, .int .u64 gl, .int .i64 gmn, .int .i64 gmx, .int .i64 gft, .int .i64 gfv, .int .i64 gfs, .int .i64 glt, .int .i64 glv, .int .i64 gls, .bool true] 102 (0, 0))) := Lib.hid (by rw [hW, hbl]; exact heap_alloc2 w _ _)
  rw [← hW, ← hbl]
  clear hW hbl
  have c0 : W.cell? ⟨bl, 0, none⟩ = some (.int .i64 gn) := by have := cell_of_block HW.out 0; simpa using this
  have c1 : W.cell? ⟨bl, 1, none⟩ = some (.int .i64 gh) := by have := cell_of_block HW.out 1; simpa using this
  have c2 : W.cell? ⟨bl, 2, none⟩ = some (.int .u64 gl) := by have := cell_of_block HW.out 2; simpa using this
  have c3 : W.cell? ⟨bl, 3, none⟩ = some (.int .i64 gmn) := by have := cell_of_block HW.out 3; simpa using this
  have c4 : W.cell? ⟨bl, 4, none⟩ = some (.int .i64 gmx) := by have := cell_of_block HW.out 4; simpa using this
  have c5 : W.cell? ⟨bl, 5, none⟩ = some (.int .i64 gft) := by have := cell_of_block HW.out 5; simpa using this
  have c6 : W.cell? ⟨bl, 6, none⟩ = some (.int .i64 gfv) := by have := cell_of_block HW.out 6; simpa using this
  have c7 : W.cell? ⟨bl, 7, none⟩ = some (.int .i64 gfs) := by have := cell_of_block HW.out 7; simpa using this
  have c8 : W.cell? ⟨bl, 8, none⟩ = some (.int .i64 glt) := by have := cell_of_block HW.out 8; simpa using this
  have c9 : W.cell? ⟨bl, 9, none⟩ = some (.int .i64 glv) := by have := cell_of_block HW.out 9; simpa using this
  have c10 : W.cell? ⟨bl, 10, none⟩ = some (.int .i64 gls) := by have := cell_of_block HW.out 10; simpa using this
  have c11 : W.cell? ⟨bl, 11, none⟩ = some (.bool true) := by have := cell_of_block HW.out 11; simpa using this
  go_wp2_with fail
  refine (HBT.out _ fv1 fv2 _).mono ?_
  rintro e w1 ⟨rfl, hx1⟩
  have HX1 := Lib.hid (HXW.out.trans hx1)
  have H1 := Lib.hid ((hx1.block (block_lt HW.out)).trans HW.out)
  clear hx1
  clear c0 c1 c2 c3 c4 c5 c6 c7 c8 c9 c10 c11
  have c0 : w1.cell? ⟨bl, 0, none⟩ = some (.int .i64 gn) := by have := cell_of_block H1.out 0; simpa using this
  have c1 : w1.cell? ⟨bl, 1, none⟩ = some (.int .i64 gh) := by have := cell_of_block H1.out 1; simpa using this
  have c2 : w1.cell? ⟨bl, 2, none⟩ = some (.int .u64 gl) := by have := cell_of_block H1.out 2; simpa using this
  have c3 : w1.cell? ⟨bl, 3, none⟩ = some (.int .i64 gmn) := by have := cell_of_block H1.out 3; simpa using this
  have c4 : w1.cell? ⟨bl, 4, none⟩ = some (.int .i64 gmx) := by have := cell_of_block H1.out 4; simpa using this
  have c5 : w1.cell? ⟨bl, 5, none⟩ = some (.int .i64 gft) := by have := cell_of_block H1.out 5; simpa using this
  have c6 : w1.cell? ⟨bl, 6, none⟩ = some (.int .i64 gfv) := by have := cell_of_block H1.out 6; simpa using this
  have c7 : w1.cell? ⟨bl, 7, none⟩ = some (.int .i64 gfs) := by have := cell_of_block H1.out 7; simpa using this
  have c8 : w1.cell? ⟨bl, 8, none⟩ = some (.int .i64 glt) := by have := cell_of_block H1.out 8; simpa using this
  have c9 : w1.cell? ⟨bl, 9, none⟩ = some (.int .i64 glv) := by have := cell_of_block H1.out 9; simpa using this
  have c10 : w1.cell? ⟨bl, 10, none⟩ = some (.int .i64 gls) := by have := cell_of_block H1.out 10; simpa using this
  have c11 : w1.cell? ⟨bl, 11, none⟩ = some (.bool true) := by have := cell_of_block H1.out 11; simpa using this
  go_wp2_with fail
  refine (HBT.out _ lv1 lv2 _).mono ?_
  rintro e w2 ⟨rfl, hx2⟩
  have HX2 := Lib.hid (HX1.out.trans hx2)
  have H2 := Lib.hid ((hx2.block (block_lt H1.out)).trans H1.out)
  clear hx2
  clear c0 c1 c2 c3 c4 c5 c6 c7 c8 c9 c10 c11
  have c0 : w2.cell? ⟨bl, 0, none⟩ = some (.int .i64 gn) := by have := cell_of_block H2.out 0; simpa using this
  have c1 : w2.cell? ⟨bl, 1, none⟩ = some (.int .i64 gh) := by have := cell_of_block H2.out 1; simpa using this
  have c2 : w2.cell? ⟨bl, 2, none⟩ = some (.int .u64 gl) := by have := cell_of_block H2.out 2; simpa using this
  have c3 : w2.cell? ⟨bl, 3, none⟩ = some (.int .i64 gmn) := by have := cell_of_block H2.out 3; simpa using this
  have c4 : w2.cell? ⟨bl, 4, none⟩ = some (.int .i64 gmx) := by have := cell_of_block H2.out 4; simpa using this
  have c5 : w2.cell? ⟨bl, 5, none⟩ = some (.int .i64 gft) := by have := cell_of_block H2.out 5; simpa using this
  have c6 : w2.cell? ⟨bl, 6, none⟩ = some (.int .i64 gfv) := by have := cell_of_block H2.out 6; simpa using this
  have c7 : w2.cell? ⟨bl, 7, none⟩ = some (.int .i64 gfs) := by have := cell_of_block H2.out 7; simpa using this
  have c8 : w2.cell? ⟨bl, 8, none⟩ = some (.int .i64 glt) := by have := cell_of_block H2.out 8; simpa using this
  have c9 : w2.cell? ⟨bl, 9, none⟩ = some (.int .i64 glv) := by have := cell_of_block H2.out 9; simpa using this
  have c10 : w2.cell? ⟨bl, 10, none⟩ = some (.int .i64 gls) := by have := cell_of_block H2.out 10; simpa using this
  have c11 : w2.cell? ⟨bl, 11, none⟩ = some (.bool true) := by have := cell_of_block H2.out 11; simpa using this
  go_wp2_with fail
  refine (HORD.out _).mono ?_
  rintro e w3 ⟨rfl, hx3⟩
  have HX3 := Lib.hid (HX2.out.trans hx3)
  have H3 := Lib.hid ((hx3.block (block_lt H2.out)).trans H2.out)
  clear hx3
  clear c0 c1 c2 c3 c4 c5 c6 c7 c8 c9 c10 c11
  go_upto_region 6 with fail
  obtain ⟨w1, hbw⟩ : ∃ w1, w1 = w3 := ⟨_, rfl⟩
  rw [← hbw] at H3 HX3 ⊢
  clear hbw
  go_cut [4, 5] (fun s4 s5 wx => ∃ bz : Nat, s4 = .pointer (some ⟨bz, 0, none⟩) ∧ s5 = .bool true ∧ Hid (wx.heap[bz]? = some (.cells #[.int .i64 ph, .int .u64 pl] 46 (0, 0))) ∧ Hid (Ext w1 wx))
  case first =>
      have HBL := H3
      have f0 := cell_turned (T := fun _ => false) (show w1.cell? ⟨bl, 0, none⟩ = some (.int .i64 gn) by have := cell_of_block HBL.out 0; simpa using this) rfl
      have f1 := cell_turned (T := fun _ => false) (show w1.cell? ⟨bl, 3, none⟩ = some (.int .i64 gmn) by have := cell_of_block HBL.out 3; simpa using this) rfl
      refine wp_region_plan 13 (fun w' => ∃ p : Turned, w' = turned w1 (fun _ => false) p.d p.f p.os) (.reads [0, 1, 2, 4, 5, 6] (.two 3 (.two 7 (.reads [8, 9, 10] (.one 11 (.one 12 (.one 13 .done)))) 11 (.one 7 (.reads [8, 9, 10] (.one 12 (.one 13 .done))))) 11 (.one 3 (.one 7 (.reads [8, 9, 10] (.one 12 (.one 13 .done))))))) (by kernel_rfl) (by kernel_rfl) (fun _ _ dd _ _ hh => by cases dd <;> exact hh) ?_ ?_
      · exact turned_of_ext (Ext.drewN w1 1)
      refine wpPlan_reads ?_
      simp only [pickOps, List.getElem?_cons_succ, List.getElem?_cons_zero]
      repeat (go_big_quiet_step (fail))
      refine wpQuiet_nil ?_
      clear f0 f1
      refine wpPlan_two ?goA6 ?goB6
      case' goA6 =>
        simp only [pickOps, List.getElem?_cons_succ, List.getElem?_cons_zero]
        go_wp2_with fail
        refine (HOF6.out _).mono ?_
        rintro e w9 ⟨rfl, hx9⟩
        have HX9 := Lib.hid ((Ext.drewN w1 1).trans hx9)
        clear hx9
        go_wp2_with fail
        refine thenX_mk (turned_of_ext HX9.out) (wpPlan_two ?goC6 ?goD6)
      case' goC6 =>
        simp only [pickOps, List.getElem?_cons_succ, List.getElem?_cons_zero]
        go_wp2_with fail
        refine (HTI6.out _).mono ?_
        rintro e w10 ⟨rfl, hx10⟩
        have HX10 := Lib.hid (HX9.out.trans hx10)
        clear hx10
        go_wp2_with fail
        refine thenX_mk (turned_of_ext HX10.out) (wpPlan_reads ?_)
        simp only [pickOps, List.getElem?_cons_succ, List.getElem?_cons_zero]
        repeat (go_big_quiet_step (fail))
        refine wpQuiet_nil ?_
        refine wpPlan_one ?_
        simp only [pickOps, List.getElem?_cons_succ, List.getElem?_cons_zero]
        go_wp2_with fail
        refine thenX_mk (turned_of_ext (HX10.out.alloc _)) (wpPlan_one ?_)
        simp only [pickOps, List.getElem?_cons_succ, List.getElem?_cons_zero]
        obtain ⟨bz, hbz⟩ : ∃ bz, bz = w10.heap.size := ⟨_, rfl⟩
        have HB4 := Lib.hid (heap_alloc_new w10 (.cells #[.int .i64 0, .int .u64 0] 46 (0, 0)))
        have HX5 : Hid (Ext w1 (w10.alloc (.cells #[.int .i64 0, .int .u64 0] 46 (0, 0)))) := Lib.hid (HX10.out.alloc _)
        have HBZ : Hid (w1.heap.size ≤ bz) := Lib.hid (by rw [hbz]; exact HX10.out.size)
        rw [← hbz] at HB4
        rw [← hbz]
        generalize w10.alloc (.cells #[.int .i64 0, .int .u64 0] 46 (0, 0)) = w5 at *
        clear HX9 HX10 hbz
      case' goD6 =>
        simp only [pickOps, List.getElem?_cons_succ, List.getElem?_cons_zero]
        go_wp2_with fail
        obtain ⟨bz, hbz⟩ : ∃ bz, bz = w9.heap.size := ⟨_, rfl⟩
        refine thenX_mk (turned_of_ext (HX9.out.alloc _)) (wpPlan_one ?_)
        simp only [pickOps, List.getElem?_cons_succ, List.getElem?_cons_zero]
        go_wp2_with fail
        refine (HTI6.out _).mono ?_
        rintro e w5 ⟨rfl, hx4⟩
        have HX5 : Hid (Ext w1 w5) := Lib.hid ((HX9.out.alloc _).trans hx4)
        have HBZ : Hid (w1.heap.size ≤ bz) := Lib.hid (by rw [hbz]; exact HX9.out.size)
        have HB4 : Hid (w5.heap[bz]? = some (.cells #[.int .i64 0, .int .u64 0] 46 (0, 0))) := Lib.hid (by
          rw [hbz]
          have h0 := heap_alloc_new w9 (.cells #[.int .i64 0, .int .u64 0] 46 (0, 0))
          exact (hx4.block (block_lt h0)).trans h0)
        clear hx4
        go_wp2_with fail
        refine thenX_mk (turned_of_ext HX5.out) (wpPlan_reads ?_)
        simp only [pickOps, List.getElem?_cons_succ, List.getElem?_cons_zero]
        repeat (go_big_quiet_step (fail))
        refine wpQuiet_nil ?_
        refine wpPlan_one ?_
        simp only [pickOps, List.getElem?_cons_succ, List.getElem?_cons_zero]
        rw [← hbz]
        clear HX9 hbz
      case' goB6 =>
        simp only [pickOps, List.getElem?_cons_succ, List.getElem?_cons_zero]
        go_wp2_with fail
        obtain ⟨bz, hbz⟩ : ∃ bz, bz = w1.heap.size := ⟨_, rfl⟩
        refine thenX_mk (turned_of_ext ((Ext.drewN w1 1).alloc _)) (wpPlan_one ?_)
        simp only [pickOps, List.getElem?_cons_succ, List.getElem?_cons_zero]
        go_wp2_with fail
        refine (HOF6.out _).mono ?_
        rintro e w9 ⟨rfl, hx9⟩
        have HX9 := Lib.hid (((Ext.drewN w1 1).alloc _).trans hx9)
        have HB9 : Hid (w9.heap[bz]? = some (.cells #[.int .i64 0, .int .u64 0] 46 (0, 0))) := Lib.hid (by
          rw [hbz]
          have h0 := heap_alloc_new (w1.drewN 1) (.cells #[.int .i64 0, .int .u64 0] 46 (0, 0))
          exact (hx9.block (block_lt h0)).trans h0)
        clear hx9
        go_wp2_with fail
        refine thenX_mk (turned_of_ext HX9.out) (wpPlan_one ?_)
        simp only [pickOps, List.getElem?_cons_succ, List.getElem?_cons_zero]
        go_wp2_with fail
        refine (HTI6.out _).mono ?_
        rintro e w5 ⟨rfl, hx4⟩
        have HX5 : Hid (Ext w1 w5) := Lib.hid (HX9.out.trans hx4)
        have HBZ : Hid (w1.heap.size ≤ bz) := Lib.hid (by rw [hbz]; exact Nat.le_refl _)
        have HB4 : Hid (w5.heap[bz]? = some (.cells #[.int .i64 0, .int .u64 0] 46 (0, 0))) := Lib.hid ((hx4.block (block_lt HB9.out)).trans HB9.out)
        clear hx4
        go_wp2_with fail
        refine thenX_mk (turned_of_ext HX5.out) (wpPlan_reads ?_)
        simp only [pickOps, List.getElem?_cons_succ, List.getElem?_cons_zero]
        repeat (go_big_quiet_step (fail))
        refine wpQuiet_nil ?_
        refine wpPlan_one ?_
        simp only [pickOps, List.getElem?_cons_succ, List.getElem?_cons_zero]
        rw [← hbz]
        clear HX9 HB9 hbz
      all_goals
        refine wpList_store_box rfl _ _ _ rfl _ _ _ _ rfl rfl HB4.out rfl sum_info (by simp [Value.oneCell']) ?_
        rintro w6 hb6 hc6
        have HB6 := Lib.hid hb6
        have HX6 : Hid (Ext w1 w6) := Lib.hid (((Chg.of_ext (S := fun _ => False) HX5.out).trans hc6 (fun i hi e => by have := HBZ.out; omega)).ext (fun _ _ e => e))
        clear hb6 hc6 HX5 HB4
        go_wp2_with fail
        refine thenX_mk (turned_of_ext HX6.out) (wpPlan_one ?_)
        simp only [pickOps, List.getElem?_cons_succ, List.getElem?_cons_zero]
        go_wp2_with fail
        refine thenX_last (wpPlan_done ?_)
        go_wp2_with fail
        go_meet
        exact ⟨bz, rfl, rfl, HB6, HX6⟩
  case rest =>
    obtain ⟨bz, rfl, rfl, HZ, HX4⟩ := hcut
    have H4 := Lib.hid ((HX4.out.block (block_lt H3.out)).trans H3.out)
    have HXA := Lib.hid (HX3.out.trans HX4.out)
    clear H3 HX3 HX4
    obtain ⟨w1, hbw⟩ : ∃ w1, w1 = wc := ⟨_, rfl⟩
    rw [← hbw] at H4 HXA HZ ⊢
    clear hbw
    go_upto_region 7 with fail
    go_cut [6, 7] (fun s6 s7 wx => ∃ by2 : Nat, s6 = .pointer (some ⟨by2, 0, none⟩) ∧ s7 = .bool true ∧ Hid (wx.heap[by2]? = some (.cells #[.int .i64 qh, .int .u64 ql] 46 (0, 0))) ∧ Hid (Ext w1 wx))
    case first =>
      have HBL := H4
      have f0 := cell_turned (T := fun _ => false) (show w1.cell? ⟨bl, 0, none⟩ = some (.int .i64 gn) by have := cell_of_block HBL.out 0; simpa using this) rfl
      have f1 := cell_turned (T := fun _ => false) (show w1.cell? ⟨bl, 4, none⟩ = some (.int .i64 gmx) by have := cell_of_block HBL.out 4; simpa using this) rfl
      refine wp_region_plan 13 (fun w' => ∃ p : Turned, w' = turned w1 (fun _ => false) p.d p.f p.os) (.reads [0, 1, 2, 4, 5, 6] (.two 3 (.two 7 (.reads [8, 9, 10] (.one 11 (.one 12 (.one 13 .done)))) 11 (.one 7 (.reads [8, 9, 10] (.one 12 (.one 13 .done))))) 11 (.one 3 (.one 7 (.reads [8, 9, 10] (.one 12 (.one 13 .done))))))) (by kernel_rfl) (by kernel_rfl) (fun _ _ dd _ _ hh => by cases dd <;> exact hh) ?_ ?_
      · exact turned_of_ext (Ext.drewN w1 1)
      refine wpPlan_reads ?_
      simp only [pickOps, List.getElem?_cons_succ, List.getElem?_cons_zero]
      repeat (go_big_quiet_step (fail))
      refine wpQuiet_nil ?_
      clear f0 f1
      refine wpPlan_two ?goA7 ?goB7
      case' goA7 =>
        simp only [pickOps, List.getElem?_cons_succ, List.getElem?_cons_zero]
        go_wp2_with fail
        refine (HOF7.out _).mono ?_
        rintro e w9 ⟨rfl, hx9⟩
        have HX9 := Lib.hid ((Ext.drewN w1 1).trans hx9)
        clear hx9
        go_wp2_with fail
        refine thenX_mk (turned_of_ext HX9.out) (wpPlan_two ?goC7 ?goD7)
      case' goC7 =>
        simp only [pickOps, List.getElem?_cons_succ, List.getElem?_cons_zero]
        go_wp2_with fail
        refine (HTI7.out _).mono ?_
        rintro e w10 ⟨rfl, hx10⟩
        have HX10 := Lib.hid (HX9.out.trans hx10)
        clear hx10
        go_wp2_with fail
        refine thenX_mk (turned_of_ext HX10.out) (wpPlan_reads ?_)
        simp only [pickOps, List.getElem?_cons_succ, List.getElem?_cons_zero]
        repeat (go_big_quiet_step (fail))
        refine wpQuiet_nil ?_
        refine wpPlan_one ?_
        simp only [pickOps, List.getElem?_cons_succ, List.getElem?_cons_zero]
        go_wp2_with fail
        refine thenX_mk (turned_of_ext (HX10.out.alloc _)) (wpPlan_one ?_)
        simp only [pickOps, List.getElem?_cons_succ, List.getElem?_cons_zero]
        obtain ⟨bz, hbz⟩ : ∃ bz, bz = w10.heap.size := ⟨_, rfl⟩
        have HB4 := Lib.hid (heap_alloc_new w10 (.cells #[.int .i64 0, .int .u64 0] 46 (0, 0)))
        have HX5 : Hid (Ext w1 (w10.alloc (.cells #[.int .i64 0, .int .u64 0] 46 (0, 0)))) := Lib.hid (HX10.out.alloc _)
        have HBZ : Hid (w1.heap.size ≤ bz) := Lib.hid (by rw [hbz]; exact HX10.out.size)
        rw [← hbz] at HB4
        rw [← hbz]
        generalize w10.alloc (.cells #[.int .i64 0, .int .u64 0] 46 (0, 0)) = w5 at *
        clear HX9 HX10 hbz
      case' goD7 =>
        simp only [pickOps, List.getElem?_cons_succ, List.getElem?_cons_zero]
        go_wp2_with fail
        obtain ⟨bz, hbz⟩ : ∃ bz, bz = w9.heap.size := ⟨_, rfl⟩
        refine thenX_mk (turned_of_ext (HX9.out.alloc _)) (wpPlan_one ?_)
        simp only [pickOps, List.getElem?_cons_succ, List.getElem?_cons_zero]
        go_wp2_with fail
        refine (HTI7.out _).mono ?_
        rintro e w5 ⟨rfl, hx4⟩
        have HX5 : Hid (Ext w1 w5) := Lib.hid ((HX9.out.alloc _).trans hx4)
        have HBZ : Hid (w1.heap.size ≤ bz) := Lib.hid (by rw [hbz]; exact HX9.out.size)
        have HB4 : Hid (w5.heap[bz]? = some (.cells #[.int .i64 0, .int .u64 0] 46 (0, 0))) := Lib.hid (by
          rw [hbz]
          have h0 := heap_alloc_new w9 (.cells #[.int .i64 0, .int .u64 0] 46 (0, 0))
          exact (hx4.block (block_lt h0)).trans h0)
        clear hx4
        go_wp2_with fail
        refine thenX_mk (turned_of_ext HX5.out) (wpPlan_reads ?_)
        simp only [pickOps, List.getElem?_cons_succ, List.getElem?_cons_zero]
        repeat (go_big_quiet_step (fail))
        refine wpQuiet_nil ?_
        refine wpPlan_one ?_
        simp only [pickOps, List.getElem?_cons_succ, List.getElem?_cons_zero]
        rw [← hbz]
        clear HX9 hbz
      case' goB7 =>
        simp only [pickOps, List.getElem?_cons_succ, List.getElem?_cons_zero]
        go_wp2_with fail
        obtain ⟨bz, hbz⟩ : ∃ bz, bz = w1.heap.size := ⟨_, rfl⟩
        refine thenX_mk (turned_of_ext ((Ext.drewN w1 1).alloc _)) (wpPlan_one ?_)
        simp only [pickOps, List.getElem?_cons_succ, List.getElem?_cons_zero]
        go_wp2_with fail
        refine (HOF7.out _).mono ?_
        rintro e w9 ⟨rfl, hx9⟩
        have HX9 := Lib.hid (((Ext.drewN w1 1).alloc _).trans hx9)
        have HB9 : Hid (w9.heap[bz]? = some (.cells #[.int .i64 0, .int .u64 0] 46 (0, 0))) := Lib.hid (by
          rw [hbz]
          have h0 := heap_alloc_new (w1.drewN 1) (.cells #[.int .i64 0, .int .u64 0] 46 (0, 0))
          exact (hx9.block (block_lt h0)).trans h0)
        clear hx9
        go_wp2_with fail
        refine thenX_mk (turned_of_ext HX9.out) (wpPlan_one ?_)
        simp only [pickOps, List.getElem?_cons_succ, List.getElem?_cons_zero]
        go_wp2_with fail
        refine (HTI7.out _).mono ?_
        rintro e w5 ⟨rfl, hx4⟩
        have HX5 : Hid (Ext w1 w5) := Lib.hid (HX9.out.trans hx4)
        have HBZ : Hid (w1.heap.size ≤ bz) := Lib.hid (by rw [hbz]; exact Nat.le_refl _)
        have HB4 : Hid (w5.heap[bz]? = some (.cells #[.int .i64 0, .int .u64 0] 46 (0, 0))) := Lib.hid ((hx4.block (block_lt HB9.out)).trans HB9.out)
        clear hx4
        go_wp2_with fail
        refine thenX_mk (turned_of_ext HX5.out) (wpPlan_reads ?_)
        simp only [pickOps, List.getElem?_cons_succ, List.getElem?_cons_zero]
        repeat (go_big_quiet_step (fail))
        refine wpQuiet_nil ?_
        refine wpPlan_one ?_
        simp only [pickOps, List.getElem?_cons_succ, List.getElem?_cons_zero]
        rw [← hbz]
        clear HX9 HB9 hbz
      all_goals
        refine wpList_store_box rfl _ _ _ rfl _ _ _ _ rfl rfl HB4.out rfl sum_info (by simp [Value.oneCell']) ?_
        rintro w6 hb6 hc6
        have HB6 := Lib.hid hb6
        have HX6 : Hid (Ext w1 w6) := Lib.hid (((Chg.of_ext (S := fun _ => False) HX5.out).trans hc6 (fun i hi e => by have := HBZ.out; omega)).ext (fun _ _ e => e))
        clear hb6 hc6 HX5 HB4
        go_wp2_with fail
        refine thenX_mk (turned_of_ext HX6.out) (wpPlan_one ?_)
        simp only [pickOps, List.getElem?_cons_succ, List.getElem?_cons_zero]
        go_wp2_with fail
        refine thenX_last (wpPlan_done ?_)
        go_wp2_with fail
        go_meet
        exact ⟨bz, rfl, rfl, HB6, HX6⟩
    case rest =>
      obtain ⟨by2, rfl, rfl, HY, HX5⟩ := hcut
      have H5 := Lib.hid ((HX5.out.block (block_lt H4.out)).trans H4.out)
      have HZ5 := Lib.hid ((HX5.out.block (block_lt HZ.out)).trans HZ.out)
      have HXB := Lib.hid (HXA.out.trans HX5.out)
      clear H4 HXA HX5 HZ
      have c1 : wc.cell? ⟨bl, 1, none⟩ = some (.int .i64 gh) := by have := cell_of_block H5.out 1; simpa using this
      have c2 : wc.cell? ⟨bl, 2, none⟩ = some (.int .u64 gl) := by have := cell_of_block H5.out 2; simpa using this
      have z0 : wc.cell? ⟨bz, 0, none⟩ = some (.int .i64 ph) := by have := cell_of_block HZ5.out 0; simpa using this
      have z1 : wc.cell? ⟨bz, 1, none⟩ = some (.int .u64 pl) := by have := cell_of_block HZ5.out 1; simpa using this
      go_wp2_with fail
      refine (HC1.out _).mono ?_
      rintro e w5 ⟨rfl, hx5⟩
      have H6 := Lib.hid ((hx5.block (block_lt H5.out)).trans H5.out)
      have HY6 := Lib.hid ((hx5.block (block_lt HY.out)).trans HY.out)
      have HXC := Lib.hid (HXB.out.trans hx5)
      clear hx5 c1 c2 z0 z1
      have c1 : w5.cell? ⟨bl, 1, none⟩ = some (.int .i64 gh) := by have := cell_of_block H6.out 1; simpa using this
      have c2 : w5.cell? ⟨bl, 2, none⟩ = some (.int .u64 gl) := by have := cell_of_block H6.out 2; simpa using this
      have z0 : w5.cell? ⟨by2, 0, none⟩ = some (.int .i64 qh) := by have := cell_of_block HY6.out 0; simpa using this
      have z1 : w5.cell? ⟨by2, 1, none⟩ = some (.int .u64 ql) := by have := cell_of_block HY6.out 1; simpa using this
      go_wp2_with fail
      refine (HC2.out _).mono ?_
      rintro e w6 ⟨rfl, hx6⟩
      have H7 := Lib.hid ((hx6.block (block_lt H6.out)).trans H6.out)
      have HXD := Lib.hid (HXC.out.trans hx6)
      clear hx6 c1 c2 z0 z1 H5 H6
      rcases HONE.out with h1 | ⟨h1, h2⟩
      · have hdn : decide (1 < gn) = true := by simp; omega
        have c0 : w6.cell? ⟨bl, 0, none⟩ = some (.int .i64 gn) := by have := cell_of_block H7.out 0; simpa using this
        go_wp2_with fail
        go_ret
        exact ⟨rfl, HXD.out⟩
      · by_cases h3 : 1 < gn
        · have hdn : decide (1 < gn) = true := by simp; omega
          have c0 : w6.cell? ⟨bl, 0, none⟩ = some (.int .i64 gn) := by have := cell_of_block H7.out 0; simpa using this
          clear h1 h2
          go_wp2_with fail
          go_ret
          exact ⟨rfl, HXD.out⟩
        · have hdn : decide (1 < gn) = false := by simp; omega
          simp only [Pt.mk.injEq] at h1
          obtain ⟨rfl, rfl, rfl⟩ := h1
          subst h2
          have c0 : w6.cell? ⟨bl, 0, none⟩ = some (.int .i64 gn) := by have := cell_of_block H7.out 0; simpa using this
          have c3 : w6.cell? ⟨bl, 3, none⟩ = some (.int .i64 gmn) := by have := cell_of_block H7.out 3; simpa using this
          have c4 : w6.cell? ⟨bl, 4, none⟩ = some (.int .i64 gmn) := by have := cell_of_block H7.out 4; simpa using this
          have c5 : w6.cell? ⟨bl, 5, none⟩ = some (.int .i64 gft) := by have := cell_of_block H7.out 5; simpa using this
          have c6 : w6.cell? ⟨bl, 6, none⟩ = some (.int .i64 gfv) := by have := cell_of_block H7.out 6; simpa using this
          have c7 : w6.cell? ⟨bl, 7, none⟩ = some (.int .i64 gfs) := by have := cell_of_block H7.out 7; simpa using this
          have c8 : w6.cell? ⟨bl, 8, none⟩ = some (.int .i64 gft) := by have := cell_of_block H7.out 8; simpa using this
          have c9 : w6.cell? ⟨bl, 9, none⟩ = some (.int .i64 gfv) := by have := cell_of_block H7.out 9; simpa using this
          have c10 : w6.cell? ⟨bl, 10, none⟩ = some (.int .i64 gfs) := by have := cell_of_block H7.out 10; simpa using this
          go_wp2_with fail
          go_ret
          exact ⟨rfl, HXD.out⟩
end Go.Proofs.Ythnpchfcafaiiaa
