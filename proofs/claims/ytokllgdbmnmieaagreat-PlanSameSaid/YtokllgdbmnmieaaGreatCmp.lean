/- cmp.Compare and cmp.Or of ints, aggr.order: which one of two points is ahead. -/
import Derived.Test.YtokllgdbmnmieaaGreatWin
import Derived.Test.YtokllgdbmnmieaaGreatU8
import Derived.Test.YtokllgdbmnmieaaGreatPtc
import Derived.Test.YtokllgdbmnmieaaGreatPlan
namespace Go.Proofs.YtokllgdbmnmieaaGreat
open Go.RowKit Go.Lib Go.Sort

def cmpI (a b : Int) : Int := if a < b then -1 else if b < a then 1 else 0
theorem cmpI_eq (a b : Int) : Hid (cmpI a b = if a < b then -1 else if b < a then 1 else 0) := Lib.hid rfl

theorem isNaN_int (x : Int) (w : World) : Calls Tryz.prog 112 #[.int .i64 x] w fun e w' => e = .returned (.bool false) ∧ w = w' := by
  go_enter Tryz.func112, Tryz.ntmps112
  go_wp2_with fail
  go_ret
  simp

set_option maxHeartbeats 1000000 in
theorem compare_int (x y : Int) (w : World) : Calls Tryz.prog 78 #[.int .i64 x, .int .i64 y] w fun e w' => e = .returned (.int .i64 (cmpI x y)) ∧ w = w' := by
  go_enter Tryz.func78, Tryz.ntmps78
  go_wp2_with fail
  refine (isNaN_int x _).mono ?_
  rintro e w1 ⟨rfl, rfl⟩
  go_wp2_with fail
  refine (isNaN_int y _).mono ?_
  rintro e w1 ⟨rfl, rfl⟩
  have HE := cmpI_eq x y
  by_cases h1 : x < y
  · have h2 : Hid (cmpI x y = -1) := Lib.hid (by rw [HE.out, if_pos h1])
    go_wp2_with fail
    go_ret
    exact ⟨by rw [h2.out]; rfl, rfl⟩
  · by_cases h3 : y < x
    · have h2 : Hid (cmpI x y = 1) := Lib.hid (by rw [HE.out, if_neg h1, if_pos h3])
      go_wp2_with fail
      go_ret
      exact ⟨by rw [h2.out]; rfl, rfl⟩
    · have h2 : Hid (cmpI x y = 0) := Lib.hid (by rw [HE.out, if_neg h1, if_neg h3])
      go_wp2_with fail
      go_ret
      exact ⟨by rw [h2.out]; rfl, rfl⟩

/-- The first one that is not 0. -/
def orL : List Int → Int
  | [] => 0
  | x :: l => if x = 0 then orL l else x

set_option maxHeartbeats 1000000 in
theorem or_int (w : World) (a : Option Addr) (n c : Nat) (l : List Int) (hl : Src w 1 (.slice a n c) n (zints l)) (hn : n < 4611686018427387904) :
    Calls Tryz.prog 106 #[.slice a n c] w fun e w' => e = .returned (.int .i64 (orL l)) ∧ w = w' := by
  have HL := Lib.hid hl
  have HN := Lib.hid (zints_src_len hl)
  clear hl
  go_enter Tryz.func106, Tryz.ntmps106
  go_wp2_with fail
  go_loop [8] (fun i => ∃ k : Nat, k ≤ n ∧ i = .int .i64 k ∧ Hid (orL l = orL (l.drop k))) (fun i => n - (RowKit.intOf i).toNat)
  case atStart => exact ⟨0, by omega, rfl, Lib.hid (by simp)⟩
  case round =>
    obtain ⟨k, hk, rfl, HI⟩ := hrel
    by_cases hlt : k < n
    · obtain ⟨b, off, z, rfl, hz, z0⟩ := zints_src HL.out hlt
      have HD : Hid (l.drop k = z :: l.drop (k + 1)) := Lib.hid (by
        have h1 : k < l.length := by have := HN.out; omega
        rw [List.getElem?_eq_getElem h1] at hz
        rw [List.drop_eq_getElem_cons h1, Option.some.inj hz])
      clear hz
      by_cases hb : z = 0
      · have HX : Hid (orL l = orL (l.drop (k + 1))) := Lib.hid (by rw [HI.out, HD.out]; simp [orL, hb])
        subst hb
        go_wp2_with fail
        go_round
        case rel => exact ⟨k + 1, by omega, by go_num, HX⟩
        case measure => simp [RowKit.intOf]; omega
      · have HX : Hid (orL l = z) := Lib.hid (by rw [HI.out, HD.out]; simp [orL, hb])
        go_wp2_with fail
        go_ret
        rw [HX.out]
        exact ⟨rfl, rfl⟩
    · have HX : Hid (orL l = 0) := Lib.hid (by
        rw [HI.out, List.drop_of_length_le (by have := HN.out; omega)]; rfl)
      go_wp2_with fail
      go_ret
      rw [HX.out]
      exact ⟨rfl, rfl⟩

/-- Which of two points is ahead. -/
def ordI (p q : Pt) : Int := orL [cmpI p.t q.t, cmpI p.s q.s, cmpI p.v q.v]
theorem ordI_eq (p q : Pt) : Hid (ordI p q = orL [cmpI p.t q.t, cmpI p.s q.s, cmpI p.v q.v]) := Lib.hid rfl

set_option maxHeartbeats 4000000 in
set_option maxRecDepth 100000 in
theorem order_any (p q : Pt) (w : World) : Calls Tryz.prog 70 #[p.val, q.val] w fun e w' => e = .returned (.int .i64 (ordI p q)) ∧ Ext w w' := by
  have HO := ordI_eq p q
  obtain ⟨pt, pv, ps⟩ := p
  obtain ⟨qt, qv, qs⟩ := q
  unfold Pt.val
  simp only at HO ⊢
  go_enter Tryz.func70, Tryz.ntmps70
  go_wp2_with fail
  generalize hW : World.alloc _ _ = W
  have b0 : W.heap[w.heap.size]? = some (.cells #[.int .i64 pt, .int .i64 pv, .int .i64 ps] 37 (0, 0)) := by
    subst hW
    have h0 := heap_alloc_new w (.cells #[.int .i64 pt, .int .i64 pv, .int .i64 ps] 37 (0, 0))
    exact ((((Ext.refl _).alloc _).block (block_lt h0)).trans h0)
  have b1 : W.heap[w.heap.size + 1]? = some (.cells #[.int .i64 qt, .int .i64 qv, .int .i64 qs] 37 (0, 0)) := by
    subst hW
    exact heap_alloc2 w _ _
  have HXW : Hid (Ext w W) := Lib.hid (by subst hW; exact (((Ext.refl w).alloc _).alloc _))
  clear hW
  have f0 := cell_turned (T := fun _ => false) (show W.cell? ⟨w.heap.size, 0, none⟩ = some (.int .i64 pt) by have := cell_of_block b0 0; simpa using this) rfl
  have f1 := cell_turned (T := fun _ => false) (show W.cell? ⟨w.heap.size, 1, none⟩ = some (.int .i64 pv) by have := cell_of_block b0 1; simpa using this) rfl
  have f2 := cell_turned (T := fun _ => false) (show W.cell? ⟨w.heap.size, 2, none⟩ = some (.int .i64 ps) by have := cell_of_block b0 2; simpa using this) rfl
  have f3 := cell_turned (T := fun _ => false) (show W.cell? ⟨w.heap.size + 1, 0, none⟩ = some (.int .i64 qt) by have := cell_of_block b1 0; simpa using this) rfl
  have f4 := cell_turned (T := fun _ => false) (show W.cell? ⟨w.heap.size + 1, 1, none⟩ = some (.int .i64 qv) by have := cell_of_block b1 1; simpa using this) rfl
  have f5 := cell_turned (T := fun _ => false) (show W.cell? ⟨w.heap.size + 1, 2, none⟩ = some (.int .i64 qs) by have := cell_of_block b1 2; simpa using this) rfl
  clear b0 b1
  refine wp_region_plan 15 (fun w' => ∃ p : Turned, w' = turned W (fun _ => false) p.d p.f p.os) (.reads [0, 1, 2, 3, 5, 6, 7, 8, 10, 11, 12, 13] (.one 4 (.one 9 (.one 14 (.one 15 (.one 16 (.one 17 .done))))))) (by kernel_rfl) (by kernel_rfl) (fun _ _ dd _ _ hh => by cases dd <;> exact hh) ?_ ?_
  · exact turned_of_ext (Ext.drewN W 1)
  refine wpPlan_reads ?_
  simp only [pickOps, List.getElem?_cons_succ, List.getElem?_cons_zero]
  repeat (go_big_quiet_step (fail))
  refine wpQuiet_nil ?_
  clear f0 f1 f2 f3 f4 f5
  refine wpPlan_one ?_
  simp only [pickOps, List.getElem?_cons_succ, List.getElem?_cons_zero]
  go_wp2_with fail
  refine (compare_int pt qt _).mono ?_
  rintro e w1 ⟨rfl, rfl⟩
  go_wp2_with fail
  refine thenX_mk (turned_of_ext (Ext.drewN W 1)) (wpPlan_one ?_)
  simp only [pickOps, List.getElem?_cons_succ, List.getElem?_cons_zero]
  go_wp2_with fail
  refine (compare_int ps qs _).mono ?_
  rintro e w1 ⟨rfl, rfl⟩
  go_wp2_with fail
  refine thenX_mk (turned_of_ext (Ext.drewN W 1)) (wpPlan_one ?_)
  simp only [pickOps, List.getElem?_cons_succ, List.getElem?_cons_zero]
  go_wp2_with fail
  refine (compare_int pv qv _).mono ?_
  rintro e w1 ⟨rfl, rfl⟩
  go_wp2_with fail
  refine thenX_mk (turned_of_ext (Ext.drewN W 1)) (wpPlan_one ?_)
  simp only [pickOps, List.getElem?_cons_succ, List.getElem?_cons_zero]
  go_wp2_with fail
  refine thenX_last (wpPlan_one ?_)
  simp only [pickOps, List.getElem?_cons_succ, List.getElem?_cons_zero]
  go_wp2_with fail
  refine (or_int _ _ 3 3 [cmpI pt qt, cmpI ps qs, cmpI pv qv] (by exact (src_new W #[.int .i64 (cmpI pt qt), .int .i64 (cmpI ps qs), .int .i64 (cmpI pv qv)] 3 1 3 (0, 0) rfl (by simp [Value.oneCell'])).ext (Ext.drewN _ 1)) (by omega)).mono ?_
  rw [← HO.out]
  rintro e w1 ⟨rfl, rfl⟩
  go_wp2_with fail
  refine thenX_last (wpPlan_one ?_)
  simp only [pickOps, List.getElem?_cons_succ, List.getElem?_cons_zero]
  go_wp2_with fail
  refine thenX_last (wpPlan_done ?_)
  go_wp2_with fail
  go_ret
  exact ⟨rfl, (HXW.out.alloc _).trans (Ext.drewN _ 1)⟩
end Go.Proofs.YtokllgdbmnmieaaGreat
