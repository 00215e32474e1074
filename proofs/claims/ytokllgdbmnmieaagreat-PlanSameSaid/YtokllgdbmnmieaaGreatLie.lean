/- plan.lies: where points and buckets are a choice's. -/
import Derived.Test.YtokllgdbmnmieaaGreatPlanEdgesA
import Derived.Test.YtokllgdbmnmieaaGreatRlg
import Derived.Deep.DeepCutAuto
namespace Go.Proofs.YtokllgdbmnmieaaGreat
open Go.RowKit Go.Lib Go.Sort

structure LiesOk (fr tO A B : Int) (l : List Pt) (L : List Bk) : Prop where
  a : fr ≤ A
  b : A ≤ B
  c : B ≤ tO
  p : ∀ p ∈ l, (fr ≤ p.t ∧ p.t < A) ∨ (B ≤ p.t ∧ p.t < tO)
  up : l.Pairwise (fun x y => x.t < y.t)
  k : ∀ x ∈ L, A ≤ x.lo ∧ x.hi ≤ B
  side : L.Pairwise (fun x y => x.hi ≤ y.lo)

set_option maxHeartbeats 8000000 in
set_option maxRecDepth 100000 in
theorem lies_any (op fn : Int) (ser oth : ByteArray) (fr tO wd st off gap tol fill : Int) (i A B : Int) (w : World) (a1 : Option Addr) (n1 c1 : Nat) (l : List Pt) (h1 : Src w 3 (.slice a1 n1 c1) n1 (pts l)) (a2 : Option Addr) (n2 c2 : Nat) (L : List Bk) (h2 : Src w 13 (.slice a2 n2 c2) n2 (bks L))
    (hn1 : n1 < 4398046511104) (hn2 : n2 < 4398046511104) (hok : LiesOk fr tO A B l L) :
    Calls Tryz.prog 18 #[qV op fn ser oth fr tO wd st off gap tol fill, .agg #[.int .i64 i, .int .i64 A, .int .i64 B], .slice a1 n1 c1, .slice a2 n2 c2] w fun e w' => e = .returned (.bool true) ∧ Ext w w' := by
  have H1 := Lib.hid h1
  have H2 := Lib.hid h2
  have HOK := Lib.hid hok
  have LL := Lib.hid (enc_src_len bkc_len (by decide) h2)
  have x1 := hok.a
  have x2 := hok.b
  have x3 := hok.c
  unfold qV
  clear h1 h2 hok
  go_enter Tryz.func18, Tryz.ntmps18
  go_wp2_with fail
  generalize hW : World.alloc _ _ = W
  have HXW : Hid (Ext w W) := Lib.hid (by subst hW; exact ((Ext.refl w).alloc _).alloc _)
  have HQ : Hid (W.cell? ⟨w.heap.size, 4, none⟩ = some (.int .i64 fr) ∧ W.cell? ⟨w.heap.size, 5, none⟩ = some (.int .i64 tO) ∧ W.cell? ⟨w.heap.size + 1, 1, none⟩ = some (.int .i64 A) ∧ W.cell? ⟨w.heap.size + 1, 2, none⟩ = some (.int .i64 B)) := Lib.hid (by
    subst hW
    simp [go_sem])
  clear hW
  go_loopw [9, 37] (fun s9 s37 wr => ∃ j : Nat, s9 = .bool true ∧ s37 = .int .i64 j ∧ j ≤ n1 ∧ Hid (Ext W wr)) (fun _ t _ => n1 - (RowKit.intOf t).toNat)
  case atStart => exact ⟨0, rfl, rfl, by omega, Lib.hid (Ext.refl _)⟩
  case round =>
    obtain ⟨j, rfl, rfl, hj, HXR⟩ := hrel
    by_cases hlt : j < n1
    · obtain ⟨pb, po, p, rfl, hp, p0, p1, p2⟩ := pts_src (H1.out.ext (HXW.out.trans HXR.out)) hlt
      have HP := Lib.hid hp
      clear hp
      go_upto_region 5 with fail
      generalize hV : World.alloc _ _ = V
      have HXV : Hid (Ext W V) := Lib.hid (by subst hV; exact HXR.out.alloc _)
      have e0 : V.cell? ⟨wr.heap.size, 0, none⟩ = some (.int .i64 p.t) := by subst hV; simp [go_sem]
      have d4 := (HXV.out.cell (World.block_lt_of_cell? _ _ HQ.out.1)).trans HQ.out.1
      have d5 := (HXV.out.cell (World.block_lt_of_cell? _ _ HQ.out.2.1)).trans HQ.out.2.1
      have d1 := (HXV.out.cell (World.block_lt_of_cell? _ _ HQ.out.2.2.1)).trans HQ.out.2.2.1
      have d2 := (HXV.out.cell (World.block_lt_of_cell? _ _ HQ.out.2.2.2)).trans HQ.out.2.2.2
      have hE : j ≠ 0 → ∃ (q : Pt), V.cell? ⟨pb, po + (j - 1) * 3, none⟩ = some (.int .i64 q.t) ∧ q.t < p.t := fun hj0 => by
        obtain ⟨qb, qo, q, hq1, hq2, q0, q1, q2⟩ := pts_src (H1.out.ext (HXW.out.trans HXV.out)) (show j - 1 < n1 by omega)
        simp only [Option.some.injEq, Addr.mk.injEq] at hq1
        obtain ⟨rfl, rfl, _⟩ := hq1
        refine ⟨q, q0, ?_⟩
        have := List.pairwise_iff_getElem.1 HOK.out.up (j - 1) j (List.getElem?_eq_some_iff.1 hq2).1 (List.getElem?_eq_some_iff.1 HP.out).1 (by omega)
        rw [(List.getElem?_eq_some_iff.1 hq2).2, (List.getElem?_eq_some_iff.1 HP.out).2] at this
        exact this
      have HE := Lib.hid hE
      clear hV p0 p1 p2 hE
      rcases HOK.out.p p (List.mem_of_getElem? HP.out) with ⟨hh1, hh2⟩ | ⟨hh1, hh2⟩
      case' inl =>
        have b1 : decide (fr ≤ p.t) = true := decide_eq_true hh1
        have b2 : decide (p.t < A) = true := decide_eq_true hh2
        have b3 : decide (B ≤ p.t) = false := decide_eq_false (by omega)
        clear hh1 hh2
      case' inr =>
        have b1 : decide (fr ≤ p.t) = true := decide_eq_true (by omega)
        have b2 : decide (p.t < A) = false := decide_eq_false (by omega)
        have b3 : decide (B ≤ p.t) = true := decide_eq_true hh1
        have b4 : decide (p.t < tO) = true := decide_eq_true hh2
        clear hh1 hh2
      all_goals
        go_big_quiet (fail)
        go_upto_region 6 with fail
        generalize hU : V.drewN nq = U
        have HXU : Hid (Ext V U) := Lib.hid (by subst hU; exact Ext.drewN _ _)
        replace e0 := (HXU.out.cell (World.block_lt_of_cell? _ _ e0)).trans e0
        clear hU nq d1 d2 d4 d5
        rcases Nat.eq_zero_or_pos j with hj0 | hj0
        · subst hj0
          have z1 : (((0 : Nat) : Int) == 0) = true := by decide
          go_big_quiet (fail)
          go_wp2_with fail
          go_roundw
          case rel => exact ⟨1, rfl, by go_num, by omega, Lib.hid (HXV.out.trans (HXU.out.trans (Ext.drewN _ _)))⟩
          case measure => simp [RowKit.intOf]; omega
        · obtain ⟨q, q0, hqp⟩ := HE.out (by omega)
          replace q0 := (HXU.out.cell (World.block_lt_of_cell? _ _ q0)).trans q0
          obtain ⟨j1, hj1⟩ : ∃ j1, j1 = j - 1 := ⟨_, rfl⟩
          rw [← hj1] at q0
          have hw1 : IntKind.i64.wrap ((j : Int) - 1) = (j1 : Int) := by rw [IntWalk.i64_in _ (by omega)]; omega
          have z1 : ((j : Int) == 0) = false := beq_eq_false_iff_ne.2 (by omega)
          have z2 : decide (q.t < p.t) = true := decide_eq_true hqp
          have hj1n : j1 < n1 := by omega
          clear hj1 hqp
          go_big_quiet (fail)
          go_wp2_with fail
          go_roundw
          case rel => exact ⟨j + 1, rfl, by go_num, by omega, Lib.hid (HXV.out.trans (HXU.out.trans (Ext.drewN _ _)))⟩
          case measure => simp [RowKit.intOf]; omega
    · go_wp2_with fail
      go_loopw [9, 91] (fun s9 s91 ws => ∃ j : Nat, s9 = .bool true ∧ s91 = .int .i64 j ∧ j ≤ n2 ∧ Hid (Ext W ws)) (fun _ t _ => n2 - (RowKit.intOf t).toNat)
      case atStart => exact ⟨0, rfl, rfl, by omega, HXR⟩
      case round =>
        clear HXR
        obtain ⟨k, rfl, rfl, hk, HXR⟩ := hrel
        by_cases hlt : k < n2
        · obtain ⟨pb, po, p, rfl, hp, hrg⟩ := enc_src bkc_len (by decide) (H2.out.ext (HXW.out.trans HXR.out)) hlt
          have HP := Lib.hid hp
          have HB := Lib.hid (HOK.out.k p (List.mem_of_getElem? hp))
          have HRG := Lib.hid hrg
          clear hp hrg
          go_upto_region 11 with (first | (refine wpList_load_mid rfl _ _ rfl pb (po + k * 13) rfl (bkc p) _ HRG.out Tryz.underlying77 rfl bk_info ?_) | (refine wpList_store_box rfl _ _ _ rfl _ _ (bkc p).toArray _ rfl rfl (heap_alloc_new wr _) rfl bk_info (bkc_all p) ?_; rintro V hb4 hc4; have HB4 := Lib.hid hb4; have HX4 : Hid (Ext wr V) := Lib.hid (((Chg.of_ext (S := fun _ => False) ((Ext.refl wr).alloc _)).trans hc4 (fun i hi e => by omega)).ext (fun _ _ e => e)); clear hb4 hc4))
          dsimp only [Act.put]
          have HXV := Lib.hid (HXR.out.trans HX4.out)
          have e0 : V.cell? ⟨wr.heap.size, 0, none⟩ = some (.int .i64 p.lo) := by have := cell_of_block HB4.out 0; simpa [bkc] using this
          have e1 : V.cell? ⟨wr.heap.size, 1, none⟩ = some (.int .i64 p.hi) := by have := cell_of_block HB4.out 1; simpa [bkc] using this
          have d1 := (HXV.out.cell (World.block_lt_of_cell? _ _ HQ.out.2.2.1)).trans HQ.out.2.2.1
          have d2 := (HXV.out.cell (World.block_lt_of_cell? _ _ HQ.out.2.2.2)).trans HQ.out.2.2.2
          have b1 : decide (A ≤ p.lo) = true := decide_eq_true HB.out.1
          have b2 : decide (p.hi ≤ B) = true := decide_eq_true HB.out.2
          rcases Nat.eq_zero_or_pos k with hk0 | hk0
          · subst hk0
            have z1 : (((0 : Nat) : Int) == 0) = true := by decide
            go_big_quiet (fail)
            go_wp2_with fail
            go_roundw
            case rel => exact ⟨1, rfl, by go_num, by omega, Lib.hid (HXV.out.trans (Ext.drewN _ _))⟩
            case measure => simp [RowKit.intOf]; omega
          · obtain ⟨qb, qo, q, hq1, hq2, hq3⟩ := enc_src bkc_len (by decide) (H2.out.ext (HXW.out.trans HXV.out)) (show k - 1 < n2 by omega)
            simp only [Option.some.injEq, Addr.mk.injEq] at hq1
            obtain ⟨rfl, rfl, _⟩ := hq1
            have hqp : q.hi ≤ p.lo := by
              have := List.pairwise_iff_getElem.1 HOK.out.side (k - 1) k (List.getElem?_eq_some_iff.1 hq2).1 (List.getElem?_eq_some_iff.1 HP.out).1 (by omega)
              rw [(List.getElem?_eq_some_iff.1 hq2).2, (List.getElem?_eq_some_iff.1 HP.out).2] at this
              exact this
            have q1 : V.cell? ⟨pb, po + (k - 1) * 13 + 1, none⟩ = some (.int .i64 q.hi) := hq3 1 _ rfl
            obtain ⟨k1, hk1⟩ : ∃ k1, k1 = k - 1 := ⟨_, rfl⟩
            rw [← hk1] at q1
            have hw1 : IntKind.i64.wrap ((k : Int) - 1) = (k1 : Int) := by rw [IntWalk.i64_in _ (by omega)]; omega
            have z1 : ((k : Int) == 0) = false := beq_eq_false_iff_ne.2 (by omega)
            have z2 : decide (q.hi ≤ p.lo) = true := decide_eq_true hqp
            have hk1n : k1 < n2 := by omega
            clear hk1 hqp hq2 hq3
            go_big_quiet (fail)
            go_wp2_with fail
            go_roundw
            case rel => exact ⟨k + 1, rfl, by go_num, by omega, Lib.hid (HXV.out.trans (Ext.drewN _ _))⟩
            case measure => simp [RowKit.intOf]; omega
        · go_wp2_with fail
          go_ret
          exact ⟨rfl, HXW.out.trans HXR.out⟩

set_option maxHeartbeats 4000000 in
set_option maxRecDepth 100000 in
theorem liesBad_any (op fn : Int) (ser oth : ByteArray) (fr tO wd st off gap tol fill : Int) (i A B : Int) (w : World) (h1 : fr ≤ A) (h2 : B < A) :
    Calls Tryz.prog 18 #[qV op fn ser oth fr tO wd st off gap tol fill, .agg #[.int .i64 i, .int .i64 A, .int .i64 B], .slice none 0 0, .slice none 0 0] w fun e w' => e = .returned (.bool false) ∧ Ext w w' := by
  unfold qV
  have hb : ¬ A ≤ B := by omega
  clear h2
  go_enter Tryz.func18, Tryz.ntmps18
  go_wp2_with fail
  generalize hW : World.alloc _ _ = W
  have HXW : Hid (Ext w W) := Lib.hid (by subst hW; exact ((Ext.refl w).alloc _).alloc _)
  clear hW
  go_loopw [9, 37] (fun s9 s37 wr => s9 = .bool false ∧ s37 = .int .i64 0 ∧ wr = W) (fun _ _ _ => 0)
  case atStart => exact ⟨rfl, rfl, rfl⟩
  case round =>
    obtain ⟨rfl, rfl, hwr⟩ := hrel
    subst hwr
    go_wp2_with fail
    go_loopw [9, 91] (fun s9 s91 ws => s9 = .bool false ∧ s91 = .int .i64 0 ∧ ws = wr) (fun _ _ _ => 0)
    case atStart => exact ⟨rfl, rfl, rfl⟩
    case round =>
      obtain ⟨rfl, rfl, hwr2⟩ := hrel
      subst hwr2
      go_wp2_with fail
      go_ret
      exact ⟨rfl, HXW.out⟩
end Go.Proofs.YtokllgdbmnmieaaGreat
