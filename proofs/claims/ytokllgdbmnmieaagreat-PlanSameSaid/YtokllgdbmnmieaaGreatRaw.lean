/- plan.Rows, where points and buckets are a choice's. -/
import Derived.Test.YtokllgdbmnmieaaGreatR23g0
import Derived.Test.YtokllgdbmnmieaaGreatLie
import Derived.Test.YtokllgdbmnmieaaGreatR23l
import Derived.Test.YtokllgdbmnmieaaGreatBst2
import Derived.Test.YtokllgdbmnmieaaGreatRlg
import Derived.Test.YtokllgdbmnmieaaGreatR23s
import Derived.Test.YtokllgdbmnmieaaGreatPlanEdgesA
import Derived.Test.YtokllgdbmnmieaaGreatR23h
namespace Go.Proofs.YtokllgdbmnmieaaGreat
open Go.RowKit Go.Lib Go.Sort

def rowB (wd fn : Int) (p : Int × Ag) : Rw := ⟨p.1, p.1 + wd, valI p.2 fn, false⟩
/-- What is joined. -/
structure RowsIt (fn wd st off fr tO fill : Int) (l : List Pt) (L : List Bk) : Prop where
  val : ∀ p ∈ l, -9223372036854775808 ≤ p.v ∧ p.v ≤ 9223372036854775807
  time : ∀ p ∈ l, -1152921504606846976 ≤ p.t ∧ p.t ≤ 1152921504606846976
  len : L.length + l.length ≤ 100
  lo : ∀ b ∈ L, -2305843009213693952 ≤ b.lo ∧ b.lo ≤ 2305843009213693952
  join : ∀ E : List Bk, E.Perm (L ++ l.map oneB) → (E.map (·.lo)).Pairwise (· ≤ ·) → (∀ b ∈ E, FitsB wd st off b ∧ b.a.bnd 1000) ∧ E.Pairwise (fun a b => a.hi ≤ b.lo)
  fill : ∀ (E : List Bk) (ds : List (Int × Ag)), E.Perm (L ++ l.map oneB) → (E.map (·.lo)).Pairwise (· ≤ ·) → ds.Perm (joinL wd st off E) → (ds.map (·.1)).Pairwise (· ≤ ·) →
    (∀ p ∈ ds, ValOk p.2 ∧ -2305843009213693952 ≤ p.1 ∧ p.1 ≤ 2305843009213693952) ∧ WinRows st (firstF wd st off fr) (allW wd st off fr tO) (ds.map (rowB wd fn)) ∧ RowsOk (ds.map (rowB wd fn))
/-- What rows there are. -/
def RowsRes (fn wd st off fr tO fill : Int) (l : List Pt) (L : List Bk) (R : List Rw) : Prop :=
  ∃ (E : List Bk) (ds : List (Int × Ag)), E.Perm (L ++ l.map oneB) ∧ (E.map (·.lo)).Pairwise (· ≤ ·) ∧ ds.Perm (joinL wd st off E) ∧ (ds.map (·.1)).Pairwise (· ≤ ·) ∧ R = fillL fill (allW wd st off fr tO) (ds.map (rowB wd fn))

theorem src_bk1 {W : World} {b : Nat} {p : Bk} {t : TypeId} {fr : Nat × Nat} (h : W.heap[b]? = some (.cells (bkc p).toArray t fr)) : Src W 13 (.slice (some ⟨b, 0, none⟩) 1 1) 1 (bks [p]) := by
  refine .inr ⟨_, _, rfl, rfl, fun j u hj => ?_, bks_one _⟩
  rw [Go.WideShapes.add_plain, Nat.zero_add, cell_of_block h]
  simpa [bks] using hj
theorem qry_info : (Tryz.prog.info? 23).map (·.size) = some 12 := by kernel_rfl
theorem pnt_info : (Tryz.prog.info? 37).map (·.size) = some 3 := by kernel_rfl

set_option maxHeartbeats 8000000 in
set_option maxRecDepth 100000 in
theorem prows_any (op fn : Int) (ser oth : ByteArray) (fr tO wd st off gap tol fill : Int) (hse : ser.size ≤ maxLen) (hot : oth.size ≤ maxLen) (i A B : Int) (w : World) (a1 : Option Addr) (n1 c1 : Nat) (l : List Pt) (h1 : Src w 3 (.slice a1 n1 c1) n1 (pts l)) (a2 : Option Addr) (n2 c2 : Nat) (L : List Bk) (h2 : Src w 13 (.slice a2 n2 c2) n2 (bks L))
    (hck : planCheckB op fn ser oth fr tO wd st off gap tol fill = true) (hli : LiesOk fr tO A B l L) (hv : windowB wd st off = true) (ht1 : timeB fr = true) (ht2 : timeB tO = true) (hle : fr ≤ tO) (hN : allN wd st off fr tO ≤ 65536) (hf : 0 ≤ fill ∧ fill ≤ 3) (hfn : 0 ≤ fn ∧ fn ≤ 6)
    (hit : RowsIt fn wd st off fr tO fill l L) :
    Calls Tryz.prog 6 #[qV op fn ser oth fr tO wd st off gap tol fill, .agg #[.int .i64 i, .int .i64 A, .int .i64 B], .slice a1 n1 c1, .slice a2 n2 c2] w fun e w' => ∃ a' m c', e = .returned (.tuple #[.slice a' m c', .int .i64 0]) ∧ Ext w w' ∧ ∃ R, RowsRes fn wd st off fr tO fill l L R ∧ Src w' 5 (.slice a' m c') m (rws R) := by
  have H1 := Lib.hid h1
  have H2 := Lib.hid h2
  have LL := Lib.hid (enc_src_len bkc_len (by decide) h2)
  have LP := Lib.hid (src_len h1)
  have hn2 : n2 + n1 ≤ 100 := by have := hit.len; rw [LL.out, LP.out] at this; exact this
  have HCK := Lib.hid (fun W => planCheck_any op fn ser oth fr tO wd st off gap tol fill hse hot W)
  simp only [hck, if_true] at HCK
  have HKD := Lib.hid (fun W => planKind_any op fn ser oth fr tO wd st off gap tol fill W)
  have HLI := Lib.hid (fun W (hx : Ext w W) => lies_any op fn ser oth fr tO wd st off gap tol fill i A B W a1 n1 c1 l (h1.ext hx) a2 n2 c2 L (h2.ext hx) (by omega) (by omega) hli)
  have HIT := Lib.hid hit
  have HV := Lib.hid hv
  have HFI := Lib.hid (fun (R : List Rw) (W : World) (a : Option Addr) (n c : Nat) (hR : Src W 5 (.slice a n c) n (rws R)) (hn : n ≤ 70000) hW hok => gfill_any fill wd st off fr tO R W a n c hR hn hv ht1 ht2 hle hN hf.1 hf.2 hW hok)
  have HFN := Lib.hid hfn
  unfold qV at HCK HKD HLI ⊢
  clear h1 h2 hit hli hv ht1 ht2 hle hN hf hfn hck hse hot
  go_enter Tryz.func6, Tryz.ntmps6
  go_wp2_with fail
  obtain ⟨W, hW⟩ : ∃ W, W = (w.alloc (.cells #[.int .i64 op, .int .i64 fn, .string ser, .string oth, .int .i64 fr, .int .i64 tO, .int .i64 wd, .int .i64 st, .int .i64 off, .int .i64 gap, .int .i64 tol, .int .i64 fill] 23 (0, 0))).alloc (.cells #[.int .i64 i, .int .i64 A, .int .i64 B] 35 (0, 0)) := ⟨_, rfl⟩
  have HXW : Hid (Ext w W) := Lib.hid (by rw [hW]; exact ((Ext.refl w).alloc _).alloc _)
  have HQ : Hid (W.heap[w.heap.size]? = some (.cells #[.int .i64 op, .int .i64 fn, .string ser, .string oth, .int .i64 fr, .int .i64 tO, .int .i64 wd, .int .i64 st, .int .i64 off, .int .i64 gap, .int .i64 tol, .int .i64 fill] 23 (0, 0))) := Lib.hid (by
    rw [hW]
    have h0 := heap_alloc_new w (.cells #[.int .i64 op, .int .i64 fn, .string ser, .string oth, .int .i64 fr, .int .i64 tO, .int .i64 wd, .int .i64 st, .int .i64 off, .int .i64 gap, .int .i64 tol, .int .i64 fill] 23 (0, 0))
    exact (((Ext.refl _).alloc _).block (block_lt h0)).trans h0)
  have HC : Hid (W.heap[w.heap.size + 1]? = some (.cells #[.int .i64 i, .int .i64 A, .int .i64 B] 35 (0, 0))) := Lib.hid (by rw [hW]; exact heap_alloc2 w _ _)
  rw [← hW]
  clear hW
  refine (HCK.out _).mono ?_
  rintro e w1 ⟨rfl, hx1⟩
  have HX1 := Lib.hid (HXW.out.trans hx1)
  have HQ1 := Lib.hid ((hx1.block (block_lt HQ.out)).trans HQ.out)
  have HC1 := Lib.hid ((hx1.block (block_lt HC.out)).trans HC.out)
  clear hx1 HXW HQ HC HCK
  have k0 : w1.cell? ⟨w.heap.size + 1, 0, none⟩ = some (.int .i64 i) := by have := cell_of_block HC1.out 0; simpa using this
  have k1 : w1.cell? ⟨w.heap.size + 1, 1, none⟩ = some (.int .i64 A) := by have := cell_of_block HC1.out 1; simpa using this
  have k2 : w1.cell? ⟨w.heap.size + 1, 2, none⟩ = some (.int .i64 B) := by have := cell_of_block HC1.out 2; simpa using this
  go_wp2_with (first | (refine wpList_load_box rfl _ _ rfl _ _ _ _ _ rfl HQ1.out Tryz.underlying23 rfl qry_info ?_))
  refine (HLI.out _ HX1.out).mono ?_
  rintro e w2 ⟨rfl, hx2⟩
  have HX2 := Lib.hid (HX1.out.trans hx2)
  have HQ2 := Lib.hid ((hx2.block (block_lt HQ1.out)).trans HQ1.out)
  clear hx2 HX1 HQ1 HC1 HLI k0 k1 k2
  go_wp2_with fail
  refine (bclone_any w2 a2 n2 c2 L (H2.out.ext HX2.out) (by omega)).mono ?_
  rintro e w3 ⟨v3, rfl, hm3⟩
  obtain ⟨o3, d3, rfl⟩ := hm3.row.shape
  have HM3 := Lib.hid hm3
  have HX3 := Lib.hid (HX2.out.trans hm3.ext)
  clear hm3
  go_wp2_with fail
  go_loopw [11, 36] (fun s11 s36 wr => ∃ (j m : Nat) (oa : Option Addr) (oc : Nat), s11 = .slice oa m oc ∧ s36 = .int .i64 j ∧ j ≤ n1 ∧ m ≤ n2 + j ∧ Hid (m = n2 + j ∧ MadeTo w2 77 13 (.slice oa m oc) m (bks (L ++ (l.take j).map oneB)) wr)) (fun _ t _ => n1 - (RowKit.intOf t).toNat)
  case atStart => exact ⟨0, n2, o3, d3, rfl, rfl, by omega, by omega, Lib.hid ⟨rfl, by simpa using HM3.out⟩⟩
  case round =>
    clear HM3 HX3
    obtain ⟨j, m, oa, oc, rfl, rfl, hj, hm2, HI⟩ := hrel
    by_cases hlt : j < n1
    · obtain ⟨pb, po, p, rfl, hp, p0, p1, p2⟩ := pts_src (H1.out.ext (HX2.out.trans HI.out.2.ext)) hlt
      have HPV := Lib.hid (And.intro (HIT.out.val p (List.mem_of_getElem? hp)) (HIT.out.time p (List.mem_of_getElem? hp)))
      have HTK : Hid (L ++ (l.take (j + 1)).map oneB = (L ++ (l.take j).map oneB) ++ [oneB p]) := Lib.hid (by rw [List.take_add_one, hp]; simp)
      have HAG := Lib.hid (fun W => aggrOf_any p W HPV.out.1.1 HPV.out.1.2)
      obtain ⟨pt, pv, ps⟩ := p
      unfold Ag.val agOf Pt.val at HAG
      simp only at HAG p0 p1 p2
      obtain ⟨vh, hvh⟩ : ∃ x, x = pv / 18446744073709551616 := ⟨_, rfl⟩
      obtain ⟨vl, hvl⟩ : ∃ x, x = pv % 18446744073709551616 := ⟨_, rfl⟩
      rw [← hvh, ← hvl] at HAG
      have HVV := Lib.hid (And.intro hvh hvl)
      clear hp hvh hvl
      go_upto_region 10 with fail
      generalize hU : World.alloc _ _ = U
      have HXU : Hid (Ext wr U) := Lib.hid (by subst hU; exact (Ext.refl _).alloc _)
      have e0 := cell_turned (T := fun _ => false) (show U.cell? ⟨wr.heap.size, 0, none⟩ = some (.int .i64 pt) by subst hU; simp [go_sem]) rfl
      have e1 := cell_turned (T := fun _ => false) (show U.cell? ⟨wr.heap.size, 1, none⟩ = some (.int .i64 pv) by subst hU; simp [go_sem]) rfl
      have e2 := cell_turned (T := fun _ => false) (show U.cell? ⟨wr.heap.size, 2, none⟩ = some (.int .i64 ps) by subst hU; simp [go_sem]) rfl
      have hw1 : IntKind.i64.wrap (pt + 1) = pt + 1 := IntWalk.i64_in _ (by have := HPV.out.2; simp only at this; omega)
      clear hU p0 p1 p2
      refine wp_region_plan 11 (fun w' => ∃ z : Turned, w' = turned U (fun _ => false) z.d z.f z.os) (.reads [0, 1, 2, 3, 4, 5, 6, 7] (.one 8 (.reads [9] (.one 10 (.one 11 (.one 12 .done)))))) (by kernel_rfl) (by kernel_rfl) (fun _ _ dd _ _ hh => by cases dd <;> exact hh) ?_ ?_
      · exact turned_of_ext (Ext.drewN U 1)
      refine wpPlan_reads ?_
      simp only [pickOps, List.getElem?_cons_succ, List.getElem?_cons_zero]
      repeat (go_big_quiet_step (fail))
      refine wpQuiet_nil ?_
      clear e0 e1 e2 hw1
      change wpPlan _ _ _ _ _ _ _ _ (U.drewN 1)
      have HXd : Hid (Ext U (U.drewN 1)) := Lib.hid (Ext.drewN U 1)
      generalize U.drewN 1 = Wd at HXd ⊢
      refine wpPlan_one ?_
      simp only [pickOps, List.getElem?_cons_succ, List.getElem?_cons_zero]
      go_wp2_with fail
      refine (HAG.out _).mono ?_
      rintro e w5 ⟨rfl, hx5⟩
      have HX5 := Lib.hid (HXd.out.trans hx5)
      clear hx5 HXd
      go_wp2_with fail
      refine thenX_mk (turned_of_ext HX5.out) (wpPlan_reads ?_)
      simp only [pickOps, List.getElem?_cons_succ, List.getElem?_cons_zero]
      repeat (go_big_quiet_step (fail))
      refine wpQuiet_nil ?_
      refine wpPlan_one ?_
      simp only [pickOps, List.getElem?_cons_succ, List.getElem?_cons_zero]
      go_wp2_with fail
      refine thenX_mk (turned_of_ext (HX5.out.alloc _)) (wpPlan_one ?_)
      simp only [pickOps, List.getElem?_cons_succ, List.getElem?_cons_zero]
      have HCE : Hid ((bkc (oneB ⟨pt, pv, ps⟩)).toArray = #[.int .i64 pt, .int .i64 (pt + 1), .int .i64 1, .int .i64 vh, .int .u64 vl, .int .i64 pv, .int .i64 pv, .int .i64 pt, .int .i64 pv, .int .i64 ps, .int .i64 pt, .int .i64 pv, .int .i64 ps]) := Lib.hid (by rw [HVV.out.1, HVV.out.2]; rfl)
      have HXA := Lib.hid (HXU.out.trans (HX5.out.alloc (.cells #[.int .i64 pt, .int .i64 (pt + 1), .int .i64 1, .int .i64 vh, .int .u64 vl, .int .i64 pv, .int .i64 pv, .int .i64 pt, .int .i64 pv, .int .i64 ps, .int .i64 pt, .int .i64 pv, .int .i64 ps] 77 (0, 0))))
      have HSX := Lib.hid (src_bk1 (p := oneB ⟨pt, pv, ps⟩) (by rw [HCE.out]; exact heap_alloc_new w5 (.cells #[.int .i64 pt, .int .i64 (pt + 1), .int .i64 1, .int .i64 vh, .int .u64 vl, .int .i64 pv, .int .i64 pv, .int .i64 pt, .int .i64 pv, .int .i64 ps, .int .i64 pt, .int .i64 pv, .int .i64 ps] 77 (0, 0))))
      go_wp2_with (at_builtin; go_must (refine wpList_append_start elem_bk rfl _ _ rfl rfl rfl (Start.row (HI.out.2.row.ext HXA.out) HI.out.2.own) (HI.out.2.ext.trans HXA.out) HSX.out (by omega) (by unfold maxLen; omega) (by omega) ?_; intro v' w6 hmade); have HMD := Lib.hid hmade; obtain ⟨va', vc', rfl⟩ := hmade.row.shape; clear hmade)
      refine thenX_last (wpPlan_one ?_)
      simp only [pickOps, List.getElem?_cons_succ, List.getElem?_cons_zero]
      go_wp2_with fail
      refine thenX_last (wpPlan_done ?_)
      go_wp2_with fail
      go_roundw
      case rel => exact ⟨j + 1, m + 1, va', vc', rfl, by go_num, by omega, by omega, Lib.hid ⟨by have := HI.out.1; omega, by rw [HTK.out, bks_append]; exact HMD.out⟩⟩
      case measure => simp [RowKit.intOf]; omega
    · have HTA : Hid (l.take j = l) := Lib.hid (List.take_of_length_le (by have := LP.out; omega))
      have HMJ : Hid (MadeTo w2 77 13 (.slice oa m oc) m (bks (L ++ l.map oneB)) wr) := Lib.hid (by have := HI.out.2; rw [HTA.out] at this; exact this)
      have HMN : Hid (m = (L ++ l.map oneB).length) := Lib.hid (by have := HI.out.1; have := LL.out; have := LP.out; simp; omega)
      have hm100 : m ≤ 100 := by omega
      clear HI
      go_wp2_with fail
      have HMJ2 : Hid (MadeTo w2 77 13 (.slice oa m oc) (L ++ l.map oneB).length (bks (L ++ l.map oneB)) wr) := Lib.hid (by rw [← HMN.out]; exact HMJ.out)
      have HLB : Hid (∀ b ∈ L ++ l.map oneB, -2305843009213693952 ≤ b.lo ∧ b.lo ≤ 2305843009213693952) := Lib.hid (fun b hb => by
        rcases List.mem_append.1 hb with hb | hb
        · exact HIT.out.lo b hb
        · obtain ⟨p, hp, rfl⟩ := List.mem_map.1 hb
          have := HIT.out.time p hp
          unfold oneB
          simp only
          omega)
      refine (bsort_any HMJ2.out HLB.out (by rw [← HMN.out]; omega)).mono ?_
      rintro e w4 ⟨rfl, E, hE1, hE2, hmE⟩
      have hEl : E.length = m := by rw [hE1.length_eq, HMN.out]
      rw [hEl] at hmE
      have HME := Lib.hid hmE
      have HE := Lib.hid (And.intro hE1 hE2)
      have HX4 := Lib.hid (HX2.out.trans hmE.ext)
      have HQ4 := Lib.hid ((hmE.ext.block (block_lt HQ2.out)).trans HQ2.out)
      have HJ := Lib.hid (HIT.out.join E hE1 hE2)
      clear hE1 hE2 hmE hEl HMJ HMJ2 HLB
      go_wp2_with (first | (refine wpList_load_box rfl _ _ rfl _ _ _ _ _ rfl HQ4.out Tryz.underlying23 rfl qry_info ?_))
      refine (HKD.out _).mono ?_
      rintro e w5 ⟨rfl, hx5⟩
      have HX5 := Lib.hid hx5
      clear hx5
      go_wp2_with fail
      refine (join_ok w5 oa m oc E wd st off 1000 ((HME.out.row.src (bks_one _)).ext HX5.out) hm100 (by omega) HV.out HJ.out.1 HJ.out.2).mono ?_
      rintro e w6 ⟨v6, rfl, ds, hd1, hd2, hm6⟩
      obtain ⟨o6, d6, rfl⟩ := hm6.row.shape
      obtain ⟨N, hNe⟩ : ∃ N, N = ds.length := ⟨_, rfl⟩
      rw [← hNe] at hm6 ⊢
      have HDS := Lib.hid (HIT.out.fill E ds HE.out.1 HE.out.2 hd1 hd2)
      have HD := Lib.hid (And.intro hd1 hd2)
      have hN70 : N ≤ 6400 := by
        have h7 := joinL_len HV.out E
        have h8 := hd1.length_eq
        have h9 := HE.out.1.length_eq
        have h10 := HMN.out
        omega
      have HX6 := Lib.hid (HX4.out.trans (HX5.out.trans hm6.ext))
      have HQ6 := Lib.hid (((HX5.out.trans hm6.ext).block (block_lt HQ4.out)).trans HQ4.out)
      have HS6 := Lib.hid (hm6.row.src (bks_one _))
      have HNE := Lib.hid hNe
      clear hd1 hd2 hm6 hNe HX5 HX4 HQ4 HME HJ
      go_wp2_with fail
      go_loopw [16, 67] (fun s16 s67 wr => ∃ (k : Nat) (ra : Option Addr) (rc : Nat), s16 = .slice ra k rc ∧ s67 = .int .i64 k ∧ k ≤ N ∧ Hid (MadeTo w6 42 5 (.slice ra k rc) k (rws ((ds.take k).map (rowB wd fn))) wr)) (fun _ t _ => N - (RowKit.intOf t).toNat)
      case atStart => exact ⟨0, none, 0, rfl, rfl, by omega, Lib.hid ⟨Row.nil _ _ _, by simp [Value.ownBlock], Ext.refl _⟩⟩
      case round =>
        obtain ⟨k, ra, rc, rfl, rfl, hk, HI⟩ := hrel
        by_cases hlt : k < N
        · obtain ⟨pb, po, b, rfl, hb, hrg⟩ := enc_src bkc_len (by decide) (HS6.out.ext HI.out.ext) hlt
          have HRG := Lib.hid hrg
          rw [List.getElem?_map] at hb
          obtain ⟨d, hd, rfl⟩ := Option.map_eq_some_iff.1 hb
          have HTK : Hid ((ds.take (k + 1)).map (rowB wd fn) = (ds.take k).map (rowB wd fn) ++ [rowB wd fn d]) := Lib.hid (by rw [List.take_add_one, hd]; simp)
          have HDV := Lib.hid (HDS.out.1 d (List.mem_of_getElem? hd))
          clear hb hd hrg
          go_upto_region 20 with (first | (refine wpList_load_mid rfl _ _ rfl pb (po + k * 13) rfl (bkc (bkOf wd d)) _ HRG.out Tryz.underlying77 rfl bk_info ?_) | (refine wpList_store_box rfl _ _ _ rfl _ _ (bkc (bkOf wd d)).toArray _ rfl rfl (heap_alloc_new wr _) rfl bk_info (bkc_all _) ?_; rintro V hb4 hc4; have HB4 := Lib.hid hb4; have HXV : Hid (Ext wr V) := Lib.hid (((Chg.of_ext (S := fun _ => False) ((Ext.refl wr).alloc _)).trans hc4 (fun i hi e => by omega)).ext (fun _ _ e => e)); clear hb4 hc4))
          have HXV6 := Lib.hid (HI.out.ext.trans HXV.out)
          have q1 : V.cell? ⟨w.heap.size, 1, none⟩ = some (.int .i64 fn) := by have := cell_of_block ((HXV6.out.block (block_lt HQ6.out)).trans HQ6.out) 1; simpa using this
          have e0 : V.cell? ⟨wr.heap.size, 0, none⟩ = some (.int .i64 d.1) := by have := cell_of_block HB4.out 0; simpa [bkc, bkOf] using this
          have e1 : V.cell? ⟨wr.heap.size, 1, none⟩ = some (.int .i64 (d.1 + wd)) := by have := cell_of_block HB4.out 1; simpa [bkc, bkOf] using this
          have HE01 := Lib.hid (And.intro e0 e1)
          have HRA : Hid (V.rangeAt wr.heap.size 2 (Ag.cells d.2)) := Lib.hid (fun jj u hj => by
            rw [show (⟨wr.heap.size, 2 + jj, none⟩ : Addr) = ⟨wr.heap.size, 2 + jj, none⟩ from rfl, cell_of_block HB4.out]
            have : (bkc (bkOf wd d))[2 + jj]? = (Ag.cells d.2)[jj]? := by
              rw [Nat.add_comm]
              rfl
            simpa [this] using hj)
          have HBV : Hid (∀ W, Calls Tryz.prog 24 #[.agg (Ag.cells d.2).toArray, .int .i64 fn] W fun e w' => e = .returned (.tuple #[.agg #[.int .i64 (valI d.2 fn / 18446744073709551616), .int .u64 (valI d.2 fn % 18446744073709551616)], .bool true]) ∧ Ext W w') := Lib.hid (fun W => bvalue_any d.2 fn W HFN.out.1 HFN.out.2 HDV.out.1)
          clear e0 e1
          go_wp2_with (first | (refine wpList_load_mid rfl _ _ rfl wr.heap.size 2 rfl (Ag.cells d.2) _ HRA.out Tryz.underlying75 rfl agg_info ?_))
          refine (HBV.out _).mono ?_
          rintro e w7 ⟨rfl, hx7⟩
          have HX7 := Lib.hid hx7
          have e0 := (hx7.cell (World.block_lt_of_cell? _ _ HE01.out.1)).trans HE01.out.1
          have e1 := (hx7.cell (World.block_lt_of_cell? _ _ HE01.out.2)).trans HE01.out.2
          obtain ⟨vh, hvh⟩ : ∃ x, x = valI d.2 fn / 18446744073709551616 := ⟨_, rfl⟩
          obtain ⟨vl, hvl⟩ : ∃ x, x = valI d.2 fn % 18446744073709551616 := ⟨_, rfl⟩
          rw [← hvh, ← hvl]
          have HCE : Hid ((rwc (rowB wd fn d)).toArray = #[.int .i64 d.1, .int .i64 (d.1 + wd), .bool false, .int .i64 vh, .int .u64 vl]) := Lib.hid (by rw [hvh, hvl]; rfl)
          clear hx7 q1 hvh hvl
          go_upto_region 21 with fail
          generalize hU : World.alloc _ _ = U
          have HXU : Hid (Ext V U) := Lib.hid (by subst hU; exact HX7.out.alloc _)
          have g0 : U.cell? ⟨w7.heap.size, 0, none⟩ = some (.int .i64 vh) := by subst hU; simp [go_sem]
          have g1 : U.cell? ⟨w7.heap.size, 1, none⟩ = some (.int .u64 vl) := by subst hU; simp [go_sem]
          replace e0 := ((HXU.out.cell (World.block_lt_of_cell? _ _ HE01.out.1))).trans HE01.out.1
          replace e1 := ((HXU.out.cell (World.block_lt_of_cell? _ _ HE01.out.2))).trans HE01.out.2
          have HXA := Lib.hid ((HXV.out.trans HXU.out).alloc (.cells #[.int .i64 d.1, .int .i64 (d.1 + wd), .bool false, .int .i64 vh, .int .u64 vl] 42 (0, 0)))
          have HSX := Lib.hid (src_rw (p := rowB wd fn d) (by rw [HCE.out]; exact heap_alloc_new U (.cells #[.int .i64 d.1, .int .i64 (d.1 + wd), .bool false, .int .i64 vh, .int .u64 vl] 42 (0, 0))))
          clear hU
          go_wp2_with (at_builtin; go_must (refine wpList_append_start elem_rw rfl _ _ rfl rfl rfl (Start.row (HI.out.row.ext HXA.out) HI.out.own) (HI.out.ext.trans HXA.out) HSX.out (by omega) (by unfold maxLen; omega) (by omega) ?_; intro v' w8 hmade); have HMD := Lib.hid hmade; obtain ⟨va', vc', rfl⟩ := hmade.row.shape; clear hmade g0 g1 e0 e1)
          go_roundw
          case rel => exact ⟨k + 1, va', vc', rfl, by go_num, by omega, Lib.hid (by rw [HTK.out, rws_append]; exact HMD.out)⟩
          case measure => simp [RowKit.intOf]; omega
        · have HDA : Hid (ds.take k = ds) := Lib.hid (List.take_of_length_le (by have := HNE.out; omega))
          have HMR : Hid (MadeTo w6 42 5 (.slice ra k rc) k (rws (ds.map (rowB wd fn))) wr) := Lib.hid (by have := HI.out; rw [HDA.out] at this; exact this)
          have HQ7 := Lib.hid ((HI.out.ext.block (block_lt HQ6.out)).trans HQ6.out)
          have hk70 : k ≤ 6400 := by omega
          clear HI HQ6
          go_wp2_with fail
          have c0 := cell_turned (T := fun _ => false) (show wr.cell? ⟨w.heap.size, 0, none⟩ = some (.int .i64 op) by have := cell_of_block HQ7.out 0; simpa using this) rfl
          have c1 := cell_turned (T := fun _ => false) (show wr.cell? ⟨w.heap.size, 1, none⟩ = some (.int .i64 fn) by have := cell_of_block HQ7.out 1; simpa using this) rfl
          have c2 := cell_turned (T := fun _ => false) (show wr.cell? ⟨w.heap.size, 2, none⟩ = some (.string ser) by have := cell_of_block HQ7.out 2; simpa using this) rfl
          have c3 := cell_turned (T := fun _ => false) (show wr.cell? ⟨w.heap.size, 3, none⟩ = some (.string oth) by have := cell_of_block HQ7.out 3; simpa using this) rfl
          have c4 := cell_turned (T := fun _ => false) (show wr.cell? ⟨w.heap.size, 4, none⟩ = some (.int .i64 fr) by have := cell_of_block HQ7.out 4; simpa using this) rfl
          have c5 := cell_turned (T := fun _ => false) (show wr.cell? ⟨w.heap.size, 5, none⟩ = some (.int .i64 tO) by have := cell_of_block HQ7.out 5; simpa using this) rfl
          have c6 := cell_turned (T := fun _ => false) (show wr.cell? ⟨w.heap.size, 6, none⟩ = some (.int .i64 wd) by have := cell_of_block HQ7.out 6; simpa using this) rfl
          have c7 := cell_turned (T := fun _ => false) (show wr.cell? ⟨w.heap.size, 7, none⟩ = some (.int .i64 st) by have := cell_of_block HQ7.out 7; simpa using this) rfl
          have c8 := cell_turned (T := fun _ => false) (show wr.cell? ⟨w.heap.size, 8, none⟩ = some (.int .i64 off) by have := cell_of_block HQ7.out 8; simpa using this) rfl
          have c9 := cell_turned (T := fun _ => false) (show wr.cell? ⟨w.heap.size, 9, none⟩ = some (.int .i64 gap) by have := cell_of_block HQ7.out 9; simpa using this) rfl
          have c10 := cell_turned (T := fun _ => false) (show wr.cell? ⟨w.heap.size, 10, none⟩ = some (.int .i64 tol) by have := cell_of_block HQ7.out 10; simpa using this) rfl
          have c11 := cell_turned (T := fun _ => false) (show wr.cell? ⟨w.heap.size, 11, none⟩ = some (.int .i64 fill) by have := cell_of_block HQ7.out 11; simpa using this) rfl
          have HSR := Lib.hid (HMR.out.row.src (rws_one _))
          have HXR := Lib.hid (HX6.out.trans HMR.out.ext)
          refine wp_region_plan 14 (fun w' => ∃ z : Turned, w' = turned wr (fun _ => false) z.d z.f z.os) (.reads [0, 1, 3, 4, 5, 6, 7, 8, 9] (.one 2 (.one 10 (.reads [11, 12] (.one 13 (.one 14 .done)))))) (by kernel_rfl) (by kernel_rfl) (fun _ _ dd _ _ hh => by cases dd <;> exact hh) ?_ ?_
          · exact turned_of_ext (Ext.drewN wr 1)
          refine wpPlan_reads ?_
          simp only [pickOps, List.getElem?_cons_succ, List.getElem?_cons_zero]
          repeat (go_big_quiet_step (fail))
          refine wpQuiet_nil ?_
          clear c0 c1 c2 c3 c4 c5 c6 c7 c8 c9 c10 c11
          change wpPlan _ _ _ _ _ _ _ _ (wr.drewN 1)
          have HXd : Hid (Ext wr (wr.drewN 1)) := Lib.hid (Ext.drewN wr 1)
          generalize wr.drewN 1 = Wd at HXd ⊢
          refine wpPlan_one ?_
          simp only [pickOps, List.getElem?_cons_succ, List.getElem?_cons_zero]
          go_wp2_with fail
          refine (HKD.out _).mono ?_
          rintro e w8 ⟨rfl, hx8⟩
          have HX8 := Lib.hid (HXd.out.trans hx8)
          clear hx8 HXd
          go_wp2_with fail
          refine thenX_mk (turned_of_ext HX8.out) (wpPlan_one ?_)
          simp only [pickOps, List.getElem?_cons_succ, List.getElem?_cons_zero]
          go_wp2_with fail
          refine (HFI.out (ds.map (rowB wd fn)) w8 ra k rc (HSR.out.ext HX8.out) (by omega) HDS.out.2.1 HDS.out.2.2).mono ?_
          rintro e w9 ⟨fa, fm, fc, rfl, hs9, hx9⟩
          have HS9 := Lib.hid hs9
          have HX9 := Lib.hid (HX8.out.trans hx9)
          clear hs9 hx9
          go_wp2_with fail
          refine thenX_mk (turned_of_ext HX9.out) (wpPlan_reads ?_)
          simp only [pickOps, List.getElem?_cons_succ, List.getElem?_cons_zero]
          repeat (go_big_quiet_step (fail))
          refine wpQuiet_nil ?_
          refine wpPlan_one ?_
          simp only [pickOps, List.getElem?_cons_succ, List.getElem?_cons_zero]
          go_wp2_with fail
          refine thenX_mk (turned_of_ext HX9.out) (wpPlan_one ?_)
          simp only [pickOps, List.getElem?_cons_succ, List.getElem?_cons_zero]
          go_wp2_with fail
          refine thenX_last (wpPlan_done ?_)
          go_wp2_with fail
          go_ret2
          exact ⟨fa, fm, fc, rfl, HXR.out.trans HX9.out, _, ⟨E, ds, HE.out.1, HE.out.2, HD.out.1, HD.out.2, rfl⟩, HS9.out⟩
end Go.Proofs.YtokllgdbmnmieaaGreat

/-! Plain: the rows of a choice are the rows of all points. -/

namespace Go.Proofs.YtokllgdbmnmieaaGreat
open Go.RowKit Go.Lib Go.Sort

def rowOf (fn : Int) (b : Bk) : Rw := ⟨b.lo, b.hi, valI b.a fn, false⟩
theorem rowOf_bk (wd fn : Int) (p : Int × Ag) : rowOf fn (bkOf wd p) = rowB wd fn p := rfl

/-- A window query, and its points. -/
structure QIn (wd st off fr tO : Int) (l : List Pt) : Prop where
  win : windowB wd st off = true
  fr1 : -1152921504606846976 ≤ fr
  le : fr ≤ tO
  to2 : tO ≤ 1152921504606846976
  small : tO - fr ≤ 3000
  len : l.length ≤ 60
  up : l.Pairwise (fun p q => p.t < q.t)
  pt : ∀ p ∈ l, fr ≤ p.t ∧ p.t < tO ∧ -9223372036854775808 ≤ p.v ∧ p.v ≤ 9223372036854775807

theorem all_mem {wd st off fr tO z : Int} (hv : windowB wd st off = true) (hlt : fr < tO) (h1 : z % st = off % st) (h2 : fr - wd < z) (h3 : z < tO) : (z, z + wd) ∈ allW wd st off fr tO := by
  obtain ⟨v1, v2, v3, v4, v5, v6, v7⟩ := window_nums hv
  obtain ⟨q, hq1, hq2, hq3⟩ := all_count hv hlt
  have e1 := firstF_eq wd st off fr
  have e2 := lastF_eq st off (tO - 1)
  have hd : (z - off) % st = 0 := Int.emod_eq_emod_iff_emod_sub_eq_zero.1 h1
  have hz : st * ((z - off) / st) = z - off := Int.mul_ediv_cancel_of_emod_eq_zero hd
  obtain ⟨Z, hZ⟩ : ∃ Z, Z = (z - off) / st := ⟨_, rfl⟩
  obtain ⟨A, hA⟩ : ∃ A, A = (fr - wd - off) / st := ⟨_, rfl⟩
  have a1 := Int.mul_ediv_self_le (x := fr - wd - off) (k := st) (by omega)
  have hle : Z ≤ (tO - 1 - off) / st := by rw [hZ]; exact Int.ediv_le_ediv (by omega) (by omega)
  have hle2 : st * Z ≤ st * ((tO - 1 - off) / st) := Int.mul_le_mul_of_nonneg_left hle (by omega)
  rw [← hZ] at hz
  rw [← hA] at e1 a1
  have hAZ : A < Z := by
    rcases Int.lt_or_le A Z with h | h
    · exact h
    · have : st * Z ≤ st * A := Int.mul_le_mul_of_nonneg_left h (by omega)
      omega
  obtain ⟨i, hi⟩ := Int.eq_ofNat_of_zero_le (show 0 ≤ Z - A - 1 by omega)
  have e3 : firstF wd st off fr + (i : Int) * st = z := by
    rw [e1, ← hi, Int.sub_mul, Int.sub_mul, Int.one_mul, Int.mul_comm Z, Int.mul_comm A]; omega
  have hiq : i < q + 1 := by
    rcases Nat.lt_or_ge i (q + 1) with h | h
    · exact h
    · have : ((q : Int) + 1) * st ≤ (i : Int) * st := Int.mul_le_mul_of_nonneg_right (by omega) (by omega)
      rw [Int.add_mul, Int.one_mul] at this
      omega
  unfold allW spansL
  rw [hq2, List.mem_map]
  exact ⟨i, List.mem_range.2 hiq, by rw [e3]⟩
theorem all_form {wd st off fr tO : Int} {x : Int × Int} (h : x ∈ allW wd st off fr tO) : ∃ i : Nat, i < allN wd st off fr tO ∧ x.1 = firstF wd st off fr + (i : Int) * st := by
  unfold allW spansL at h
  obtain ⟨i, hi, rfl⟩ := List.mem_map.1 h
  exact ⟨i, List.mem_range.1 hi, rfl⟩
theorem all_near {wd st off fr tO : Int} (hv : windowB wd st off = true) (hle : fr ≤ tO) (hs : tO - fr ≤ 3000) {x y : Int × Int} (hx : x ∈ allW wd st off fr tO) (hy : y ∈ allW wd st off fr tO) : x.1 ≤ y.1 + 4398046511104 := by
  obtain ⟨v1, v2, v3, v4, v5, v6, v7⟩ := window_nums hv
  obtain ⟨i, hi, ei⟩ := all_form hx
  obtain ⟨j, hj, ej⟩ := all_form hy
  by_cases hlt : fr < tO
  · obtain ⟨q, hq1, hq2, hq3⟩ := all_count hv hlt
    have hm : (i : Int) * st ≤ (q : Int) * st := Int.mul_le_mul_of_nonneg_right (by omega) (by omega)
    have hm2 : 0 * st ≤ (j : Int) * st := Int.mul_le_mul_of_nonneg_right (by omega) (by omega)
    have e2 : lastF st off (tO - 1) ≤ tO - 1 := by
      unfold lastF
      have := Int.emod_nonneg (tO - 1 - off) (show st ≠ 0 by omega)
      omega
    have e1 : fr - wd < firstF wd st off fr := by
      unfold firstF lastF
      have := Int.emod_lt_of_pos (fr - wd - off) (show 0 < st by omega)
      omega
    omega
  · obtain rfl : fr = tO := by omega
    unfold allN at hi
    rw [if_pos rfl] at hi
    omega
theorem all_at {wd st off fr tO : Int} {j : Nat} {w : Int × Int} (h : (allW wd st off fr tO)[j]? = some w) : w.1 = firstF wd st off fr + (j : Int) * st := by
  unfold allW spansL at h
  rw [List.getElem?_map] at h
  cases hr : (List.range (allN wd st off fr tO))[j]? with
  | none => rw [hr] at h; cases h
  | some i =>
    rw [hr] at h
    obtain ⟨h1, h2⟩ := List.getElem?_eq_some_iff.1 hr
    simp at h2
    subst h2
    simp only [Option.map_some, Option.some.injEq] at h
    rw [← h]
theorem all_few {wd st off fr tO : Int} (hv : windowB wd st off = true) (hle : fr ≤ tO) (hs : tO - fr ≤ 3000) : allN wd st off fr tO ≤ 3064 := by
  by_cases hlt : fr < tO
  · obtain ⟨q, hq1, hq2, hq3⟩ := all_count hv hlt
    omega
  · obtain rfl : fr = tO := by omega
    unfold allN
    rw [if_pos rfl]
    omega

/-- Where windows of points begin, and what they have. -/
theorem gat_keys {wd st off fr tO : Int} {l : List Pt} (H : QIn wd st off fr tO l) {q : Int × Ag} (hq : q ∈ gatL wd st off l) : q.1 % st = off % st ∧ fr - wd < q.1 ∧ q.1 < tO ∧ fr < tO := by
  obtain ⟨v1, v2, v3, v4, v5, v6, v7⟩ := window_nums H.win
  obtain ⟨p, hp, x, hx, e⟩ := gatL_keys l q hq
  have h := (mem_winL v3 v4).1 hx
  have hp2 := H.pt p hp
  rw [← e]
  exact ⟨h.1, by omega, by omega, by omega⟩
theorem gat_ag {wd st off fr tO : Int} {l : List Pt} (H : QIn wd st off fr tO l) {q : Int × Ag} (hq : q ∈ gatL wd st off l) : Had q.2 ∧ q.2.bnd 60 := by
  obtain ⟨v1, v2, v3, v4, v5, v6, v7⟩ := window_nums H.win
  have hget : aget (gatL wd st off l) q.1 = if l.filter (fun p => inW wd st off q.1 p.t) = [] then none else some (agA (l.filter (fun p => inW wd st off q.1 p.t))) := by
    rw [gatL_gen, genL_get _ _ (fun p => winL_nodup (by omega))]
    have e : (fun x : Pt => decide (q.1 ∈ (winL wd st off x.t).map (·.1))) = fun p : Pt => inW wd st off q.1 p.t := by funext p; exact inW_mem v3 v4
    rw [e, foldA_agA]
  rw [aget_of_mem (gatL_nodup _) (show (q.1, q.2) ∈ gatL wd st off l from hq)] at hget
  split at hget
  · cases hget
  · rename_i hne
    have he := Option.some.inj hget
    have hlen := List.length_filter_le (fun p : Pt => inW wd st off q.1 p.t) l
    have hl := H.len
    have hb : ∀ p ∈ l.filter (fun p => inW wd st off q.1 p.t), -9223372036854775808 ≤ p.v ∧ p.v ≤ 9223372036854775807 := fun p hp => (H.pt p (List.mem_filter.1 hp).1).2.2
    rw [he]
    exact ⟨agA_had _ hne (by omega) hb, (agA_bnd _ hb).mono (by omega)⟩
theorem had_val {g : Ag} (h : Had g) (b : g.bnd 60) : ValOk g := by
  obtain ⟨n1, n2, mn1, mm, mx2, f1, f2, l1, l2, _, _, _⟩ := h
  unfold Ag.bnd at b
  obtain ⟨b1, b2, b3, b4⟩ := b
  exact ⟨n1, by omega, by omega, by omega, by omega, by omega, by omega⟩
theorem psp_bnd {X n B : Int} (hn : 1 ≤ n) (h0 : -B ≤ X) (h1 : X ≤ B) : -B ≤ X / n ∧ X / n ≤ B := by
  have hB : 0 ≤ B := by omega
  have hB2 : B * 1 ≤ B * n := Int.mul_le_mul_of_nonneg_left hn hB
  refine ⟨(Int.le_ediv_iff_mul_le (by omega)).2 ?_, Int.ediv_le_of_le_mul (by omega) (by omega)⟩
  rw [Int.neg_mul]
  omega
theorem had_small {g : Ag} (h : Had g) (b : g.bnd 60) (fn : Int) : -1208925819614629174706176 ≤ valI g fn ∧ valI g fn ≤ 1208925819614629174706176 := by
  obtain ⟨n1, n2, mn1, mm, mx2, f1, f2, l1, l2, _, _, _⟩ := h
  unfold Ag.bnd at b
  obtain ⟨b1, b2, b3, b4⟩ := b
  have hd := psp_bnd (X := g.s) (n := g.n) (B := 1208925819614629174706176) n1 (by omega) (by omega)
  unfold valI
  repeat' split
  all_goals omega

theorem raw_rows {fn wd st off fr tO : Int} {l : List Pt} (H : QIn wd st off fr tO l) {ds : List (Int × Ag)} (hp : ds.Perm (gatL wd st off l)) (hs : (ds.map (·.1)).Pairwise (· ≤ ·)) :
    (∀ p ∈ ds, ValOk p.2 ∧ -2305843009213693952 ≤ p.1 ∧ p.1 ≤ 2305843009213693952) ∧ WinRows st (firstF wd st off fr) (allW wd st off fr tO) (ds.map (rowB wd fn)) ∧ RowsOk (ds.map (rowB wd fn)) := by
  obtain ⟨v1, v2, v3, v4, v5, v6, v7⟩ := window_nums H.win
  have hfr := H.fr1
  have hto := H.to2
  have hn : (ds.map (·.1)).Nodup := (hp.map _).nodup_iff.2 (gatL_nodup l)
  have hlt : (ds.map (·.1)).Pairwise (· < ·) := (hs.and hn).imp (fun h => by omega)
  have key := fun q hq => gat_keys H (hp.subset (a := q) hq)
  have ag := fun q hq => gat_ag H (hp.subset (a := q) hq)
  refine ⟨fun p hp' => ?_, ⟨fun r hr => ?_, ?_, fun j w h => all_at h, fun x hx y hy => all_near H.win H.le H.small hx hy, v3⟩, ⟨fun r hr => ?_, fun r hr => ?_⟩⟩
  · have k := key p hp'
    have a := ag p hp'
    exact ⟨had_val a.1 a.2, by omega, by omega⟩
  · obtain ⟨p, hp', rfl⟩ := List.mem_map.1 hr
    have k := key p hp'
    exact ⟨rfl, all_mem H.win k.2.2.2 k.1 k.2.1 k.2.2.1⟩
  · rw [List.pairwise_map] at hlt ⊢
    exact hlt
  · obtain ⟨p, hp', rfl⟩ := List.mem_map.1 hr
    have k := key p hp'
    show -2305843009213693952 ≤ p.1 ∧ p.1 ≤ 2305843009213693952
    omega
  · obtain ⟨p, hp', rfl⟩ := List.mem_map.1 hr
    have a := ag p hp'
    exact had_small a.1 a.2 fn

/-- The rows of all points. -/
def rawR (fn wd st off fr tO fill : Int) (l : List Pt) : List Rw := fillL fill (allW wd st off fr tO) ((docL wd st off l).map (rowOf fn))
theorem doc_rows {fn wd st off fr tO : Int} {l : List Pt} (H : QIn wd st off fr tO l) {ds : List (Int × Ag)} (hp : ds.Perm (gatL wd st off l)) (hs : (ds.map (·.1)).Pairwise (· ≤ ·)) : (docL wd st off l).map (rowOf fn) = ds.map (rowB wd fn) := by
  obtain ⟨v1, v2, v3, v4, v5, v6, v7⟩ := window_nums H.win
  rw [doc_wins v3 v4 l hp hs, List.map_map]
  rfl
theorem sorted_gat (wd st off : Int) (l : List Pt) : ∃ ds : List (Int × Ag), ds.Perm (gatL wd st off l) ∧ (ds.map (·.1)).Pairwise (· ≤ ·) := by
  refine ⟨(gatL wd st off l).mergeSort (fun x y => decide (x.1 ≤ y.1)), List.mergeSort_perm _ _, ?_⟩
  rw [List.pairwise_map]
  exact (List.pairwise_mergeSort (le := fun x y : Int × Ag => decide (x.1 ≤ y.1)) (fun x y z => by simp; omega) (fun x y => by simp; omega) _).imp (fun {x y} h => by simpa using h)
theorem doc_ok {fn wd st off fr tO : Int} {l : List Pt} (H : QIn wd st off fr tO l) : WinRows st (firstF wd st off fr) (allW wd st off fr tO) ((docL wd st off l).map (rowOf fn)) ∧ RowsOk ((docL wd st off l).map (rowOf fn)) ∧ (docL wd st off l).length ≤ 3840 ∧
    ∀ b ∈ docL wd st off l, ValOk b.a := by
  obtain ⟨ds, hp, hs⟩ := sorted_gat wd st off l
  obtain ⟨v1, v2, v3, v4, v5, v6, v7⟩ := window_nums H.win
  rw [doc_rows H hp hs]
  have h := raw_rows (fn := fn) H hp hs
  refine ⟨h.2.1, h.2.2, ?_, fun b hb => ?_⟩
  · have h1 := docL_len H.win l
    have h2 := H.len
    omega
  · rw [doc_wins v3 v4 l hp hs] at hb
    obtain ⟨p, hp', rfl⟩ := List.mem_map.1 hb
    exact (h.1 p hp').1

/-! A choice: buckets of a tier, and the points outside of them. -/
structure ChIn (wd st off fr tO wi o a b : Int) (l : List Pt) (B : List Bk) : Prop where
  w1 : 1 ≤ wi
  m1 : st % wi = 0
  m2 : (off - o) % wi = 0
  m3 : wd % wi = 0
  fa : fr ≤ a
  ab : a ≤ b
  bt : b ≤ tO
  t : TierB wi o a b l B
  few : B.length ≤ 60 - (l.filter (outP a b)).length

theorem pair_le {E : List Bk} (h : (E.map (·.lo)).Pairwise (· ≤ ·)) : E.Pairwise (fun x y => x.lo ≤ y.lo) := by
  rw [List.pairwise_map] at h
  exact h
theorem ch_parts {wd st off fr tO wi o a b : Int} {l : List Pt} {B : List Bk} (H : QIn wd st off fr tO l) (C : ChIn wd st off fr tO wi o a b l B) {E : List Bk} (hE : E.Perm (B ++ (l.filter (outP a b)).map oneB)) (hs : (E.map (·.lo)).Pairwise (· ≤ ·)) : PartB wd st off l E := by
  obtain ⟨v1, v2, v3, v4, v5, v6, v7⟩ := window_nums H.win
  exact parts_all C.w1 v3 C.m1 C.m2 C.m3 H.up C.t hE (pair_le hs)
theorem ch_join {wd st off fr tO wi o a b : Int} {l : List Pt} {B : List Bk} (H : QIn wd st off fr tO l) (C : ChIn wd st off fr tO wi o a b l B) {E : List Bk} (hE : E.Perm (B ++ (l.filter (outP a b)).map oneB)) (hs : (E.map (·.lo)).Pairwise (· ≤ ·))
    {ds : List (Int × Ag)} (hp : ds.Perm (joinL wd st off E)) (hd : (ds.map (·.1)).Pairwise (· ≤ ·)) : ds.Perm (gatL wd st off l) := by
  obtain ⟨v1, v2, v3, v4, v5, v6, v7⟩ := window_nums H.win
  obtain ⟨d2, hp2, hd2⟩ := sorted_gat wd st off l
  have := wins_unique (genL_nodup _ _ _) (gatL_nodup l) hp hp2 hd hd2 (fun z => join_parts v3 v4 (ch_parts H C hE hs) z)
  rw [this]
  exact hp2
theorem ch_rows {fn wd st off fr tO fill wi o a b : Int} {l : List Pt} {B : List Bk} (H : QIn wd st off fr tO l) (C : ChIn wd st off fr tO wi o a b l B) : RowsIt fn wd st off fr tO fill (l.filter (outP a b)) B := by
  obtain ⟨v1, v2, v3, v4, v5, v6, v7⟩ := window_nums H.win
  have hfr := H.fr1
  have hto := H.to2
  have hlen := List.length_filter_le (outP a b) l
  have hl := H.len
  refine ⟨fun p hp => (H.pt p (List.mem_filter.1 hp).1).2.2, fun p hp => ?_, ?_, fun x hx => ?_, fun E hE hs => ⟨fun e he => ?_, (ch_parts H C hE hs).side⟩, fun E ds hE hs hp hd => raw_rows H (ch_join H C hE hs hp hd) hd⟩
  · have := H.pt p (List.mem_filter.1 hp).1
    omega
  · have := C.few
    omega
  · have h := C.t.lo x hx
    have := C.fa
    have := C.bt
    have := C.w1
    omega
  · have h := parts_fit H.win C.w1 C.m1 C.m2 C.m3 H.up C.t hfr hto C.fa C.bt (by omega) H.pt hE e he
    exact ⟨h.1, h.2.1.mono (by omega)⟩
theorem ch_res {fn wd st off fr tO fill wi o a b : Int} {l : List Pt} {B : List Bk} (H : QIn wd st off fr tO l) (C : ChIn wd st off fr tO wi o a b l B) {R : List Rw} (h : RowsRes fn wd st off fr tO fill (l.filter (outP a b)) B R) : R = rawR fn wd st off fr tO fill l := by
  obtain ⟨E, ds, hE, hs, hp, hd, rfl⟩ := h
  unfold rawR
  rw [doc_rows H (ch_join H C hE hs hp hd) hd]
theorem ch_lies {wd st off fr tO wi o a b : Int} {l : List Pt} {B : List Bk} (H : QIn wd st off fr tO l) (C : ChIn wd st off fr tO wi o a b l B) : LiesOk fr tO a b (l.filter (outP a b)) B := by
  refine ⟨C.fa, C.ab, C.bt, fun p hp => ?_, H.up.filter _, fun x hx => ?_, C.t.rise⟩
  · obtain ⟨h1, h2⟩ := List.mem_filter.1 hp
    have h3 := H.pt p h1
    unfold outP at h2
    simp only [Bool.or_eq_true, decide_eq_true_eq] at h2
    omega
  · have h := C.t.lo x hx
    exact ⟨h.2.2.1, h.2.2.2.1⟩

/-- The choice of points alone. -/
theorem ch_raw {wd st off fr tO : Int} {l : List Pt} (H : QIn wd st off fr tO l) : ChIn wd st off fr tO 1 0 fr fr l [] ∧ l.filter (outP fr fr) = l := by
  have e : l.filter (outP fr fr) = l := List.filter_eq_self.2 (fun p _ => by unfold outP; simp; omega)
  refine ⟨⟨by omega, Int.emod_one _, Int.emod_one _, Int.emod_one _, Int.le_refl _, Int.le_refl _, H.le, tier_none 1 0 fr l, by simp⟩, e⟩
/-- The choice of a tier. -/
theorem ch_tier {wd st off fr tO : Int} {l : List Pt} (H : QIn wd st off fr tO l) {ts : List Ti} (hf : ∀ t ∈ ts, TiFine t) {c : Pt} (hc : c ∈ chFrom fr tO wd st off fr ts 0) :
    ∃ (k : Nat) (t : Ti), c = ⟨k, c.v, c.s⟩ ∧ ts[k]? = some t ∧ windowB t.w t.w t.o = true ∧ fr ≤ c.v ∧ c.v ≤ c.s ∧ c.s ≤ tO ∧ (c.v - t.o) % t.w = 0 ∧ (c.s - t.o) % t.w = 0 ∧
      ∀ ds : List (Int × Ag), ds.Perm (gatL t.w t.w t.o (l.filter (midP c.v c.s))) → (ds.map (·.1)).Pairwise (· ≤ ·) → ChIn wd st off fr tO t.w t.o c.v c.s l (ds.map (bkOf t.w)) := by
  obtain ⟨k, _, t, _, E⟩ := edge_ok fr tO wd st off fr ts hf c hc
  obtain ⟨k2, t2, e1, _, _, e3, e4, _⟩ := chFrom_mem _ _ _ _ _ _ _ _ _ hc
  have hk : k = k2 := by
    have h1 := E.ct
    rw [e1] at h1
    have := congrArg Pt.t h1
    simp only at this
    omega
  subst hk
  obtain rfl : t = t2 := by
    have := E.at_
    simp only [Nat.sub_zero] at e3
    rw [e3] at this
    exact (Option.some.inj this).symm
  have tf := hf t (List.mem_of_getElem? e3)
  unfold TiFine at tf
  have hfit : fitsW wd st off t.w t.o = true := by
    unfold tierIn at e4
    exact (Bool.and_eq_true_iff.1 e4).2
  unfold fitsW at hfit
  simp only [Bool.and_eq_true, decide_eq_true_eq] at hfit
  obtain ⟨⟨⟨⟨⟨⟨⟨_, f1⟩, f2⟩, f3⟩, f4⟩, f5⟩, f6⟩, f7⟩ := hfit
  have ma := (tmod0 _ _).1 E.ma
  have mb := (tmod0 _ _).1 E.mb
  have hab := E.ab
  have ha1 := E.a1
  have hb1 := E.b1
  refine ⟨k, t, E.ct, E.at_, by unfold windowB; simp only [Bool.and_eq_true, decide_eq_true_eq]; omega, E.a1, by omega, E.b1, ma, mb, fun ds hp hd => ⟨f1, f6, f7, f5, E.a1, by omega, E.b1, tier_of f1 ma mb l hp hd, ?_⟩⟩
  have h1 := gatL_len1 (wd := t.w) (st := t.w) (off := t.o) (fun x => by
    have := winN_parts (st := t.w) (off := t.o) (t := x) (p := 1) (by omega) (by omega)
    simpa using this) (l.filter (midP c.v c.s))
  have h2 : (l.filter (midP c.v c.s)).length + (l.filter (outP c.v c.s)).length = l.length := by
    have : l.filter (outP c.v c.s) = l.filter (fun p => !midP c.v c.s p) := List.filter_congr (fun p _ => by
      unfold outP midP
      rw [Bool.eq_iff_iff]
      simp)
    rw [this]
    have h3 := (List.filter_append_perm (midP c.v c.s) l).length_eq
    rw [List.length_append] at h3
    exact h3
  have h4 := H.len
  rw [List.length_map, hp.length_eq]
  omega
/-- The points ahead of a span, and those behind it. -/
theorem cut_two {l : List Pt} (hr : l.Pairwise (fun p q => p.t < q.t)) {fr tO a b : Int} (h1 : a ≤ b) (hp : ∀ p ∈ l, fr ≤ p.t ∧ p.t < tO) : cutL fr a l ++ cutL b tO l = l.filter (outP a b) := by
  have e1 : cutL fr a l = l.filter (fun p => decide (p.t < a)) := by
    unfold cutL
    exact List.filter_congr (fun p hp' => by have := hp p hp'; simp; omega)
  have e2 : cutL b tO l = l.filter (fun p => decide (b ≤ p.t)) := by
    unfold cutL
    exact List.filter_congr (fun p hp' => by have := hp p hp'; simp; omega)
  rw [e1, e2]
  clear e1 e2 hp
  induction l with
  | nil => rfl
  | cons p l ih =>
    rw [List.pairwise_cons] at hr
    have ih := ih hr.2
    by_cases ha : p.t < a
    · rw [List.filter_cons_of_pos (by simpa using ha), List.filter_cons_of_neg (by simp; omega), List.filter_cons_of_pos (by unfold outP; simp; omega), List.cons_append, ih]
    · by_cases hb : b ≤ p.t
      · have hn : l.filter (fun p => decide (p.t < a)) = [] := List.filter_eq_nil_iff.2 (fun q hq => by have := hr.1 q hq; simp; omega)
        rw [hn] at ih
        rw [List.filter_cons_of_neg (by simpa using ha), hn, List.filter_cons_of_pos (by simpa using hb), List.filter_cons_of_pos (by unfold outP; simp; omega), ← ih]
        rfl
      · rw [List.filter_cons_of_neg (by simpa using ha), List.filter_cons_of_neg (by simpa using hb), List.filter_cons_of_neg (by unfold outP; simp; omega), ih]
end Go.Proofs.YtokllgdbmnmieaaGreat

/-! plan.Rows at the ends: where points and buckets are no choice's; at the law's own query. -/

namespace Go.Proofs.YtokllgdbmnmieaaGreat
open Go.RowKit Go.Lib Go.Sort

theorem planCheck_win {op fn : Int} {ser oth : ByteArray} {fr tO wd st off gap tol fill : Int} (h : planCheckB op fn ser oth fr tO wd st off gap tol fill = true) :
    windowB wd st off = true ∧ fr ≤ tO ∧ (0 ≤ fill ∧ fill ≤ 3) ∧ 0 ≤ fn ∧ fn ≤ 6 := by
  unfold planCheckB checkB at h
  simp only [Bool.and_eq_true, decide_eq_true_eq] at h
  obtain ⟨⟨⟨⟨⟨h1, h2⟩, h3⟩, h4⟩, h5⟩, h6⟩ := h
  unfold fitsB at h1
  rw [if_pos h6] at h1
  unfold withinB at h1 h4
  simp only [Bool.and_eq_true, decide_eq_true_eq] at h1 h4
  exact ⟨h1.1.1.2, by omega, by omega, by omega⟩

set_option maxHeartbeats 4000000 in
set_option maxRecDepth 100000 in
theorem prows_bad (op fn : Int) (ser oth : ByteArray) (fr tO wd st off gap tol fill : Int) (hse : ser.size ≤ maxLen) (hot : oth.size ≤ maxLen) (i A B : Int) (w : World)
    (hck : planCheckB op fn ser oth fr tO wd st off gap tol fill = true) (h1 : fr ≤ A) (h2 : B < A) :
    Calls Tryz.prog 6 #[qV op fn ser oth fr tO wd st off gap tol fill, .agg #[.int .i64 i, .int .i64 A, .int .i64 B], .slice none 0 0, .slice none 0 0] w fun e w' => e = .returned (.tuple #[.slice none 0 0, .int .i64 2]) ∧ Ext w w' := by
  have HCK := Lib.hid (fun W => planCheck_any op fn ser oth fr tO wd st off gap tol fill hse hot W)
  simp only [hck, if_true] at HCK
  have HLI := Lib.hid (fun W => liesBad_any op fn ser oth fr tO wd st off gap tol fill i A B W h1 h2)
  unfold qV at HCK HLI ⊢
  clear hck hse hot h1 h2
  go_enter Tryz.func6, Tryz.ntmps6
  go_wp2_with fail
  obtain ⟨W, hW⟩ : ∃ W, W = (w.alloc (.cells #[.int .i64 op, .int .i64 fn, .string ser, .string oth, .int .i64 fr, .int .i64 tO, .int .i64 wd, .int .i64 st, .int .i64 off, .int .i64 gap, .int .i64 tol, .int .i64 fill] 23 (0, 0))).alloc (.cells #[.int .i64 i, .int .i64 A, .int .i64 B] 35 (0, 0)) := ⟨_, rfl⟩
  have HXW : Hid (Ext w W) := Lib.hid (by rw [hW]; exact ((Ext.refl w).alloc _).alloc _)
  have HQ : Hid (W.heap[w.heap.size]? = some (.cells #[.int .i64 op, .int .i64 fn, .string ser, .string oth, .int .i64 fr, .int .i64 tO, .int .i64 wd, .int .i64 st, .int .i64 off, .int .i64 gap, .int .i64 tol, .int .i64 fill] 23 (0, 0))) := Lib.hid (by
    rw [hW]
    have h0 := heap_alloc_new w (.cells #[.int .i64 op, .int .i64 fn, .string ser, .string oth, .int .i64 fr, .int .i64 tO, .int .i64 wd, .int .i64 st, .int .i64 off, .int .i64 gap, .int .i64 tol, .int .i64 fill] 23 (0, 0))
    exact (((Ext.refl _).alloc _).block (block_lt h0)).trans h0)
  have HC : Hid (W.heap[w.heap.size + 1]? = some (.cells #[.int .i64 i, .int .i64 A, .int .i64 B] 35 (0, 0))) := Lib.hid (by rw [hW]; exact heap_alloc2 w _ _)
  rw [← hW]
  clear hW
  refine (HCK.out _).mono ?_
  rintro e w1 ⟨rfl, hx1⟩
  have HX1 := Lib.hid (HXW.out.trans hx1)
  have HQ1 := Lib.hid ((hx1.block (block_lt HQ.out)).trans HQ.out)
  have HC1 := Lib.hid ((hx1.block (block_lt HC.out)).trans HC.out)
  clear hx1 HXW HQ HC HCK
  have k0 : w1.cell? ⟨w.heap.size + 1, 0, none⟩ = some (.int .i64 i) := by have := cell_of_block HC1.out 0; simpa using this
  have k1 : w1.cell? ⟨w.heap.size + 1, 1, none⟩ = some (.int .i64 A) := by have := cell_of_block HC1.out 1; simpa using this
  have k2 : w1.cell? ⟨w.heap.size + 1, 2, none⟩ = some (.int .i64 B) := by have := cell_of_block HC1.out 2; simpa using this
  go_wp2_with (first | (refine wpList_load_box rfl _ _ rfl _ _ _ _ _ rfl HQ1.out Tryz.underlying23 rfl qry_info ?_))
  refine (HLI.out _).mono ?_
  rintro e w2 ⟨rfl, hx2⟩
  have HX2 := Lib.hid (HX1.out.trans hx2)
  clear hx2 HX1 HQ1 HC1 HLI k0 k1 k2
  go_wp2_with fail
  go_ret2
  exact ⟨rfl, HX2.out⟩

/-- The law's own query has one row. -/
theorem one_in : QIn 3 3 0 0 6 [⟨4, 0, 0⟩] :=
  ⟨by decide, by decide, by decide, by decide, by decide, by decide, by simp, fun p hp => by simp at hp; subst hp; decide⟩
theorem one_raw : rawR 0 3 3 0 0 6 0 [⟨4, 0, 0⟩] = [⟨3, 6, 1, false⟩] := by kernel_rfl
theorem one_rows (w : World) (b : Nat) (h : Src w 3 (.slice (some ⟨b, 0, none⟩) 1 1) 1 (pts [⟨4, 0, 0⟩])) :
    Calls Tryz.prog 6 #[qV 1 0 ⟨#[97]⟩ ⟨#[]⟩ 0 6 3 3 0 0 0 0, .agg #[.int .i64 (-1), .int .i64 0, .int .i64 0], .slice (some ⟨b, 0, none⟩) 1 1, .slice none 0 0] w fun e w' => ∃ rb ro c', e = .returned (.tuple #[.slice (some ⟨rb, ro, none⟩) 1 c', .int .i64 0]) ∧ Ext w w' ∧ w'.cell? ⟨rb, ro, none⟩ = some (.int .i64 3) := by
  obtain ⟨C, hC⟩ := ch_raw one_in
  have hli := ch_lies one_in C
  have hit := ch_rows (fn := 0) (fill := 0) one_in C
  have hres := fun R => ch_res (fn := 0) (fill := 0) (R := R) one_in C
  rw [hC] at hli hit hres
  refine (prows_any 1 0 ⟨#[97]⟩ ⟨#[]⟩ 0 6 3 3 0 0 0 0 (by decide +kernel) (by decide +kernel) (-1) 0 0 w _ 1 1 [⟨4, 0, 0⟩] h none 0 0 [] (.inl ⟨rfl, rfl, rfl⟩) (by decide +kernel) hli (by decide) (by decide) (by decide) (by decide) (by decide +kernel) (by decide) (by decide) hit).mono ?_
  rintro e w' ⟨a', m, c', rfl, hx, R, hR, hs⟩
  rw [hres R hR, one_raw] at hs
  have hl := enc_src_len rwc_len (by decide) hs
  simp at hl
  subst hl
  obtain ⟨rb, ro, r, rfl, hr, r0, _⟩ := rws_src hs (k := 0) (by omega)
  simp at hr
  subst hr
  exact ⟨rb, ro, c', rfl, hx, by simpa using r0⟩
end Go.Proofs.YtokllgdbmnmieaaGreat

/-! tidemillref26.Raw: the document's rows of all points. -/

namespace Go.Proofs.YtokllgdbmnmieaaGreat
open Go.RowKit Go.Lib Go.Sort

theorem time_in {t : Int} (h1 : -1152921504606846976 ≤ t) (h2 : t ≤ 1152921504606846976) : timeB t = true := by
  unfold timeB; simp only [Bool.and_eq_true, decide_eq_true_eq]; omega

set_option maxHeartbeats 8000000 in
set_option maxRecDepth 100000 in
theorem rraw_any (op fn : Int) (ser oth : ByteArray) (fr tO wd st off gap tol fill : Int) (w : World) (a : Option Addr) (n c : Nat) (l : List Pt) (hl : Src w 3 (.slice a n c) n (pts l)) (H : QIn wd st off fr tO l) (hf : 0 ≤ fill ∧ fill ≤ 3) (hfn : 0 ≤ fn ∧ fn ≤ 6) :
    Calls Tryz.prog 7 #[qV op fn ser oth fr tO wd st off gap tol fill, .slice a n c] w fun e w' => ∃ a' m c', e = .returned (.tuple #[.slice a' m c', .int .i64 0]) ∧ Src w' 5 (.slice a' m c') m (rws (rawR fn wd st off fr tO fill l)) ∧ Ext w w' := by
  have hn : n ≤ 60 := by have := src_len hl; have := H.len; omega
  have HW := Lib.hid (fun W (hx : Ext w W) => rwindows_any W a n c l wd st off (hl.ext hx) (by omega) (fun p hp => (H.pt p hp).2.2))
  have HWN : Hid (windowB wd st off = true ∧ l.any (fun p => !timeB p.t) = false) := Lib.hid ⟨H.win, by
    rw [List.any_eq_false]
    intro p hp
    have h1 := H.pt p hp
    have h2 := H.fr1
    have h3 := H.to2
    simp [time_in (t := p.t) (by omega) (by omega)]⟩
  have HD := Lib.hid (doc_ok (fn := fn) H)
  have HFI := Lib.hid (fun (R : List Rw) (W : World) (a : Option Addr) (n c : Nat) (hR : Src W 5 (.slice a n c) n (rws R)) (hn : n ≤ 70000) hW hok => rfill_any fill wd st off fr tO R W a n c hR hn H.win (time_in H.fr1 (by have := H.le; have := H.to2; omega)) (time_in (by have := H.le; have := H.fr1; omega) H.to2) H.le (by have := all_few H.win H.le H.small; omega) hf.1 hf.2 hW hok)
  obtain ⟨L, hL⟩ : ∃ L, L = docL wd st off l := ⟨_, rfl⟩
  have HRW : Hid (rawR fn wd st off fr tO fill l = fillL fill (allW wd st off fr tO) (L.map (rowOf fn))) := Lib.hid (by rw [hL]; rfl)
  have HWP : Hid (∀ W e w', rwinPost W wd st off l e w' → ∃ v n, e = .returned (.tuple #[v, .int .i64 0]) ∧ MadeTo W 92 19 v n (rbs L) w' ∧ L.length = n) := Lib.hid (fun W e w' h => by
    unfold rwinPost at h
    rw [if_pos HWN.out, ← hL] at h
    exact h)
  rw [← hL] at HD
  rw [HRW.out]
  unfold qV
  clear hl H hL hf
  go_enter Tryz.func7, Tryz.ntmps7
  go_wp2_with fail
  generalize hW : World.alloc _ _ = W
  have HX : Hid (Ext w W) := Lib.hid (by subst hW; exact (Ext.refl w).alloc _)
  have BQ : Hid (W.heap[w.heap.size]? = some (.cells #[.int .i64 op, .int .i64 fn, .string ser, .string oth, .int .i64 fr, .int .i64 tO, .int .i64 wd, .int .i64 st, .int .i64 off, .int .i64 gap, .int .i64 tol, .int .i64 fill] 23 (0, 0))) := Lib.hid (by subst hW; exact heap_alloc_new w _)
  clear hW
  have c6 : W.cell? ⟨w.heap.size, 6, none⟩ = some (.int .i64 wd) := by have := cell_of_block BQ.out 6; simpa using this
  have c7 : W.cell? ⟨w.heap.size, 7, none⟩ = some (.int .i64 st) := by have := cell_of_block BQ.out 7; simpa using this
  have c8 : W.cell? ⟨w.heap.size, 8, none⟩ = some (.int .i64 off) := by have := cell_of_block BQ.out 8; simpa using this
  go_wp2_with fail
  refine (HW.out W HX.out).mono ?_
  intro e w1 hpost
  obtain ⟨v, m, rfl, hm, hlen⟩ := HWP.out _ _ _ hpost
  obtain ⟨va, vc, rfl⟩ := hm.row.shape
  have HS := Lib.hid (hm.row.src (rbs_one _))
  have HX1 := Lib.hid (HX.out.trans hm.ext)
  have BQ1 := Lib.hid ((hm.ext.block (block_lt BQ.out)).trans BQ.out)
  have HLN := Lib.hid hlen
  have hm38 : m ≤ 3840 := by have := HD.out.2.2.1; omega
  clear hpost hm hlen c6 c7 c8 HX BQ HW HWP
  go_wp2_with fail
  go_loopw [8, 9] (fun s8 s9 wr => ∃ (k : Nat) (ra : Option Addr) (rc : Nat), s8 = .slice ra k rc ∧ s9 = .int .i64 k ∧ k ≤ m ∧ Hid (MadeTo w1 42 5 (.slice ra k rc) k (rws ((L.take k).map (rowOf fn))) wr)) (fun _ t _ => m - (RowKit.intOf t).toNat)
  case atStart => exact ⟨0, none, 0, rfl, rfl, by omega, Lib.hid ⟨Row.nil _ _ _, by simp [Value.ownBlock], Ext.refl _⟩⟩
  case round =>
    obtain ⟨k, ra, rc, rfl, rfl, hk, HI⟩ := hrel
    by_cases hlt : k < m
    · obtain ⟨pb, po, b, rfl, hb, hrg⟩ := enc_src rbc_len (by decide) (HS.out.ext HI.out.ext) hlt
      have HTK : Hid ((L.take (k + 1)).map (rowOf fn) = (L.take k).map (rowOf fn) ++ [rowOf fn b]) := Lib.hid (by rw [List.take_add_one, hb]; simp)
      have HVO := Lib.hid (HD.out.2.2.2 b (List.mem_of_getElem? hb))
      have HV := Lib.hid (fun W => rvalue26_any b.a fn W hfn.1 hfn.2 HVO.out (by have := HVO.out.n2; omega))
      obtain ⟨x, hx⟩ : ∃ x, x = valI b.a fn := ⟨_, rfl⟩
      have HRO : Hid (rowOf fn b = ⟨b.lo, b.hi, x, false⟩) := Lib.hid (by rw [hx]; rfl)
      rw [← hx] at HV
      obtain ⟨vh, hvh⟩ : ∃ y, y = x / 18446744073709551616 := ⟨_, rfl⟩
      obtain ⟨vl, hvl⟩ : ∃ y, y = x % 18446744073709551616 := ⟨_, rfl⟩
      rw [← hvh, ← hvl] at HV
      have HVV := Lib.hid (And.intro hvh hvl)
      obtain ⟨A, hA⟩ : ∃ A, A = agR b.a := ⟨_, rfl⟩
      have HAI : Hid ((Tryz.prog.info? 90).map (·.size) = some A.toList.length) := Lib.hid (by rw [hA]; exact ar_info)
      have HRA : Hid (∀ i u, A.toList[i]? = some u → wr.cell? ⟨pb, po + k * 19 + 2 + i, none⟩ = some u) := Lib.hid (fun i u hu => by
        have h2 := hrg (2 + i) u (by rw [hA] at hu; rw [Nat.add_comm]; exact hu)
        rw [← Nat.add_assoc] at h2
        exact h2)
      rw [← hA] at HV
      have f0 := cell_turned (T := fun _ => false) (show wr.cell? ⟨pb, po + k * 19, none⟩ = some (.int .i64 b.lo) from hrg 0 _ rfl) rfl
      have f1 := cell_turned (T := fun _ => false) (show wr.cell? ⟨pb, po + k * 19 + 1, none⟩ = some (.int .i64 b.hi) from hrg 1 _ rfl) rfl
      have f2 := cell_turned (T := fun _ => false) (show wr.cell? ⟨w.heap.size, 1, none⟩ = some (.int .i64 fn) by have := cell_of_block ((HI.out.ext.block (block_lt BQ1.out)).trans BQ1.out) 1; simpa using this) rfl
      have g2 : ∀ (d : Nat) (f : Nat → Obj) (os : Array Obj), (Instr.loadAt 90 (.pointer (some ⟨pb, po + k * 19 + 2, none⟩))).run Tryz.prog (turned wr (fun _ => false) d f os) = .ok (.agg A) (turned wr (fun _ => false) d f os) := fun d f os => by
        have h1 := run_loadAt_mid (P := Tryz.prog) (turned wr (fun _ => false) d f os) pb (po + k * 19 + 2) 90 A.toList _ (fun i u hu => cell_turned (T := fun _ => false) (HRA.out i u hu) rfl d f os) Tryz.underlying90 rfl HAI.out
        simpa using h1
      obtain ⟨lo, hlo⟩ : ∃ y, y = b.lo := ⟨_, rfl⟩
      obtain ⟨hi, hhi⟩ : ∃ y, y = b.hi := ⟨_, rfl⟩
      rw [← hlo] at f0 HRO
      rw [← hhi] at f1 HRO
      clear hA hb hrg hx hvh hvl hlo hhi
      go_upto_region 8 with fail
      refine wp_region_plan 21 (fun w' => ∃ p : Turned, w' = turned wr (fun _ => false) p.d p.f p.os) (.reads [0, 1, 2, 3, 4, 5, 6, 7, 8, 9, 10, 11, 12, 13, 14, 15, 16, 17] (.one 18 (.reads [19] (.one 20 (.one 21 (.one 22 .done)))))) (by kernel_rfl) (by kernel_rfl) (fun _ _ dd _ _ hh => by cases dd <;> exact hh) ?_ ?_
      · exact turned_of_ext (Ext.drewN wr 1)
      refine wpPlan_reads ?_
      simp only [pickOps, List.getElem?_cons_succ, List.getElem?_cons_zero]
      repeat (first | (go_big_quiet_want; refine quiet_load_law _ _ rfl _ _ rfl (fun w hw => by obtain ⟨p, rfl⟩ := hw; exact g2 p.d p.f p.os) ?_; go_big_quiet_on; simp only [Act.put, List.setIfInBounds_toArray, List.set_cons_succ, List.set_cons_zero]) | (go_big_quiet_step (fail)))
      refine wpQuiet_nil ?_
      clear f0 f1 f2 g2
      change wpPlan _ _ _ _ _ _ _ _ (wr.drewN 1)
      have HXd : Hid (Ext wr (wr.drewN 1)) := Lib.hid (Ext.drewN wr 1)
      generalize wr.drewN 1 = Wd at HXd ⊢
      refine wpPlan_one ?_
      simp only [pickOps, List.getElem?_cons_succ, List.getElem?_cons_zero]
      go_wp2_with fail
      refine (HV.out _).mono ?_
      rintro e w5 ⟨rfl, hx5⟩
      have HX5 := Lib.hid (HXd.out.trans hx5)
      clear hx5 HXd
      go_wp2_with fail
      refine thenX_mk (turned_of_ext HX5.out) (wpPlan_reads ?_)
      simp only [pickOps, List.getElem?_cons_succ, List.getElem?_cons_zero]
      repeat (go_big_quiet_step (fail))
      refine wpQuiet_nil ?_
      refine wpPlan_one ?_
      simp only [pickOps, List.getElem?_cons_succ, List.getElem?_cons_zero]
      go_wp2_with fail
      refine thenX_mk (turned_of_ext (HX5.out.alloc _)) (wpPlan_one ?_)
      simp only [pickOps, List.getElem?_cons_succ, List.getElem?_cons_zero]
      have HXA := Lib.hid (HX5.out.alloc (.cells #[.int .i64 lo, .int .i64 hi, .bool false, .int .i64 vh, .int .u64 vl] 42 (0, 0)))
      have HSX := Lib.hid (src_rw (p := (⟨lo, hi, x, false⟩ : Rw)) (by unfold rwc; rw [← HVV.out.1, ← HVV.out.2]; exact heap_alloc_new w5 (.cells #[.int .i64 lo, .int .i64 hi, .bool false, .int .i64 vh, .int .u64 vl] 42 (0, 0))))
      go_wp2_with (at_builtin; go_must (refine wpList_append_start elem_rw rfl _ _ rfl rfl rfl (Start.row (HI.out.row.ext HXA.out) HI.out.own) (HI.out.ext.trans HXA.out) HSX.out (by omega) (by unfold maxLen; omega) (by omega) ?_; intro v' w6 hmade); have HMD := Lib.hid hmade; obtain ⟨va', vc', rfl⟩ := hmade.row.shape; clear hmade)
      refine thenX_last (wpPlan_one ?_)
      simp only [pickOps, List.getElem?_cons_succ, List.getElem?_cons_zero]
      go_wp2_with fail
      refine thenX_last (wpPlan_done ?_)
      go_wp2_with fail
      go_roundw
      case rel => exact ⟨k + 1, va', vc', rfl, by go_num, by omega, Lib.hid (by rw [HTK.out, HRO.out, rws_append]; exact HMD.out)⟩
      case measure => simp [RowKit.intOf]; omega
    · have HTA : Hid (L.take k = L) := Lib.hid (List.take_of_length_le (by have := HLN.out; omega))
      rw [HTA.out] at HI
      have BQ2 := Lib.hid ((HI.out.ext.block (block_lt BQ1.out)).trans BQ1.out)
      have d4 : wr.cell? ⟨w.heap.size, 4, none⟩ = some (.int .i64 fr) := by have := cell_of_block BQ2.out 4; simpa using this
      have d5 : wr.cell? ⟨w.heap.size, 5, none⟩ = some (.int .i64 tO) := by have := cell_of_block BQ2.out 5; simpa using this
      have d6 : wr.cell? ⟨w.heap.size, 6, none⟩ = some (.int .i64 wd) := by have := cell_of_block BQ2.out 6; simpa using this
      have d7 : wr.cell? ⟨w.heap.size, 7, none⟩ = some (.int .i64 st) := by have := cell_of_block BQ2.out 7; simpa using this
      have d8 : wr.cell? ⟨w.heap.size, 8, none⟩ = some (.int .i64 off) := by have := cell_of_block BQ2.out 8; simpa using this
      have d11 : wr.cell? ⟨w.heap.size, 11, none⟩ = some (.int .i64 fill) := by have := cell_of_block BQ2.out 11; simpa using this
      go_wp2_with fail
      refine (HFI.out (L.map (rowOf fn)) wr ra k rc (HI.out.row.src (rws_one _)) (by omega) HD.out.1 HD.out.2.1).mono ?_
      rintro e w7 ⟨a', m', c', rfl, hs7, hx7⟩
      have HS7 := Lib.hid hs7
      have HX7 := Lib.hid (HX1.out.trans (HI.out.ext.trans hx7))
      clear hs7 hx7 d4 d5 d6 d7 d8 d11
      go_wp2_with fail
      go_ret2
      exact ⟨_, _, _, rfl, HS7.out, HX7.out⟩
end Go.Proofs.YtokllgdbmnmieaaGreat
