/- The document's gaps: tidemillref23.Fill, way 1. -/
import Derived.Test.YtokllgdbmnmieaaGreatR23g0
namespace Go.Proofs.YtokllgdbmnmieaaGreat
open Go.RowKit Go.Sort Go.Lib

set_option maxHeartbeats 8000000 in
set_option maxRecDepth 100000 in
theorem rfill_1 (how wd st off fr tO : Int) (R : List Rw) (w : World) (a : Option Addr) (n c : Nat) (hR : Src w 5 (.slice a n c) n (rws R)) (hn : n ≤ 70000) (hv : windowB wd st off = true) (h1 : timeB fr = true) (h2 : timeB tO = true) (h3 : fr ≤ tO) (hN : allN wd st off fr tO ≤ 65536)
    (hh : how = 1) (hW : WinRows st (firstF wd st off fr) (allW wd st off fr tO) R) (hok : RowsOk R) :
    Calls Tryz.prog 28 #[.slice a n c, .int .i64 wd, .int .i64 st, .int .i64 off, .int .i64 fr, .int .i64 tO, .int .i64 how] w fun e w' => ∃ a' m c', e = .returned (.tuple #[.slice a' m c', .int .i64 0]) ∧ Src w' 5 (.slice a' m c') m (rws (fillL how (allW wd st off fr tO) R)) ∧ Ext w w' := by
  have HR := Lib.hid hR
  have HW := Lib.hid hW
  have HOK := Lib.hid hok
  have LR := Lib.hid (enc_src_len rwc_len (by decide) hR)
  have HWA := Lib.hid (fun W => rall09_any wd st off fr tO W hv h1 h2 h3 hN)
  have HNN := Lib.hid hN
  obtain ⟨ws, hws⟩ : ∃ ws, ws = allW wd st off fr tO := ⟨_, rfl⟩
  obtain ⟨N, hNe⟩ : ∃ N, N = allN wd st off fr tO := ⟨_, rfl⟩
  obtain ⟨F, hF⟩ : ∃ F, F = firstF wd st off fr := ⟨_, rfl⟩
  rw [← hws, ← hF] at HW
  rw [← hws, ← hNe] at HWA
  rw [← hNe] at HNN
  rw [← hws]
  clear hR hW hok hv h1 h2 h3 hN hws hNe hF
  go_enter Tryz.func28, Tryz.ntmps28
  go_wp2_with fail
  refine (HWA.out _).mono ?_
  rintro e w1 ⟨v, rfl, hm⟩
  obtain ⟨va, vc, rfl⟩ := hm.row.shape
  have HX1 := Lib.hid hm.ext
  have HS := Lib.hid (hm.row.src (sps_one _))
  have LW := Lib.hid (enc_src_len spc_len (by decide) (hm.row.src (sps_one _)))
  have hNN : N ≤ 65536 := HNN.out
  clear hm HWA
  have hh1 : ¬ how < 0 := by omega
  have hh2 : ¬ 3 < how := by omega
  have hb2 : (how == 2) = false := beq_eq_false_iff_ne.2 (by omega)
  have hb3 : (how == 3) = false := beq_eq_false_iff_ne.2 (by omega)
  have HH := Lib.hid hh
  clear hh
  go_upto_block 0 with fail
  go_cut [14] (fun s14 wx => s14 = .slice none 0 0 ∧ Hid (Ext w1 wx))
  case first => as_aux_lemma =>
    go_wp2_with fail
    go_loopw [14, 18, 19] (fun s14 s18 s19 wr => ∃ k i : Nat, s14 = .slice none 0 0 ∧ s18 = .int .i64 k ∧ s19 = .int .i64 i ∧ k ≤ N ∧ i ≤ n ∧ Hid (∀ r m, R[i]? = some r → ws[m]? = some (r.lo, r.hi) → k ≤ m) ∧ Hid (Ext w1 wr)) (fun _ _ t _ => n - (RowKit.intOf t).toNat)
    case atStart => exact ⟨0, 0, rfl, rfl, rfl, by omega, by omega, Lib.hid (fun _ _ _ _ => Nat.zero_le _), Lib.hid (Ext.refl _)⟩
    case round =>
      obtain ⟨k, i, rfl, rfl, rfl, hk, hi, HK, HXR⟩ := hrel
      by_cases hlt : i < n
      · obtain ⟨rb, ro, r, rfl, hr, r0, r1, r2, r3, r4⟩ := rws_src (HR.out.ext (HX1.out.trans HXR.out)) hlt
        obtain ⟨m, hm, hme⟩ := win_idx HW.out (List.mem_of_getElem? hr)
        have hnul := (HW.out.mem r (List.mem_of_getElem? hr)).1
        rw [hnul] at r2
        have hkm : k ≤ m := HK.out r m hr hm
        have hmN : m < N := by have := LW.out; have := (List.getElem?_eq_some_iff.1 hm).1; omega
        have HRI := Lib.hid hr
        have HMI := Lib.hid hm
        have HME := Lib.hid hme
        clear hr hm hme r3 r4 hnul
        have HR012 := Lib.hid (And.intro r0 (And.intro r1 r2))
        clear r0 r1 r2
        obtain ⟨U, hU⟩ : ∃ U, U = wr := ⟨_, rfl⟩
        subst hU
        go_wp2_with fail
        go_loopw [18] (fun s18 wq => ∃ k' : Nat, s18 = .int .i64 k' ∧ k' ≤ m ∧ Hid (Ext U wq)) (fun t _ => m - (RowKit.intOf t).toNat)
        case atStart => exact ⟨k, rfl, hkm, Lib.hid (Ext.refl _)⟩
        case round =>
          obtain ⟨k', rfl, hk', HXQ⟩ := hrel
          have c0 := (HXQ.out.cell (World.block_lt_of_cell? _ _ HR012.out.1)).trans HR012.out.1
          by_cases hkm' : k' < m
          · obtain ⟨qb, qo, q, rfl, hq, q0, q1⟩ := sps_src (HS.out.ext (HXR.out.trans HXQ.out)) (show k' < N by omega)
            have hql : q.1 < r.lo := by
              rw [HME.out, HW.out.at' _ _ hq]
              exact (idx_mono HW.out.st1).2 hkm'
            have hd0 : decide ((k' : Int) < (N : Int)) = true := by simp; omega
            have hd1 : decide (q.1 < r.lo) = true := decide_eq_true hql
            have hkN : k' < N := by omega
            clear hq q1 hql
            go_upto_region 10 with fail
            go_big_quiet (fail)
            go_wp2_with fail
            go_roundw
            case rel => exact ⟨k' + 1, by go_num, by omega, Lib.hid (HXQ.out.trans (Ext.drewN _ _))⟩
            case measure => simp [RowKit.intOf]; omega
          · obtain rfl : k' = m := by omega
            obtain ⟨qb, qo, q, rfl, hq, q0, q1⟩ := sps_src (HS.out.ext (HXR.out.trans HXQ.out)) hmN
            obtain rfl : q = (r.lo, r.hi) := by have := HMI.out; rw [hq] at this; exact Option.some.inj this
            have hd0 : decide ((k' : Int) < (N : Int)) = true := by simp; omega
            have hd1 : decide (r.lo < r.lo) = false := by simp
            have c1 := (HXQ.out.cell (World.block_lt_of_cell? _ _ HR012.out.2.1)).trans HR012.out.2.1
            have c2 := (HXQ.out.cell (World.block_lt_of_cell? _ _ HR012.out.2.2)).trans HR012.out.2.2
            simp only at q0 q1
            have HC := Lib.hid (And.intro c0 (And.intro c1 (And.intro c2 (And.intro q0 q1))))
            clear hq hkm' q1 c1 c2
            go_upto_region 10 with fail
            go_big_quiet (fail)
            go_upto_region 12 with fail
            generalize hWz : wr.drewN nq = Wz
            have HXz : Hid (Ext wr Wz) := Lib.hid (by subst hWz; exact Ext.drewN _ _)
            clear hWz nq c0 q0 hd0 hd1
            have c0 := (HXz.out.cell (World.block_lt_of_cell? _ _ HC.out.1)).trans HC.out.1
            have c1 := (HXz.out.cell (World.block_lt_of_cell? _ _ HC.out.2.1)).trans HC.out.2.1
            have c2 := (HXz.out.cell (World.block_lt_of_cell? _ _ HC.out.2.2.1)).trans HC.out.2.2.1
            have q0 := (HXz.out.cell (World.block_lt_of_cell? _ _ HC.out.2.2.2.1)).trans HC.out.2.2.2.1
            have q1 := (HXz.out.cell (World.block_lt_of_cell? _ _ HC.out.2.2.2.2)).trans HC.out.2.2.2.2
            have hmn : ((k' : Int) == (N : Int)) = false := beq_eq_false_iff_ne.2 (by omega)
            have hne : ∀ x : Int, (x != x) = false := by simp
            have HNX : Hid (∀ r' m', R[i + 1]? = some r' → ws[m']? = some (r'.lo, r'.hi) → k' ≤ m') := Lib.hid (fun r' m' h1 h2 => by
              have hp := List.pairwise_iff_getElem.1 HW.out.up i (i + 1) (List.getElem?_eq_some_iff.1 HRI.out).1 (List.getElem?_eq_some_iff.1 h1).1 (by omega)
              rw [(List.getElem?_eq_some_iff.1 HRI.out).2, (List.getElem?_eq_some_iff.1 h1).2, HME.out, show r'.lo = F + (m' : Int) * st from HW.out.at' _ _ h2] at hp
              exact Nat.le_of_lt ((idx_mono HW.out.st1).1 hp))
            have HXA := Lib.hid (HXR.out.trans (HXQ.out.trans HXz.out))
            rcases Nat.eq_zero_or_pos i with hi0 | hi0
            · subst hi0
              have c0' : Wz.cell? ⟨rb, ro, none⟩ = some (.int .i64 r.lo) := by simpa using c0
              have c1' : Wz.cell? ⟨rb, ro + 1, none⟩ = some (.int .i64 r.hi) := by simpa using c1
              have hd0 : decide ((0 : Int) < ((0 : Nat) : Int)) = false := by decide
              go_big_quiet (fail)
              go_wp2_with fail
              go_roundw
              case rel => exact ⟨k', 1, rfl, rfl, by go_num, by omega, by omega, HNX, Lib.hid (HXA.out.trans (Ext.drewN _ _))⟩
              case measure => simp [RowKit.intOf]; omega
            · obtain ⟨pb, po, pq, hpa, hp, p0, p1, p2, p3, p4⟩ := rws_src (HR.out.ext (HX1.out.trans HXA.out)) (show i - 1 < n by omega)
              simp only [Option.some.injEq, Addr.mk.injEq] at hpa
              obtain ⟨rfl, rfl, _⟩ := hpa
              obtain ⟨j1, hj1⟩ : ∃ j1, j1 = i - 1 := ⟨_, rfl⟩
              rw [← hj1] at p0 hp
              have hw1 : IntKind.i64.wrap ((i : Int) - 1) = (j1 : Int) := by rw [IntWalk.i64_in _ (by omega)]; omega
              have hd0 : decide ((0 : Int) < (i : Int)) = true := by simp; omega
              have hlow : ¬ r.lo ≤ pq.lo := by
                have := List.pairwise_iff_getElem.1 HW.out.up j1 i (by have := (List.getElem?_eq_some_iff.1 hp).1; omega) (List.getElem?_eq_some_iff.1 HRI.out).1 (by omega)
                rw [(List.getElem?_eq_some_iff.1 hp).2, (List.getElem?_eq_some_iff.1 HRI.out).2] at this
                omega
              have hd1 : decide (r.lo ≤ pq.lo) = false := decide_eq_false hlow
              have hj1n : j1 < n := by omega
              clear hp hj1 p1 p2 p3 p4 hlow
              go_big_quiet (fail)
              go_wp2_with fail
              go_roundw
              case rel => exact ⟨k', i + 1, rfl, rfl, by go_num, by omega, by omega, HNX, Lib.hid (HXA.out.trans (Ext.drewN _ _))⟩
              case measure => simp [RowKit.intOf]; omega
      · go_wp2_with fail
        go_meet
        exact ⟨rfl, HXR⟩
  case rest =>
    obtain ⟨rfl, HXC⟩ := hcut
    have HX2 := Lib.hid (HX1.out.trans HXC.out)
    have hzb : (how == 0) = false := beq_eq_false_iff_ne.2 (by have := HH.out; omega)
    have HF : Hid (fillL how ws R = ws.map (fillAt how R)) := Lib.hid (by unfold fillL; rw [if_neg (by have := HH.out; omega)])
    have HR2 := Lib.hid (HR.out.ext HX2.out)
    have HS2 := Lib.hid (HS.out.ext HXC.out)
    go_wp2_with fail
    clear hzb hh1 hh2
    go_loopw [20, 21, 22] (fun s20 s21 s22 wr => ∃ (j k : Nat) (oa : Option Addr) (oc : Nat), s20 = .slice oa j oc ∧ s21 = .int .i64 k ∧ s22 = .int .i64 j ∧ j ≤ N ∧ k ≤ n ∧ Hid (MadeTo wc 42 5 (.slice oa j oc) j (rws ((ws.take j).map (fillAt how R))) wr ∧ k = nx R (F + (j : Int) * st))) (fun _ _ t _ => N - (RowKit.intOf t).toNat)
    case atStart => exact ⟨0, 0, none, 0, rfl, rfl, rfl, by omega, by omega, Lib.hid ⟨⟨Row.nil _ _ _, by simp [Value.ownBlock], Ext.refl _⟩, (nx_zero HW.out).symm⟩⟩
    case round =>
      obtain ⟨j, k, oa, oc, rfl, rfl, rfl, hj, hk, I⟩ := hrel
      by_cases hlt : j < N
      · obtain ⟨qb, qo, q, rfl, hq, q0, q1⟩ := sps_src (HS2.out.ext I.out.1.ext) hlt
        have HQ := Lib.hid hq
        have HT1 : Hid (q.1 = F + (j : Int) * st) := Lib.hid (HW.out.at' j q hq)
        have HTK : Hid ((ws.take (j + 1)).map (fillAt how R) = (ws.take j).map (fillAt how R) ++ [fillAt how R q]) := Lib.hid (by rw [List.take_add_one, hq]; simp)
        have HK1 : Hid (nx R q.1 = k) := Lib.hid (by rw [HT1.out]; exact I.out.2.symm)
        have HNXT := Lib.hid (HW.out.next j)
        rw [← HT1.out, HK1.out] at HNXT
        have HQ01 := Lib.hid (And.intro q0 q1)
        have HRq := Lib.hid (HR2.out.ext I.out.1.ext)
        clear hq q1
        go_upto_region 21 with fail
        have HMIS : Hid ((∀ r, R[k]? = some r → r.lo ≠ q.1) → fillAt how R q = holeR how (prevR R k) R[k]? q ∧ nx R (F + ((j + 1 : Nat) : Int) * st) = k ∧ (∀ r, prevR R k = some r → r ∈ R ∧ r.lo < q.1 ∧ q.1 ≤ r.lo + 4398046511104) ∧ (∀ s, R[k]? = some s → s ∈ R ∧ q.1 < s.lo)) := Lib.hid (fun h => by
          have hkp := nx_parts HW.out.up q.1
          rw [HK1.out] at hkp
          refine ⟨?_, ?_, fun r hr => ?_, fun s hs => ?_⟩
          · unfold fillAt
            rw [HK1.out]
            cases hr : R[k]? with
            | none => rfl
            | some r => simp only; rw [if_neg (h r hr)]
          · rw [HNXT.out]
            cases hr : R[k]? with
            | none => rfl
            | some r => simp only; rw [if_neg (h r hr)]
          · unfold prevR at hr
            by_cases hk0 : k = 0
            · rw [if_pos hk0] at hr; cases hr
            · rw [if_neg hk0] at hr
              have hm := List.mem_of_getElem? hr
              exact ⟨hm, (hkp _ r hr).1 (by omega), HW.out.near q (List.mem_of_getElem? HQ.out) _ (HW.out.mem r hm).2⟩
          · have h2 := (hkp _ s hs).2 (Nat.le_refl _)
            have h3 := h s hs
            exact ⟨List.mem_of_getElem? hs, by omega⟩)
        by_cases hkn : k < n
        · obtain ⟨rb, ro, r, rfl, hr, r0, r1, r2, r3, r4⟩ := rws_src HRq.out hkn
          have hd0 : decide ((k : Int) < (n : Int)) = true := by simp; omega
          by_cases hrq : r.lo = q.1
          · have HA : Hid (fillAt how R q = r ∧ nx R (F + ((j + 1 : Nat) : Int) * st) = k + 1) := Lib.hid ⟨by unfold fillAt; rw [HK1.out, hr]; simp only; rw [if_pos hrq], by rw [HNXT.out, hr]; simp only; rw [if_pos hrq]⟩
            have hbq : (r.lo == q.1) = true := beq_iff_eq.2 hrq
            go_big_quiet (fail)
            clear hd0 hbq hrq HMIS q0
            generalize hWz : wr.drewN nq = Wz
            have HXz : Hid (Ext wr Wz) := Lib.hid (by subst hWz; exact Ext.drewN _ _)
            replace r0 := (HXz.out.cell (World.block_lt_of_cell? _ _ r0)).trans r0
            replace r1 := (HXz.out.cell (World.block_lt_of_cell? _ _ r1)).trans r1
            replace r2 := (HXz.out.cell (World.block_lt_of_cell? _ _ r2)).trans r2
            replace r3 := (HXz.out.cell (World.block_lt_of_cell? _ _ r3)).trans r3
            replace r4 := (HXz.out.cell (World.block_lt_of_cell? _ _ r4)).trans r4
            clear hWz hr nq
            go_wp2_with (at_builtin; go_must (refine wpList_append_start elem_rw rfl _ _ rfl rfl rfl (Start.row (I.out.1.row.ext (HXz.out.trans ((Ext.refl _).alloc _))) I.out.1.own) (I.out.1.ext.trans (HXz.out.trans ((Ext.refl _).alloc _))) (src_rw (p := r) (heap_alloc_new _ _)) (by omega) (by unfold maxLen; omega) (by omega) ?_; intro v' w4 hmade); have HM := Lib.hid hmade; obtain ⟨va', vc', rfl⟩ := hmade.row.shape; clear hmade r0 r1 r2 r3 r4)
            go_roundw
            case rel => exact ⟨j + 1, k + 1, va', vc', rfl, by go_num, by go_num, by omega, by omega, Lib.hid ⟨by rw [HTK.out, rws_append, HA.out.1]; exact HM.out, HA.out.2.symm⟩⟩
            case measure => simp [RowKit.intOf]; omega
          · have HM := Lib.hid (HMIS.out (fun r' hr' => by rw [hr] at hr'; cases hr'; exact hrq))
            have hbq : (r.lo == q.1) = false := beq_eq_false_iff_ne.2 hrq
            have HRK := Lib.hid hr
            clear hr r1 r2 r3 r4 hrq HMIS
            go_big_quiet (fail)
            go_upto_region 24 with fail
            clear r0 hd0 hbq
            (
                generalize hWz : wr.drewN nq = Wz
                have HXz : Hid (Ext wr Wz) := Lib.hid (by subst hWz; exact Ext.drewN _ _)
                clear hWz nq
                replace q0 := (HXz.out.cell (World.block_lt_of_cell? _ _ HQ01.out.1)).trans HQ01.out.1
                have q1 := (HXz.out.cell (World.block_lt_of_cell? _ _ HQ01.out.2)).trans HQ01.out.2
                refine wp_region_plan 12 (fun w' => ∃ p : Turned, w' = turned Wz (fun _ => false) p.d p.f p.os) (.reads [0, 1, 2, 3, 4, 5, 6, 7, 8, 9, 10] (.one 11 (.one 12 .done))) (by kernel_rfl) (by kernel_rfl) (fun _ _ dd _ _ hh => by cases dd <;> exact hh) ?_ ?_
                · exact turned_of_ext (Ext.drewN Wz 1)
                have t0 := cell_turned (T := fun _ => false) q0 rfl
                have t1 := cell_turned (T := fun _ => false) q1 rfl
                refine wpPlan_reads ?_
                simp only [pickOps, List.getElem?_cons_succ, List.getElem?_cons_zero]
                repeat (go_big_quiet_step (fail))
                refine wpQuiet_nil ?_
                clear t0 t1 q0 q1
                change wpPlan _ _ _ _ _ _ _ _ (Wz.drewN 1)
                have HXd : Hid (Ext Wz (Wz.drewN 1)) := Lib.hid (Ext.drewN Wz 1)
                generalize Wz.drewN 1 = Wd at HXd ⊢
                refine wpPlan_one ?_
                simp only [pickOps, List.getElem?_cons_succ, List.getElem?_cons_zero]
                go_wp2_with fail
                generalize hwn : World.alloc _ _ = wa
                have HP := Lib.hid (alloc_eq_new hwn)
                have HSZ := Lib.hid HXd.out.size
                have HXa := Lib.hid (alloc_eq_ext HXd.out hwn)
                clear hwn
                refine thenX_mk (turned_of_ext HXa.out) (wpPlan_one ?_)
                simp only [pickOps, List.getElem?_cons_succ, List.getElem?_cons_zero]
                go_wp2_with (first | (refine wpList_store_box rfl _ _ _ rfl _ _ _ _ rfl rfl HP.out rfl row_info (by simp [Value.oneCell']) ?_; rintro w11 hb11 hc11; have HBN := Lib.hid hb11; have HXN := Lib.hid (HXz.out.trans (ext_storedF HXa.out hc11 HSZ.out)); clear hb11 hc11))
                refine thenX_last (wpPlan_done ?_)
                have HSQ := Lib.hid (Nat.le_trans HXz.out.size HSZ.out)
                clear HP HXa HSZ HXd HXz)
            have hh := HH.out
            have HFN : Hid (holeR how (prevR R k) R[k]? q = nullR q) := Lib.hid (by unfold holeR; rw [if_neg (by omega), if_neg (by omega)])
            clear hh
            (
                obtain ⟨X, hX⟩ : ∃ X, X = nullR q := ⟨_, rfl⟩
                have HFX : Hid (fillAt _ R q = X) := Lib.hid (by rw [HM.out.1, hX]; exact HFN.out)
                have HBX : Hid (w11.heap[Wd.heap.size]? = some (.cells #[.int .i64 X.lo, .int .i64 X.hi, .bool X.nul, .int .i64 (X.v / 18446744073709551616), .int .u64 (X.v % 18446744073709551616)] 42 (0, 0))) := Lib.hid (by rw [hX]; exact HBN.out)
                have HXE := HXN
                clear hX HFN HBN HXN
                (
                    go_wp2_with (first | (refine wpList_load_box rfl _ _ rfl _ _ _ _ _ rfl HBX.out Tryz.underlying42 rfl row_info ?_) | (at_builtin; go_must (refine wpList_append_start elem_rw rfl _ _ rfl rfl rfl (Start.row (I.out.1.row.ext (HXE.out.trans ((Ext.refl _).alloc _))) I.out.1.own) (I.out.1.ext.trans (HXE.out.trans ((Ext.refl _).alloc _))) (src_rw (p := X) (heap_alloc_new _ _)) (by omega) (by unfold maxLen; omega) (by omega) ?_; intro v' w4 hmade); have HMD := Lib.hid hmade; obtain ⟨va', vc', rfl⟩ := hmade.row.shape; clear hmade))
                    go_roundw
                    case rel => exact ⟨j + 1, k, va', vc', rfl, by go_num, by go_num, by omega, hk, Lib.hid ⟨by rw [HTK.out, rws_append, HFX.out]; exact HMD.out, HM.out.2.1.symm⟩⟩
                    case measure => simp [RowKit.intOf]; omega))
        · have HM := Lib.hid (HMIS.out (fun r' hr' => by rw [List.getElem?_eq_none (by have := LR.out; omega)] at hr'; cases hr'))
          have hd0 : decide ((k : Int) < (n : Int)) = false := by simp; omega
          clear HMIS
          go_big_quiet (fail)
          go_upto_region 24 with fail
          clear hd0
          (
              generalize hWz : wr.drewN nq = Wz
              have HXz : Hid (Ext wr Wz) := Lib.hid (by subst hWz; exact Ext.drewN _ _)
              clear hWz nq
              replace q0 := (HXz.out.cell (World.block_lt_of_cell? _ _ HQ01.out.1)).trans HQ01.out.1
              have q1 := (HXz.out.cell (World.block_lt_of_cell? _ _ HQ01.out.2)).trans HQ01.out.2
              refine wp_region_plan 12 (fun w' => ∃ p : Turned, w' = turned Wz (fun _ => false) p.d p.f p.os) (.reads [0, 1, 2, 3, 4, 5, 6, 7, 8, 9, 10] (.one 11 (.one 12 .done))) (by kernel_rfl) (by kernel_rfl) (fun _ _ dd _ _ hh => by cases dd <;> exact hh) ?_ ?_
              · exact turned_of_ext (Ext.drewN Wz 1)
              have t0 := cell_turned (T := fun _ => false) q0 rfl
              have t1 := cell_turned (T := fun _ => false) q1 rfl
              refine wpPlan_reads ?_
              simp only [pickOps, List.getElem?_cons_succ, List.getElem?_cons_zero]
              repeat (go_big_quiet_step (fail))
              refine wpQuiet_nil ?_
              clear t0 t1 q0 q1
              change wpPlan _ _ _ _ _ _ _ _ (Wz.drewN 1)
              have HXd : Hid (Ext Wz (Wz.drewN 1)) := Lib.hid (Ext.drewN Wz 1)
              generalize Wz.drewN 1 = Wd at HXd ⊢
              refine wpPlan_one ?_
              simp only [pickOps, List.getElem?_cons_succ, List.getElem?_cons_zero]
              go_wp2_with fail
              generalize hwn : World.alloc _ _ = wa
              have HP := Lib.hid (alloc_eq_new hwn)
              have HSZ := Lib.hid HXd.out.size
              have HXa := Lib.hid (alloc_eq_ext HXd.out hwn)
              clear hwn
              refine thenX_mk (turned_of_ext HXa.out) (wpPlan_one ?_)
              simp only [pickOps, List.getElem?_cons_succ, List.getElem?_cons_zero]
              go_wp2_with (first | (refine wpList_store_box rfl _ _ _ rfl _ _ _ _ rfl rfl HP.out rfl row_info (by simp [Value.oneCell']) ?_; rintro w11 hb11 hc11; have HBN := Lib.hid hb11; have HXN := Lib.hid (HXz.out.trans (ext_storedF HXa.out hc11 HSZ.out)); clear hb11 hc11))
              refine thenX_last (wpPlan_done ?_)
              have HSQ := Lib.hid (Nat.le_trans HXz.out.size HSZ.out)
              clear HP HXa HSZ HXd HXz)
          have hh := HH.out
          have HFN : Hid (holeR how (prevR R k) R[k]? q = nullR q) := Lib.hid (by unfold holeR; rw [if_neg (by omega), if_neg (by omega)])
          clear hh
          (
              obtain ⟨X, hX⟩ : ∃ X, X = nullR q := ⟨_, rfl⟩
              have HFX : Hid (fillAt _ R q = X) := Lib.hid (by rw [HM.out.1, hX]; exact HFN.out)
              have HBX : Hid (w11.heap[Wd.heap.size]? = some (.cells #[.int .i64 X.lo, .int .i64 X.hi, .bool X.nul, .int .i64 (X.v / 18446744073709551616), .int .u64 (X.v % 18446744073709551616)] 42 (0, 0))) := Lib.hid (by rw [hX]; exact HBN.out)
              have HXE := HXN
              clear hX HFN HBN HXN
              (
                  go_wp2_with (first | (refine wpList_load_box rfl _ _ rfl _ _ _ _ _ rfl HBX.out Tryz.underlying42 rfl row_info ?_) | (at_builtin; go_must (refine wpList_append_start elem_rw rfl _ _ rfl rfl rfl (Start.row (I.out.1.row.ext (HXE.out.trans ((Ext.refl _).alloc _))) I.out.1.own) (I.out.1.ext.trans (HXE.out.trans ((Ext.refl _).alloc _))) (src_rw (p := X) (heap_alloc_new _ _)) (by omega) (by unfold maxLen; omega) (by omega) ?_; intro v' w4 hmade); have HMD := Lib.hid hmade; obtain ⟨va', vc', rfl⟩ := hmade.row.shape; clear hmade))
                  go_roundw
                  case rel => exact ⟨j + 1, k, va', vc', rfl, by go_num, by go_num, by omega, hk, Lib.hid ⟨by rw [HTK.out, rws_append, HFX.out]; exact HMD.out, HM.out.2.1.symm⟩⟩
                  case measure => simp [RowKit.intOf]; omega))
      · have HE : Hid (ws.take j = ws) := Lib.hid (List.take_of_length_le (by have := LW.out; omega))
        go_wp2_with fail
        go_ret2
        refine ⟨_, _, _, rfl, ?_, HX2.out.trans I.out.1.ext⟩
        rw [HF.out]
        have h := I.out.1.row.src (rws_one _)
        rw [HE.out] at h
        exact h
end Go.Proofs.YtokllgdbmnmieaaGreat

/-! The document's gaps: tidemillref23.Fill, way 2. -/

namespace Go.Proofs.YtokllgdbmnmieaaGreat
open Go.RowKit Go.Sort Go.Lib

set_option maxHeartbeats 8000000 in
set_option maxRecDepth 100000 in
theorem rfill_2 (how wd st off fr tO : Int) (R : List Rw) (w : World) (a : Option Addr) (n c : Nat) (hR : Src w 5 (.slice a n c) n (rws R)) (hn : n ≤ 70000) (hv : windowB wd st off = true) (h1 : timeB fr = true) (h2 : timeB tO = true) (h3 : fr ≤ tO) (hN : allN wd st off fr tO ≤ 65536)
    (hh : how = 2) (hW : WinRows st (firstF wd st off fr) (allW wd st off fr tO) R) (hok : RowsOk R) :
    Calls Tryz.prog 28 #[.slice a n c, .int .i64 wd, .int .i64 st, .int .i64 off, .int .i64 fr, .int .i64 tO, .int .i64 how] w fun e w' => ∃ a' m c', e = .returned (.tuple #[.slice a' m c', .int .i64 0]) ∧ Src w' 5 (.slice a' m c') m (rws (fillL how (allW wd st off fr tO) R)) ∧ Ext w w' := by
  have HR := Lib.hid hR
  have HW := Lib.hid hW
  have HOK := Lib.hid hok
  have LR := Lib.hid (enc_src_len rwc_len (by decide) hR)
  have HWA := Lib.hid (fun W => rall09_any wd st off fr tO W hv h1 h2 h3 hN)
  have HNN := Lib.hid hN
  obtain ⟨ws, hws⟩ : ∃ ws, ws = allW wd st off fr tO := ⟨_, rfl⟩
  obtain ⟨N, hNe⟩ : ∃ N, N = allN wd st off fr tO := ⟨_, rfl⟩
  obtain ⟨F, hF⟩ : ∃ F, F = firstF wd st off fr := ⟨_, rfl⟩
  rw [← hws, ← hF] at HW
  rw [← hws, ← hNe] at HWA
  rw [← hNe] at HNN
  rw [← hws]
  clear hR hW hok hv h1 h2 h3 hN hws hNe hF
  go_enter Tryz.func28, Tryz.ntmps28
  go_wp2_with fail
  refine (HWA.out _).mono ?_
  rintro e w1 ⟨v, rfl, hm⟩
  obtain ⟨va, vc, rfl⟩ := hm.row.shape
  have HX1 := Lib.hid hm.ext
  have HS := Lib.hid (hm.row.src (sps_one _))
  have LW := Lib.hid (enc_src_len spc_len (by decide) (hm.row.src (sps_one _)))
  have hNN : N ≤ 65536 := HNN.out
  clear hm HWA
  have hh1 : ¬ how < 0 := by omega
  have hh2 : ¬ 3 < how := by omega
  have hb2 : (how == 2) = true := beq_iff_eq.2 hh
  have hb3 : (how == 3) = false := beq_eq_false_iff_ne.2 (by omega)
  have HH := Lib.hid hh
  clear hh
  go_upto_block 0 with fail
  go_cut [14] (fun s14 wx => s14 = .slice none 0 0 ∧ Hid (Ext w1 wx))
  case first => as_aux_lemma =>
    go_wp2_with fail
    go_loopw [14, 18, 19] (fun s14 s18 s19 wr => ∃ k i : Nat, s14 = .slice none 0 0 ∧ s18 = .int .i64 k ∧ s19 = .int .i64 i ∧ k ≤ N ∧ i ≤ n ∧ Hid (∀ r m, R[i]? = some r → ws[m]? = some (r.lo, r.hi) → k ≤ m) ∧ Hid (Ext w1 wr)) (fun _ _ t _ => n - (RowKit.intOf t).toNat)
    case atStart => exact ⟨0, 0, rfl, rfl, rfl, by omega, by omega, Lib.hid (fun _ _ _ _ => Nat.zero_le _), Lib.hid (Ext.refl _)⟩
    case round =>
      obtain ⟨k, i, rfl, rfl, rfl, hk, hi, HK, HXR⟩ := hrel
      by_cases hlt : i < n
      · obtain ⟨rb, ro, r, rfl, hr, r0, r1, r2, r3, r4⟩ := rws_src (HR.out.ext (HX1.out.trans HXR.out)) hlt
        obtain ⟨m, hm, hme⟩ := win_idx HW.out (List.mem_of_getElem? hr)
        have hnul := (HW.out.mem r (List.mem_of_getElem? hr)).1
        rw [hnul] at r2
        have hkm : k ≤ m := HK.out r m hr hm
        have hmN : m < N := by have := LW.out; have := (List.getElem?_eq_some_iff.1 hm).1; omega
        have HRI := Lib.hid hr
        have HMI := Lib.hid hm
        have HME := Lib.hid hme
        clear hr hm hme r3 r4 hnul
        have HR012 := Lib.hid (And.intro r0 (And.intro r1 r2))
        clear r0 r1 r2
        obtain ⟨U, hU⟩ : ∃ U, U = wr := ⟨_, rfl⟩
        subst hU
        go_wp2_with fail
        go_loopw [18] (fun s18 wq => ∃ k' : Nat, s18 = .int .i64 k' ∧ k' ≤ m ∧ Hid (Ext U wq)) (fun t _ => m - (RowKit.intOf t).toNat)
        case atStart => exact ⟨k, rfl, hkm, Lib.hid (Ext.refl _)⟩
        case round =>
          obtain ⟨k', rfl, hk', HXQ⟩ := hrel
          have c0 := (HXQ.out.cell (World.block_lt_of_cell? _ _ HR012.out.1)).trans HR012.out.1
          by_cases hkm' : k' < m
          · obtain ⟨qb, qo, q, rfl, hq, q0, q1⟩ := sps_src (HS.out.ext (HXR.out.trans HXQ.out)) (show k' < N by omega)
            have hql : q.1 < r.lo := by
              rw [HME.out, HW.out.at' _ _ hq]
              exact (idx_mono HW.out.st1).2 hkm'
            have hd0 : decide ((k' : Int) < (N : Int)) = true := by simp; omega
            have hd1 : decide (q.1 < r.lo) = true := decide_eq_true hql
            have hkN : k' < N := by omega
            clear hq q1 hql
            go_upto_region 10 with fail
            go_big_quiet (fail)
            go_wp2_with fail
            go_roundw
            case rel => exact ⟨k' + 1, by go_num, by omega, Lib.hid (HXQ.out.trans (Ext.drewN _ _))⟩
            case measure => simp [RowKit.intOf]; omega
          · obtain rfl : k' = m := by omega
            obtain ⟨qb, qo, q, rfl, hq, q0, q1⟩ := sps_src (HS.out.ext (HXR.out.trans HXQ.out)) hmN
            obtain rfl : q = (r.lo, r.hi) := by have := HMI.out; rw [hq] at this; exact Option.some.inj this
            have hd0 : decide ((k' : Int) < (N : Int)) = true := by simp; omega
            have hd1 : decide (r.lo < r.lo) = false := by simp
            have c1 := (HXQ.out.cell (World.block_lt_of_cell? _ _ HR012.out.2.1)).trans HR012.out.2.1
            have c2 := (HXQ.out.cell (World.block_lt_of_cell? _ _ HR012.out.2.2)).trans HR012.out.2.2
            simp only at q0 q1
            have HC := Lib.hid (And.intro c0 (And.intro c1 (And.intro c2 (And.intro q0 q1))))
            clear hq hkm' q1 c1 c2
            go_upto_region 10 with fail
            go_big_quiet (fail)
            go_upto_region 12 with fail
            generalize hWz : wr.drewN nq = Wz
            have HXz : Hid (Ext wr Wz) := Lib.hid (by subst hWz; exact Ext.drewN _ _)
            clear hWz nq c0 q0 hd0 hd1
            have c0 := (HXz.out.cell (World.block_lt_of_cell? _ _ HC.out.1)).trans HC.out.1
            have c1 := (HXz.out.cell (World.block_lt_of_cell? _ _ HC.out.2.1)).trans HC.out.2.1
            have c2 := (HXz.out.cell (World.block_lt_of_cell? _ _ HC.out.2.2.1)).trans HC.out.2.2.1
            have q0 := (HXz.out.cell (World.block_lt_of_cell? _ _ HC.out.2.2.2.1)).trans HC.out.2.2.2.1
            have q1 := (HXz.out.cell (World.block_lt_of_cell? _ _ HC.out.2.2.2.2)).trans HC.out.2.2.2.2
            have hmn : ((k' : Int) == (N : Int)) = false := beq_eq_false_iff_ne.2 (by omega)
            have hne : ∀ x : Int, (x != x) = false := by simp
            have HNX : Hid (∀ r' m', R[i + 1]? = some r' → ws[m']? = some (r'.lo, r'.hi) → k' ≤ m') := Lib.hid (fun r' m' h1 h2 => by
              have hp := List.pairwise_iff_getElem.1 HW.out.up i (i + 1) (List.getElem?_eq_some_iff.1 HRI.out).1 (List.getElem?_eq_some_iff.1 h1).1 (by omega)
              rw [(List.getElem?_eq_some_iff.1 HRI.out).2, (List.getElem?_eq_some_iff.1 h1).2, HME.out, show r'.lo = F + (m' : Int) * st from HW.out.at' _ _ h2] at hp
              exact Nat.le_of_lt ((idx_mono HW.out.st1).1 hp))
            have HXA := Lib.hid (HXR.out.trans (HXQ.out.trans HXz.out))
            rcases Nat.eq_zero_or_pos i with hi0 | hi0
            · subst hi0
              have c0' : Wz.cell? ⟨rb, ro, none⟩ = some (.int .i64 r.lo) := by simpa using c0
              have c1' : Wz.cell? ⟨rb, ro + 1, none⟩ = some (.int .i64 r.hi) := by simpa using c1
              have hd0 : decide ((0 : Int) < ((0 : Nat) : Int)) = false := by decide
              go_big_quiet (fail)
              go_wp2_with fail
              go_roundw
              case rel => exact ⟨k', 1, rfl, rfl, by go_num, by omega, by omega, HNX, Lib.hid (HXA.out.trans (Ext.drewN _ _))⟩
              case measure => simp [RowKit.intOf]; omega
            · obtain ⟨pb, po, pq, hpa, hp, p0, p1, p2, p3, p4⟩ := rws_src (HR.out.ext (HX1.out.trans HXA.out)) (show i - 1 < n by omega)
              simp only [Option.some.injEq, Addr.mk.injEq] at hpa
              obtain ⟨rfl, rfl, _⟩ := hpa
              obtain ⟨j1, hj1⟩ : ∃ j1, j1 = i - 1 := ⟨_, rfl⟩
              rw [← hj1] at p0 hp
              have hw1 : IntKind.i64.wrap ((i : Int) - 1) = (j1 : Int) := by rw [IntWalk.i64_in _ (by omega)]; omega
              have hd0 : decide ((0 : Int) < (i : Int)) = true := by simp; omega
              have hlow : ¬ r.lo ≤ pq.lo := by
                have := List.pairwise_iff_getElem.1 HW.out.up j1 i (by have := (List.getElem?_eq_some_iff.1 hp).1; omega) (List.getElem?_eq_some_iff.1 HRI.out).1 (by omega)
                rw [(List.getElem?_eq_some_iff.1 hp).2, (List.getElem?_eq_some_iff.1 HRI.out).2] at this
                omega
              have hd1 : decide (r.lo ≤ pq.lo) = false := decide_eq_false hlow
              have hj1n : j1 < n := by omega
              clear hp hj1 p1 p2 p3 p4 hlow
              go_big_quiet (fail)
              go_wp2_with fail
              go_roundw
              case rel => exact ⟨k', i + 1, rfl, rfl, by go_num, by omega, by omega, HNX, Lib.hid (HXA.out.trans (Ext.drewN _ _))⟩
              case measure => simp [RowKit.intOf]; omega
      · go_wp2_with fail
        go_meet
        exact ⟨rfl, HXR⟩
  case rest =>
    obtain ⟨rfl, HXC⟩ := hcut
    have HX2 := Lib.hid (HX1.out.trans HXC.out)
    have hzb : (how == 0) = false := beq_eq_false_iff_ne.2 (by have := HH.out; omega)
    have HF : Hid (fillL how ws R = ws.map (fillAt how R)) := Lib.hid (by unfold fillL; rw [if_neg (by have := HH.out; omega)])
    have HR2 := Lib.hid (HR.out.ext HX2.out)
    have HS2 := Lib.hid (HS.out.ext HXC.out)
    go_wp2_with fail
    clear hzb hh1 hh2
    go_loopw [20, 21, 22] (fun s20 s21 s22 wr => ∃ (j k : Nat) (oa : Option Addr) (oc : Nat), s20 = .slice oa j oc ∧ s21 = .int .i64 k ∧ s22 = .int .i64 j ∧ j ≤ N ∧ k ≤ n ∧ Hid (MadeTo wc 42 5 (.slice oa j oc) j (rws ((ws.take j).map (fillAt how R))) wr ∧ k = nx R (F + (j : Int) * st))) (fun _ _ t _ => N - (RowKit.intOf t).toNat)
    case atStart => exact ⟨0, 0, none, 0, rfl, rfl, rfl, by omega, by omega, Lib.hid ⟨⟨Row.nil _ _ _, by simp [Value.ownBlock], Ext.refl _⟩, (nx_zero HW.out).symm⟩⟩
    case round =>
      obtain ⟨j, k, oa, oc, rfl, rfl, rfl, hj, hk, I⟩ := hrel
      by_cases hlt : j < N
      · obtain ⟨qb, qo, q, rfl, hq, q0, q1⟩ := sps_src (HS2.out.ext I.out.1.ext) hlt
        have HQ := Lib.hid hq
        have HT1 : Hid (q.1 = F + (j : Int) * st) := Lib.hid (HW.out.at' j q hq)
        have HTK : Hid ((ws.take (j + 1)).map (fillAt how R) = (ws.take j).map (fillAt how R) ++ [fillAt how R q]) := Lib.hid (by rw [List.take_add_one, hq]; simp)
        have HK1 : Hid (nx R q.1 = k) := Lib.hid (by rw [HT1.out]; exact I.out.2.symm)
        have HNXT := Lib.hid (HW.out.next j)
        rw [← HT1.out, HK1.out] at HNXT
        have HQ01 := Lib.hid (And.intro q0 q1)
        have HRq := Lib.hid (HR2.out.ext I.out.1.ext)
        clear hq q1
        go_upto_region 21 with fail
        have HMIS : Hid ((∀ r, R[k]? = some r → r.lo ≠ q.1) → fillAt how R q = holeR how (prevR R k) R[k]? q ∧ nx R (F + ((j + 1 : Nat) : Int) * st) = k ∧ (∀ r, prevR R k = some r → r ∈ R ∧ r.lo < q.1 ∧ q.1 ≤ r.lo + 4398046511104) ∧ (∀ s, R[k]? = some s → s ∈ R ∧ q.1 < s.lo)) := Lib.hid (fun h => by
          have hkp := nx_parts HW.out.up q.1
          rw [HK1.out] at hkp
          refine ⟨?_, ?_, fun r hr => ?_, fun s hs => ?_⟩
          · unfold fillAt
            rw [HK1.out]
            cases hr : R[k]? with
            | none => rfl
            | some r => simp only; rw [if_neg (h r hr)]
          · rw [HNXT.out]
            cases hr : R[k]? with
            | none => rfl
            | some r => simp only; rw [if_neg (h r hr)]
          · unfold prevR at hr
            by_cases hk0 : k = 0
            · rw [if_pos hk0] at hr; cases hr
            · rw [if_neg hk0] at hr
              have hm := List.mem_of_getElem? hr
              exact ⟨hm, (hkp _ r hr).1 (by omega), HW.out.near q (List.mem_of_getElem? HQ.out) _ (HW.out.mem r hm).2⟩
          · have h2 := (hkp _ s hs).2 (Nat.le_refl _)
            have h3 := h s hs
            exact ⟨List.mem_of_getElem? hs, by omega⟩)
        by_cases hkn : k < n
        · obtain ⟨rb, ro, r, rfl, hr, r0, r1, r2, r3, r4⟩ := rws_src HRq.out hkn
          have hd0 : decide ((k : Int) < (n : Int)) = true := by simp; omega
          by_cases hrq : r.lo = q.1
          · have HA : Hid (fillAt how R q = r ∧ nx R (F + ((j + 1 : Nat) : Int) * st) = k + 1) := Lib.hid ⟨by unfold fillAt; rw [HK1.out, hr]; simp only; rw [if_pos hrq], by rw [HNXT.out, hr]; simp only; rw [if_pos hrq]⟩
            have hbq : (r.lo == q.1) = true := beq_iff_eq.2 hrq
            go_big_quiet (fail)
            clear hd0 hbq hrq HMIS q0
            generalize hWz : wr.drewN nq = Wz
            have HXz : Hid (Ext wr Wz) := Lib.hid (by subst hWz; exact Ext.drewN _ _)
            replace r0 := (HXz.out.cell (World.block_lt_of_cell? _ _ r0)).trans r0
            replace r1 := (HXz.out.cell (World.block_lt_of_cell? _ _ r1)).trans r1
            replace r2 := (HXz.out.cell (World.block_lt_of_cell? _ _ r2)).trans r2
            replace r3 := (HXz.out.cell (World.block_lt_of_cell? _ _ r3)).trans r3
            replace r4 := (HXz.out.cell (World.block_lt_of_cell? _ _ r4)).trans r4
            clear hWz hr nq
            go_wp2_with (at_builtin; go_must (refine wpList_append_start elem_rw rfl _ _ rfl rfl rfl (Start.row (I.out.1.row.ext (HXz.out.trans ((Ext.refl _).alloc _))) I.out.1.own) (I.out.1.ext.trans (HXz.out.trans ((Ext.refl _).alloc _))) (src_rw (p := r) (heap_alloc_new _ _)) (by omega) (by unfold maxLen; omega) (by omega) ?_; intro v' w4 hmade); have HM := Lib.hid hmade; obtain ⟨va', vc', rfl⟩ := hmade.row.shape; clear hmade r0 r1 r2 r3 r4)
            go_roundw
            case rel => exact ⟨j + 1, k + 1, va', vc', rfl, by go_num, by go_num, by omega, by omega, Lib.hid ⟨by rw [HTK.out, rws_append, HA.out.1]; exact HM.out, HA.out.2.symm⟩⟩
            case measure => simp [RowKit.intOf]; omega
          · have HM := Lib.hid (HMIS.out (fun r' hr' => by rw [hr] at hr'; cases hr'; exact hrq))
            have hbq : (r.lo == q.1) = false := beq_eq_false_iff_ne.2 hrq
            have HRK := Lib.hid hr
            clear hr r1 r2 r3 r4 hrq HMIS
            go_big_quiet (fail)
            go_upto_region 24 with fail
            clear r0 hd0 hbq
            (
                generalize hWz : wr.drewN nq = Wz
                have HXz : Hid (Ext wr Wz) := Lib.hid (by subst hWz; exact Ext.drewN _ _)
                clear hWz nq
                replace q0 := (HXz.out.cell (World.block_lt_of_cell? _ _ HQ01.out.1)).trans HQ01.out.1
                have q1 := (HXz.out.cell (World.block_lt_of_cell? _ _ HQ01.out.2)).trans HQ01.out.2
                refine wp_region_plan 12 (fun w' => ∃ p : Turned, w' = turned Wz (fun _ => false) p.d p.f p.os) (.reads [0, 1, 2, 3, 4, 5, 6, 7, 8, 9, 10] (.one 11 (.one 12 .done))) (by kernel_rfl) (by kernel_rfl) (fun _ _ dd _ _ hh => by cases dd <;> exact hh) ?_ ?_
                · exact turned_of_ext (Ext.drewN Wz 1)
                have t0 := cell_turned (T := fun _ => false) q0 rfl
                have t1 := cell_turned (T := fun _ => false) q1 rfl
                refine wpPlan_reads ?_
                simp only [pickOps, List.getElem?_cons_succ, List.getElem?_cons_zero]
                repeat (go_big_quiet_step (fail))
                refine wpQuiet_nil ?_
                clear t0 t1 q0 q1
                change wpPlan _ _ _ _ _ _ _ _ (Wz.drewN 1)
                have HXd : Hid (Ext Wz (Wz.drewN 1)) := Lib.hid (Ext.drewN Wz 1)
                generalize Wz.drewN 1 = Wd at HXd ⊢
                refine wpPlan_one ?_
                simp only [pickOps, List.getElem?_cons_succ, List.getElem?_cons_zero]
                go_wp2_with fail
                generalize hwn : World.alloc _ _ = wa
                have HP := Lib.hid (alloc_eq_new hwn)
                have HSZ := Lib.hid HXd.out.size
                have HXa := Lib.hid (alloc_eq_ext HXd.out hwn)
                clear hwn
                refine thenX_mk (turned_of_ext HXa.out) (wpPlan_one ?_)
                simp only [pickOps, List.getElem?_cons_succ, List.getElem?_cons_zero]
                go_wp2_with (first | (refine wpList_store_box rfl _ _ _ rfl _ _ _ _ rfl rfl HP.out rfl row_info (by simp [Value.oneCell']) ?_; rintro w11 hb11 hc11; have HBN := Lib.hid hb11; have HXN := Lib.hid (HXz.out.trans (ext_storedF HXa.out hc11 HSZ.out)); clear hb11 hc11))
                refine thenX_last (wpPlan_done ?_)
                have HSQ := Lib.hid (Nat.le_trans HXz.out.size HSZ.out)
                clear HP HXa HSZ HXd HXz)
            have hh := HH.out
            rcases Nat.eq_zero_or_pos k with hk0 | hk0
            · have HFN : Hid (holeR how (prevR R k) R[k]? q = nullR q) := Lib.hid (by unfold holeR prevR; rw [if_pos hh, if_pos hk0])
              clear hh
              have hk1 : ¬ 0 < k := by omega
              (
                  obtain ⟨X, hX⟩ : ∃ X, X = nullR q := ⟨_, rfl⟩
                  have HFX : Hid (fillAt _ R q = X) := Lib.hid (by rw [HM.out.1, hX]; exact HFN.out)
                  have HBX : Hid (w11.heap[Wd.heap.size]? = some (.cells #[.int .i64 X.lo, .int .i64 X.hi, .bool X.nul, .int .i64 (X.v / 18446744073709551616), .int .u64 (X.v % 18446744073709551616)] 42 (0, 0))) := Lib.hid (by rw [hX]; exact HBN.out)
                  have HXE := HXN
                  clear hX HFN HBN HXN
                  (
                      go_wp2_with (first | (refine wpList_load_box rfl _ _ rfl _ _ _ _ _ rfl HBX.out Tryz.underlying42 rfl row_info ?_) | (at_builtin; go_must (refine wpList_append_start elem_rw rfl _ _ rfl rfl rfl (Start.row (I.out.1.row.ext (HXE.out.trans ((Ext.refl _).alloc _))) I.out.1.own) (I.out.1.ext.trans (HXE.out.trans ((Ext.refl _).alloc _))) (src_rw (p := X) (heap_alloc_new _ _)) (by omega) (by unfold maxLen; omega) (by omega) ?_; intro v' w4 hmade); have HMD := Lib.hid hmade; obtain ⟨va', vc', rfl⟩ := hmade.row.shape; clear hmade))
                      go_roundw
                      case rel => exact ⟨j + 1, k, va', vc', rfl, by go_num, by go_num, by omega, hk, Lib.hid ⟨by rw [HTK.out, rws_append, HFX.out]; exact HMD.out, HM.out.2.1.symm⟩⟩
                      case measure => simp [RowKit.intOf]; omega))
            · (
                obtain ⟨j1, hj1⟩ : ∃ j1, j1 = k - 1 := ⟨_, rfl⟩
                have hj1n : j1 < n := by omega
                obtain ⟨pb, po, pq, hpa, hp, p0, p1, p2, p3, p4⟩ := rws_src HRq.out hj1n
                cases hpa
                have HPV : Hid (prevR R k = some pq) := Lib.hid (by unfold prevR; rw [if_neg (by omega), ← hj1]; exact hp)
                have HP34 := Lib.hid (And.intro p3 p4)
                have HP012 := Lib.hid (And.intro p0 (And.intro p1 p2))
                have hw1 : IntKind.i64.wrap ((k : Int) - 1) = (j1 : Int) := by rw [IntWalk.i64_in _ (by omega)]; omega
                clear hp p0 p1 p2 p3 p4 hj1)
              obtain ⟨X, hX⟩ : ∃ X : Rw, X = ⟨q.1, q.2, pq.v, false⟩ := ⟨_, rfl⟩
              have HFX : Hid (fillAt how R q = X) := Lib.hid (by rw [HM.out.1, hX]; unfold holeR; rw [if_pos hh, HPV.out])
              clear hh
              go_upto_region 28 with (first | (refine wpList_store_bool rfl _ _ _ rfl _ _ _ #[.int .i64 q.1, .int .i64 q.2, .bool false, .int .i64 0, .int .u64 0] _ _ rfl rfl HBN.out (by simp) rfl bool_info23 ?_; rintro w12 hb12 hc12; have HB12 := Lib.hid hb12; have HX12 := Lib.hid (ext_storedF HXN.out hc12 HSQ.out); clear hb12 hc12; have p3 := (HX12.out.cell (World.block_lt_of_cell? _ _ HP34.out.1)).trans HP34.out.1; have p4 := (HX12.out.cell (World.block_lt_of_cell? _ _ HP34.out.2)).trans HP34.out.2) | (refine wpList_store_part rfl _ _ _ rfl _ _ _ _ #[.int .i64 q.1, .int .i64 q.2, .bool false, .int .i64 (pq.v / 18446744073709551616), .int .u64 (pq.v % 18446744073709551616)] _ rfl rfl HB12.out (by simp) rfl big_infoF (by simp [Value.oneCell']) ?_; rintro w13 hb13 hc13; have HXE := Lib.hid (ext_storedF HX12.out hc13 HSQ.out); have HBX : Hid (w13.heap[Wd.heap.size]? = some (.cells #[.int .i64 X.lo, .int .i64 X.hi, .bool X.nul, .int .i64 (X.v / 18446744073709551616), .int .u64 (X.v % 18446744073709551616)] 42 (0, 0))) := Lib.hid (by rw [hX]; exact hb13); clear hb13 hc13))
              clear p3 p4 hw1 hX
              (
                  go_wp2_with (first | (refine wpList_load_box rfl _ _ rfl _ _ _ _ _ rfl HBX.out Tryz.underlying42 rfl row_info ?_) | (at_builtin; go_must (refine wpList_append_start elem_rw rfl _ _ rfl rfl rfl (Start.row (I.out.1.row.ext (HXE.out.trans ((Ext.refl _).alloc _))) I.out.1.own) (I.out.1.ext.trans (HXE.out.trans ((Ext.refl _).alloc _))) (src_rw (p := X) (heap_alloc_new _ _)) (by omega) (by unfold maxLen; omega) (by omega) ?_; intro v' w4 hmade); have HMD := Lib.hid hmade; obtain ⟨va', vc', rfl⟩ := hmade.row.shape; clear hmade))
                  go_roundw
                  case rel => exact ⟨j + 1, k, va', vc', rfl, by go_num, by go_num, by omega, hk, Lib.hid ⟨by rw [HTK.out, rws_append, HFX.out]; exact HMD.out, HM.out.2.1.symm⟩⟩
                  case measure => simp [RowKit.intOf]; omega)
        · have HM := Lib.hid (HMIS.out (fun r' hr' => by rw [List.getElem?_eq_none (by have := LR.out; omega)] at hr'; cases hr'))
          have hd0 : decide ((k : Int) < (n : Int)) = false := by simp; omega
          clear HMIS
          go_big_quiet (fail)
          go_upto_region 24 with fail
          clear hd0
          (
              generalize hWz : wr.drewN nq = Wz
              have HXz : Hid (Ext wr Wz) := Lib.hid (by subst hWz; exact Ext.drewN _ _)
              clear hWz nq
              replace q0 := (HXz.out.cell (World.block_lt_of_cell? _ _ HQ01.out.1)).trans HQ01.out.1
              have q1 := (HXz.out.cell (World.block_lt_of_cell? _ _ HQ01.out.2)).trans HQ01.out.2
              refine wp_region_plan 12 (fun w' => ∃ p : Turned, w' = turned Wz (fun _ => false) p.d p.f p.os) (.reads [0, 1, 2, 3, 4, 5, 6, 7, 8, 9, 10] (.one 11 (.one 12 .done))) (by kernel_rfl) (by kernel_rfl) (fun _ _ dd _ _ hh => by cases dd <;> exact hh) ?_ ?_
              · exact turned_of_ext (Ext.drewN Wz 1)
              have t0 := cell_turned (T := fun _ => false) q0 rfl
              have t1 := cell_turned (T := fun _ => false) q1 rfl
              refine wpPlan_reads ?_
              simp only [pickOps, List.getElem?_cons_succ, List.getElem?_cons_zero]
              repeat (go_big_quiet_step (fail))
              refine wpQuiet_nil ?_
              clear t0 t1 q0 q1
              change wpPlan _ _ _ _ _ _ _ _ (Wz.drewN 1)
              have HXd : Hid (Ext Wz (Wz.drewN 1)) := Lib.hid (Ext.drewN Wz 1)
              generalize Wz.drewN 1 = Wd at HXd ⊢
              refine wpPlan_one ?_
              simp only [pickOps, List.getElem?_cons_succ, List.getElem?_cons_zero]
              go_wp2_with fail
              generalize hwn : World.alloc _ _ = wa
              have HP := Lib.hid (alloc_eq_new hwn)
              have HSZ := Lib.hid HXd.out.size
              have HXa := Lib.hid (alloc_eq_ext HXd.out hwn)
              clear hwn
              refine thenX_mk (turned_of_ext HXa.out) (wpPlan_one ?_)
              simp only [pickOps, List.getElem?_cons_succ, List.getElem?_cons_zero]
              go_wp2_with (first | (refine wpList_store_box rfl _ _ _ rfl _ _ _ _ rfl rfl HP.out rfl row_info (by simp [Value.oneCell']) ?_; rintro w11 hb11 hc11; have HBN := Lib.hid hb11; have HXN := Lib.hid (HXz.out.trans (ext_storedF HXa.out hc11 HSZ.out)); clear hb11 hc11))
              refine thenX_last (wpPlan_done ?_)
              have HSQ := Lib.hid (Nat.le_trans HXz.out.size HSZ.out)
              clear HP HXa HSZ HXd HXz)
          have hh := HH.out
          rcases Nat.eq_zero_or_pos k with hk0 | hk0
          · have HFN : Hid (holeR how (prevR R k) R[k]? q = nullR q) := Lib.hid (by unfold holeR prevR; rw [if_pos hh, if_pos hk0])
            clear hh
            have hk1 : ¬ 0 < k := by omega
            (
                obtain ⟨X, hX⟩ : ∃ X, X = nullR q := ⟨_, rfl⟩
                have HFX : Hid (fillAt _ R q = X) := Lib.hid (by rw [HM.out.1, hX]; exact HFN.out)
                have HBX : Hid (w11.heap[Wd.heap.size]? = some (.cells #[.int .i64 X.lo, .int .i64 X.hi, .bool X.nul, .int .i64 (X.v / 18446744073709551616), .int .u64 (X.v % 18446744073709551616)] 42 (0, 0))) := Lib.hid (by rw [hX]; exact HBN.out)
                have HXE := HXN
                clear hX HFN HBN HXN
                (
                    go_wp2_with (first | (refine wpList_load_box rfl _ _ rfl _ _ _ _ _ rfl HBX.out Tryz.underlying42 rfl row_info ?_) | (at_builtin; go_must (refine wpList_append_start elem_rw rfl _ _ rfl rfl rfl (Start.row (I.out.1.row.ext (HXE.out.trans ((Ext.refl _).alloc _))) I.out.1.own) (I.out.1.ext.trans (HXE.out.trans ((Ext.refl _).alloc _))) (src_rw (p := X) (heap_alloc_new _ _)) (by omega) (by unfold maxLen; omega) (by omega) ?_; intro v' w4 hmade); have HMD := Lib.hid hmade; obtain ⟨va', vc', rfl⟩ := hmade.row.shape; clear hmade))
                    go_roundw
                    case rel => exact ⟨j + 1, k, va', vc', rfl, by go_num, by go_num, by omega, hk, Lib.hid ⟨by rw [HTK.out, rws_append, HFX.out]; exact HMD.out, HM.out.2.1.symm⟩⟩
                    case measure => simp [RowKit.intOf]; omega))
          · (
              obtain ⟨j1, hj1⟩ : ∃ j1, j1 = k - 1 := ⟨_, rfl⟩
              have hj1n : j1 < n := by omega
              obtain ⟨pb, po, pq, hpa, hp, p0, p1, p2, p3, p4⟩ := rws_src HRq.out hj1n
              cases hpa
              have HPV : Hid (prevR R k = some pq) := Lib.hid (by unfold prevR; rw [if_neg (by omega), ← hj1]; exact hp)
              have HP34 := Lib.hid (And.intro p3 p4)
              have HP012 := Lib.hid (And.intro p0 (And.intro p1 p2))
              have hw1 : IntKind.i64.wrap ((k : Int) - 1) = (j1 : Int) := by rw [IntWalk.i64_in _ (by omega)]; omega
              clear hp p0 p1 p2 p3 p4 hj1)
            obtain ⟨X, hX⟩ : ∃ X : Rw, X = ⟨q.1, q.2, pq.v, false⟩ := ⟨_, rfl⟩
            have HFX : Hid (fillAt how R q = X) := Lib.hid (by rw [HM.out.1, hX]; unfold holeR; rw [if_pos hh, HPV.out])
            clear hh
            go_upto_region 28 with (first | (refine wpList_store_bool rfl _ _ _ rfl _ _ _ #[.int .i64 q.1, .int .i64 q.2, .bool false, .int .i64 0, .int .u64 0] _ _ rfl rfl HBN.out (by simp) rfl bool_info23 ?_; rintro w12 hb12 hc12; have HB12 := Lib.hid hb12; have HX12 := Lib.hid (ext_storedF HXN.out hc12 HSQ.out); clear hb12 hc12; have p3 := (HX12.out.cell (World.block_lt_of_cell? _ _ HP34.out.1)).trans HP34.out.1; have p4 := (HX12.out.cell (World.block_lt_of_cell? _ _ HP34.out.2)).trans HP34.out.2) | (refine wpList_store_part rfl _ _ _ rfl _ _ _ _ #[.int .i64 q.1, .int .i64 q.2, .bool false, .int .i64 (pq.v / 18446744073709551616), .int .u64 (pq.v % 18446744073709551616)] _ rfl rfl HB12.out (by simp) rfl big_infoF (by simp [Value.oneCell']) ?_; rintro w13 hb13 hc13; have HXE := Lib.hid (ext_storedF HX12.out hc13 HSQ.out); have HBX : Hid (w13.heap[Wd.heap.size]? = some (.cells #[.int .i64 X.lo, .int .i64 X.hi, .bool X.nul, .int .i64 (X.v / 18446744073709551616), .int .u64 (X.v % 18446744073709551616)] 42 (0, 0))) := Lib.hid (by rw [hX]; exact hb13); clear hb13 hc13))
            clear p3 p4 hw1 hX
            (
                go_wp2_with (first | (refine wpList_load_box rfl _ _ rfl _ _ _ _ _ rfl HBX.out Tryz.underlying42 rfl row_info ?_) | (at_builtin; go_must (refine wpList_append_start elem_rw rfl _ _ rfl rfl rfl (Start.row (I.out.1.row.ext (HXE.out.trans ((Ext.refl _).alloc _))) I.out.1.own) (I.out.1.ext.trans (HXE.out.trans ((Ext.refl _).alloc _))) (src_rw (p := X) (heap_alloc_new _ _)) (by omega) (by unfold maxLen; omega) (by omega) ?_; intro v' w4 hmade); have HMD := Lib.hid hmade; obtain ⟨va', vc', rfl⟩ := hmade.row.shape; clear hmade))
                go_roundw
                case rel => exact ⟨j + 1, k, va', vc', rfl, by go_num, by go_num, by omega, hk, Lib.hid ⟨by rw [HTK.out, rws_append, HFX.out]; exact HMD.out, HM.out.2.1.symm⟩⟩
                case measure => simp [RowKit.intOf]; omega)
      · have HE : Hid (ws.take j = ws) := Lib.hid (List.take_of_length_le (by have := LW.out; omega))
        go_wp2_with fail
        go_ret2
        refine ⟨_, _, _, rfl, ?_, HX2.out.trans I.out.1.ext⟩
        rw [HF.out]
        have h := I.out.1.row.src (rws_one _)
        rw [HE.out] at h
        exact h
end Go.Proofs.YtokllgdbmnmieaaGreat
