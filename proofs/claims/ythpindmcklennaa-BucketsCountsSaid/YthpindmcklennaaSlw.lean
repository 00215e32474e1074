/- BucketsSlide: the law's walk. -/
import Derived.Test.YthpindmcklennaaWdw
import Derived.Test.YthpindmcklennaaSin
import Derived.Test.YthpindmcklennaaSlp
import Derived.Test.YthpindmcklennaaMsk
import Derived.Test.YthpindmcklennaaOpl
namespace Go.Proofs.Ythpindmcklennaa
open Go.RowKit Go.Lib Go.Sort

theorem wrap_succ {j m : Nat} (h : j < m) (hm : m ≤ 3840) : wrap64 ((j : Int) + 1) = ((j + 1 : Nat) : Int) := IntWalk.wrap64_in _ (by omega)
theorem int_succ (j : Nat) : Value.int .i64 ((j : Int) + 1) = .int .i64 ((j + 1 : Nat) : Int) := rfl
theorem lt_count {j m : Nat} (h : j < m) : m - (RowKit.intOf (.int .i64 ((j + 1 : Nat) : Int))).toNat < m - (RowKit.intOf (.int .i64 (j : Int))).toNat := by
  simp [RowKit.intOf]; omega

/-- What was put in, while it is made. -/
structure SlR (w : World) (k : Nat) (P : List Pt) (sum : Int) (v : Value) (wr : World) : Prop where
  made : MadeTo w 24 3 v k (pts P) wr
  ok : ∀ p ∈ P, 0 ≤ p.t ∧ p.t < 4096 ∧ 0 ≤ p.v ∧ p.v < 65536
  tot : (P.map (fun p => p.v)).sum = sum
  bound : 0 ≤ sum ∧ sum ≤ 65536 * (k : Int)

set_option maxHeartbeats 16000000 in
set_option maxRecDepth 100000 in
theorem slide_walk (w : World) (a : Option Addr) (n c : Nat) (l : List Pt) (parts step : Int) (hl : Src w 3 (.slice a n c) n (pts l)) (hn : n < 4611686018427387904) :
    Calls Try.prog 3 #[.slice a n c, .int .i64 parts, .int .i64 step] w fun e w' => e = .returned (.bool true) ∧ Ext w w' := by
  have HL := Lib.hid hl
  clear hl
  have hb1 := i64_and7 parts
  have hb2 := i64_and15 step
  obtain ⟨p7, hp7, hp7'⟩ : ∃ p7 : Nat, parts % 8 = (p7 : Int) ∧ p7 ≤ 7 := ⟨(parts % 8).toNat, by omega, by omega⟩
  obtain ⟨s15, hs15, hs15'⟩ : ∃ s15 : Nat, step % 16 = (s15 : Int) ∧ s15 ≤ 15 := ⟨(step % 16).toNat, by omega, by omega⟩
  rw [hp7] at hb1
  rw [hs15] at hb2
  clear hp7 hs15
  go_enter Try.func3, Try.ntmps3
  go_wp2_with fail
  obtain ⟨pp, hpp, hpp1, hpp8⟩ : ∃ pp : Nat, 1 + (p7 : Int) = (pp : Int) ∧ 1 ≤ pp ∧ pp ≤ 8 := ⟨p7 + 1, by omega, by omega, by omega⟩
  obtain ⟨ss, hss, hss1, hss16⟩ : ∃ ss : Nat, 1 + (s15 : Int) = (ss : Int) ∧ 1 ≤ ss ∧ ss ≤ 16 := ⟨s15 + 1, by omega, by omega, by omega⟩
  rw [hpp, hss]
  have HPS := Lib.hid (And.intro hpp1 (And.intro hpp8 (And.intro hss1 hss16)))
  clear hpp hss hb1 hb2 hp7' hs15' hpp1 hpp8 hss1 hss16
  go_loopw [7, 8, 9] (fun s7 s8 s9 wr => ∃ (k : Nat) (va : Option Addr) (vc : Nat) (P : List Pt) (sum : Int), k ≤ n ∧ k ≤ 60 ∧ s7 = .slice va k vc ∧ s8 = .int .i64 sum ∧ s9 = .int .i64 k ∧ Hid (SlR w k P sum s7 wr)) (fun _ _ i _ => 60 - (RowKit.intOf i).toNat)
  case atStart => exact ⟨0, none, 0, [], 0, by omega, by omega, rfl, rfl, rfl, Lib.hid ⟨⟨Row.nil _ _ _, fun g hg => by simp [Value.ownBlock] at hg, Ext.refl w⟩, by simp, rfl, by omega, by omega⟩⟩
  case round =>
    obtain ⟨k, va, vc, P, sum, hk, hk60, rfl, rfl, rfl, HR⟩ := hrel
    by_cases hlt : k < n ∧ k < 60
    · obtain ⟨hlt, hlt2⟩ := hlt
      obtain ⟨b, so, p, rfl, hp, d0, d1, d2⟩ := pts_src HL.out hlt
      have HC : Hid (∀ W', Ext w W' → W'.cell? ⟨b, so + k * 3, none⟩ = some (.int .i64 p.t) ∧ W'.cell? ⟨b, so + k * 3 + 1, none⟩ = some (.int .i64 p.v)) := Lib.hid (fun W' hx => ⟨(hx.cell (p := ⟨b, so + k * 3, none⟩) (World.block_lt_of_cell? w _ d0)).trans d0, (hx.cell (p := ⟨b, so + k * 3 + 1, none⟩) (World.block_lt_of_cell? w _ d1)).trans d1⟩)
      obtain ⟨c0, c1⟩ := HC.out _ HR.out.made.ext
      clear d0 d1 d2
      have e0 := i64_and4095 p.t
      have e1 := i64_and65535 p.v
      obtain ⟨x, hx, hx0, hx1⟩ : ∃ x : Int, p.t % 4096 = x ∧ 0 ≤ x ∧ x < 4096 := ⟨_, rfl, by omega, by omega⟩
      obtain ⟨y, hy, hy0, hy1⟩ : ∃ y : Int, p.v % 65536 = y ∧ 0 ≤ y ∧ y < 65536 := ⟨_, rfl, by omega, by omega⟩
      rw [hx] at e0
      rw [hy] at e1
      have HXY := Lib.hid (And.intro hx0 (And.intro hx1 (And.intro hy0 hy1)))
      have hsb := HR.out.bound
      have hsum : sum + y ≤ 9223372036854775807 := by omega
      have hsum0 : -9223372036854775808 ≤ sum + y := by omega
      clear hx hy hx0 hx1 hy0 hy1 hp hsb
      go_wp2_with fail
      refine wp_region_split_lit [0] [1, 2, 3, 4, 5, 6, 7, 8, 9, 10, 11, 12, 13, 14] [15, 16, 17] (by kernel_rfl) (by kernel_rfl) (fun _ _ dd _ _ hh => by cases dd <;> exact hh) ?_
      simp only [pickOps, List.getElem?_cons_succ, List.getElem?_cons_zero]
      repeat (go_big_quiet_step (fail))
      refine wpQuiet_nil ?_
      repeat (go_big_quiet_step (fail))
      refine wpQuiet_nil ?_
      intro w4 hw'
      have HX4 : Hid (Ext wr w4) := Lib.hid (by obtain ⟨k, rfl⟩ := hw'; exact Ext.drewN _ _)
      clear hw' c0 c1
      have HR4 := Lib.hid (HR.out.made.row.ext HX4.out)
      go_wp2_with (refine wpList_append_start elem_pt rfl _ _ rfl rfl rfl (Start.row (HR4.out.alloc _) HR.out.made.own) ((HR.out.made.ext.trans HX4.out).alloc _) (src_pt' (p := (⟨x, y, k⟩ : Pt)) (heap_alloc_new w4 (.cells #[.int .i64 x, .int .i64 y, .int .i64 k] 24 (0, 0)))) (by omega) (by unfold maxLen; omega) (by omega) ?_; rintro v' w5 ha; obtain ⟨va', vc', rfl⟩ := ha.row.shape; obtain ⟨_, c1⟩ := HC.out _ ha.ext; have HA := Lib.hid ha; clear ha)
      refine ⟨⟨k + 1, va', vc', P ++ [⟨x, y, k⟩], sum + y, by omega, by omega, rfl, by go_num, by go_num, Lib.hid ⟨?_, ?_, ?_, ?_⟩⟩, ?_⟩
      · rw [pts_append]; exact HA.out
      · intro q hq
        rcases List.mem_append.1 hq with hq | hq
        · exact HR.out.ok q hq
        · simp at hq; subst hq; exact HXY.out
      · have := HR.out.tot
        simp [this]
      · have h1 := HR.out.bound
        have h2 := HXY.out
        omega
      · simp [RowKit.intOf]; omega
    · have hkk : ¬ k < n ∨ ¬ k < 60 := by omega
      -- the exit of the loop
      have HKK := Lib.hid hkk
      obtain ⟨W0, hW0⟩ : ∃ W0 : Nat, W0 = pp * ss := ⟨_, rfl⟩
      have hmul : W0 ≤ 8 * 16 := by rw [hW0]; exact Nat.mul_le_mul HPS.out.2.1 HPS.out.2.2.2
      have HWN : Hid (windowB (W0 : Int) (ss : Int) 0 = true) := Lib.hid (by
        have h0 := HPS.out
        have h1 : ss ≤ W0 := by rw [hW0]; exact Nat.le_mul_of_pos_left _ (by omega)
        have h2 : W0 ≤ 64 * ss := by rw [hW0]; exact Nat.mul_le_mul_right _ (by omega)
        unfold windowB
        simp only [Bool.and_eq_true, decide_eq_true_eq]
        omega)
      have HWE : Hid ((W0 : Int) = (pp : Int) * (ss : Int)) := Lib.hid (by rw [hW0]; simp)
      have hwm : IntKind.i64.wrap ((pp : Int) * (ss : Int)) = (W0 : Int) := by rw [← HWE.out]; exact IntWalk.i64_in _ (by omega)
      clear hkk hW0
      rcases HKK.out with hx | hx
      case' inl => go_wp2_with fail
      case' inr =>
        by_cases hx2 : k < n
        case' pos => go_wp2_with fail
        case' neg => go_wp2_with fail
      all_goals
        have HPL : Hid (P.length = k) := Lib.hid (src_len (HR.out.made.row.src (pts_one P)))
        refine (windows_any wr va k vc P W0 ss 0 (HR.out.made.row.src (pts_one P)) (by omega) (fun p hp => by have := HR.out.ok p hp; omega)).mono ?_
        intro e w5 hpost
        unfold winPost at hpost
        rw [if_pos ⟨HWN.out, by
          rw [List.any_eq_false]
          intro p hp
          have h1 := HR.out.ok p hp
          have : timeB p.t = true := by unfold timeB; simp only [Bool.and_eq_true, decide_eq_true_eq]; omega
          simp [this]⟩] at hpost
        obtain ⟨v, rfl, ds, hperm, hsort, hmd⟩ := hpost
        obtain ⟨wa, wc, rfl⟩ := hmd.row.shape
        have hNp : ∀ t, winN (W0 : Int) (ss : Int) 0 t = pp := fun t => by rw [HWE.out]; exact winN_parts (by have := HPS.out; omega) HPS.out.1
        have hsum := sum_gatL (wd := W0) (st := ss) (off := 0) hNp P
        rw [← sumN_perm hperm, ← sumS_perm hperm, HPL.out, HR.out.tot] at hsum
        have hall : ∀ q ∈ ds, 0 ≤ q.2.n ∧ 0 ≤ q.2.s := fun q hq => by
          have := gatL_all (wd := W0) (st := ss) (off := 0) (R := fun _ g => 0 ≤ g.n ∧ 0 ≤ g.s) P (fun p hp x _ g hg => by
            have h1 := HR.out.ok p hp
            unfold agM
            rcases hg with rfl | hg
            · simp [Ag.zero, agOf]; omega
            · split
              · simp [agOf]; omega
              · simp [agOf]; omega) q (hperm.subset hq)
          exact this
        have hnd : (ds.map (·.1)).Nodup := ((hperm.map _).nodup_iff).2 (gatL_nodup P)
        have hlenD : ds.length ≤ 3840 := by
          have h1 := gatL_len (wd := W0) (st := ss) (off := 0) HWN.out P
          rw [HPL.out] at h1
          rw [hperm.length_eq]
          omega
        have HS := Lib.hid (And.intro hsum (And.intro hall (And.intro hsort hnd)))
        have HEX := Lib.hid (HR.out.made.ext.trans hmd.ext)
        have HM := Lib.hid (hmd.row.src (bks_one (ds.map (bkOf W0))))
        have hfin : Hid ((pp : Int) * (k : Int) ≤ 480 ∧ 0 ≤ (pp : Int) * (k : Int) ∧ 0 ≤ (pp : Int) * sum ∧ (pp : Int) * sum ≤ 8 * (65536 * 60)) := Lib.hid (by
          have h1 := HPS.out
          have h2 := HR.out.bound
          have h3 : (pp : Int) * (k : Int) ≤ 8 * 60 := Int.mul_le_mul (by omega) (by omega) (by omega) (by omega)
          have h4 : (pp : Int) * sum ≤ 8 * (65536 * 60) := Int.mul_le_mul (by omega) (by omega) (by omega) (by omega)
          exact ⟨by omega, Int.mul_nonneg (by omega) (by omega), Int.mul_nonneg (by omega) h2.1, h4⟩)
        clear hperm hsort hmd hNp hsum hall hnd
        obtain ⟨m, hm⟩ : ∃ m, m = ds.length := ⟨_, rfl⟩
        rw [← hm]
        rw [← hm] at HM
        rw [← hm] at hlenD
        have HDL := Lib.hid (And.intro hm hlenD)
        clear hm hlenD
        go_wp2_with fail
        go_loopw [12, 13, 14] (fun s12 s13 s14 wq => ∃ j : Nat, j ≤ m ∧ s12 = .int .i64 (sumN (ds.take j)) ∧ s13 = .int .i64 (sumS (ds.take j)) ∧ s14 = .int .i64 j ∧ Hid (Ext w5 wq)) (fun _ _ i _ => m - (RowKit.intOf i).toNat)
        case atStart => exact ⟨0, by omega, by simp [sumN], by simp [sumS], rfl, Lib.hid (Ext.refl _)⟩
        case round =>
          obtain ⟨j, hj, rfl, rfl, rfl, HX⟩ := hrel
          by_cases hjm : j < m
          · obtain ⟨b', so', bk, rfl, hbk, hrg⟩ := enc_src bkc_len (by decide) (HM.out.ext HX.out) hjm
            obtain ⟨q, hq, rfl⟩ : ∃ q, ds[j]? = some q ∧ bkOf W0 q = bk := by
              rw [List.getElem?_map] at hbk
              cases hd : ds[j]? with
              | none => rw [hd] at hbk; cases hbk
              | some q => rw [hd] at hbk; exact ⟨q, rfl, by simpa using hbk⟩
            have z0 : wr.cell? ⟨b', so' + j * 13, none⟩ = some (.int .i64 q.1) := hrg 0 _ rfl
            have z2 : wr.cell? ⟨b', so' + j * 13 + 2, none⟩ = some (.int .i64 q.2.n) := hrg 2 _ rfl
            have z3 : wr.cell? ⟨b', so' + j * 13 + 3, none⟩ = some (.int .i64 (q.2.s / 18446744073709551616)) := hrg 3 _ rfl
            have z4 : wr.cell? ⟨b', so' + j * 13 + 4, none⟩ = some (.int .u64 (q.2.s % 18446744073709551616)) := hrg 4 _ rfl
            have hts := sum_take_succ hq
            have htn := sumN_take ds (j + 1) (fun p hp => (HS.out.2.1 p hp).1)
            have htm := sumS_take ds (j + 1) (fun p hp => (HS.out.2.1 p hp).2)
            have htn0 := sumN_take ds j (fun p hp => (HS.out.2.1 p hp).1)
            have htm0 := sumS_take ds j (fun p hp => (HS.out.2.1 p hp).2)
            have hqq := HS.out.2.1 q (List.mem_of_getElem? hq)
            rw [HS.out.1.1, hts.1] at htn
            rw [HS.out.1.2, hts.2] at htm
            have HT := Lib.hid (And.intro hts (And.intro hqq (And.intro htn (And.intro htm (And.intro htn0.1 htm0.1)))))
            have HQ := Lib.hid hq
            obtain ⟨x, hx⟩ : ∃ x, x = sumN (ds.take j) := ⟨_, rfl⟩
            obtain ⟨y, hy⟩ : ∃ y, y = sumS (ds.take j) := ⟨_, rfl⟩
            rw [← hx, ← hy]
            rw [← hx, ← hy] at HT
            have HXY := Lib.hid (And.intro hx hy)
            clear hx hy hts htn htm htn0 htm0 hqq hq hbk hrg
            have g1 : x + q.2.n ≤ 9223372036854775807 := by have := HT.out; have := hfin.out; omega
            have g2 : -9223372036854775808 ≤ x + q.2.n := by have := HT.out; have := hfin.out; omega
            go_wp2_with fail
            have hsr : q.2.s ≤ 9223372036854775807 := by have := HT.out; have := hfin.out; omega
            have hsr0 : -9223372036854775808 ≤ q.2.s := by have := HT.out; omega
            refine (sumInt_any q.2.s _ hsr0 hsr).mono ?_
            rintro e w6 ⟨rfl, hx6⟩
            have HX6 := Lib.hid (HX.out.trans hx6)
            have g3 : y + q.2.s ≤ 9223372036854775807 := by have := HT.out; have := hfin.out; omega
            have g4 : -9223372036854775808 ≤ y + q.2.s := by have := HT.out; omega
            have HZ0 := Lib.hid ((hx6.cell (p := ⟨b', so' + j * 13, none⟩) (World.block_lt_of_cell? wr _ z0)).trans z0)
            clear hx6 z0 z2 z3 z4 hsr hsr0 g1 g2
            have HRND : Hid (∀ wz, Ext w5 wz → ∃ j' : Nat, j' ≤ m ∧ Value.int .i64 (x + q.2.n) = .int .i64 (sumN (ds.take j')) ∧ Value.int .i64 (y + q.2.s) = .int .i64 (sumS (ds.take j')) ∧ j' = j + 1 ∧ Hid (Ext w5 wz)) := Lib.hid (fun wz hz => ⟨j + 1, by omega, by rw [HT.out.1.1], by rw [HT.out.1.2], rfl, Lib.hid hz⟩)
            rcases Nat.eq_zero_or_pos j with hj0 | hj0
            case' inl =>
              have hd0 : decide ((0 : Int) < (j : Int)) = false := by rw [hj0]; decide
              go_wp2_with fail
              refine wp_region_split_lit [] [0, 1, 2, 3, 4, 5, 6, 7, 8, 9, 10, 11, 12, 13, 14, 15, 16, 17, 18, 19, 20, 21] [] (by kernel_rfl) (by kernel_rfl) (fun _ _ dd _ _ hh => by cases dd <;> exact hh) ?_
              simp only [pickOps, List.getElem?_cons_succ, List.getElem?_cons_zero]
              refine wpQuiet_nil ?_
              repeat (go_big_quiet_step (fail))
            case' inr =>
              obtain ⟨p, hp, hp1⟩ : ∃ p : Nat, p < m ∧ p + 1 = j := ⟨j - 1, by omega, by omega⟩
              obtain ⟨b2, so2, bk2, hb2, hbk2, hrg2⟩ := enc_src bkc_len (by decide) (HM.out.ext HX6.out) hp
              simp only [Option.some.injEq, Addr.mk.injEq] at hb2
              obtain ⟨rfl, rfl, _⟩ := hb2
              obtain ⟨q2, hq2, rfl⟩ : ∃ q2, ds[p]? = some q2 ∧ bkOf W0 q2 = bk2 := by
                rw [List.getElem?_map] at hbk2
                cases hd : ds[p]? with
                | none => rw [hd] at hbk2; cases hbk2
                | some q => rw [hd] at hbk2; exact ⟨q, rfl, by simpa using hbk2⟩
              have z1 : w6.cell? ⟨b', so' + p * 13, none⟩ = some (.int .i64 q2.1) := hrg2 0 _ rfl
              have z0 := HZ0.out
              have hlq : q2.1 < q.1 := by
                have h1 := HS.out.2.2
                have h3 : (ds.map (·.1))[p]? = some q2.1 := by rw [List.getElem?_map, hq2]; rfl
                have h4 : (ds.map (·.1))[j]? = some q.1 := by rw [List.getElem?_map, HQ.out]; rfl
                obtain ⟨i3, e3⟩ := List.getElem?_eq_some_iff.1 h3
                obtain ⟨i4, e4⟩ := List.getElem?_eq_some_iff.1 h4
                have h5 := List.pairwise_iff_getElem.1 h1.1 p j i3 i4 (by omega)
                have h6 := List.pairwise_iff_getElem.1 h1.2 p j i3 i4 (by omega)
                rw [e3, e4] at h5 h6
                omega
              have hd0 : decide ((0 : Int) < (j : Int)) = true := by simp; omega
              have hd1 : decide (q.1 ≤ q2.1) = false := by simp; omega
              have hjp : IntKind.i64.wrap ((j : Int) - 1) = (p : Int) := by rw [IntWalk.i64_in _ (by have := HDL.out.2; omega)]; omega
              clear hbk2 hrg2 hq2
              go_wp2_with fail
              refine wp_region_split_lit [] [0, 1, 2, 3, 4, 5, 6, 7, 8, 9, 10, 11, 12, 13, 14, 15, 16, 17, 18, 19, 20, 21] [] (by kernel_rfl) (by kernel_rfl) (fun _ _ dd _ _ hh => by cases dd <;> exact hh) ?_
              simp only [pickOps, List.getElem?_cons_succ, List.getElem?_cons_zero]
              refine wpQuiet_nil ?_
              repeat (go_big_quiet_step (fail))
            all_goals
              refine wpQuiet_nil ?_
              intro w7 hw'
              have HX7 : Hid (Ext w5 w7) := Lib.hid (by obtain ⟨k, rfl⟩ := hw'; exact HX6.out.trans (Ext.drewN _ _))
              clear hw'
              go_wp2_with fail
              have hw := wrap_succ hjm HDL.out.2
              refine ⟨⟨j + 1, hjm, ?_, ?_, ?_, Lib.hid HX7.out⟩, ?_⟩
              · rw [HT.out.1.1]
              · rw [HT.out.1.2]
              · first
                  | rw [hw]
                  | exact int_succ j
                  | (subst hj0; rfl)
              · first
                  | (rw [hw]; exact lt_count hjm)
                  | (rw [int_succ]; exact lt_count hjm)
                  | (subst hj0; exact lt_count hjm)
          · have htk : ds.take j = ds := List.take_of_length_le (by have := HDL.out.1; omega)
            obtain ⟨T1, hT1⟩ : ∃ T1, T1 = (pp : Int) * (k : Int) := ⟨_, rfl⟩
            obtain ⟨T2, hT2⟩ : ∃ T2, T2 = (pp : Int) * sum := ⟨_, rfl⟩
            rw [htk, HS.out.1.1, HS.out.1.2, ← hT1, ← hT2]
            have hw1 : IntKind.i64.wrap ((pp : Int) * (k : Int)) = T1 := by rw [← hT1]; exact IntWalk.i64_in _ (by have := hfin.out; omega)
            have hw2 : IntKind.i64.wrap ((pp : Int) * sum) = T2 := by rw [← hT2]; exact IntWalk.i64_in _ (by have := hfin.out; omega)
            have hw3 : wrap64 ((pp : Int) * (k : Int)) = T1 := by rw [← hT1]; exact IntWalk.wrap64_in _ (by have := hfin.out; omega)
            have hw4 : wrap64 ((pp : Int) * sum) = T2 := by rw [← hT2]; exact IntWalk.wrap64_in _ (by have := hfin.out; omega)
            clear htk hT1 hT2 hwm
            go_wp2_with fail
            go_ret
            exact ⟨rfl, HEX.out.trans HX.out⟩
end Go.Proofs.Ythpindmcklennaa
