/- The document's sessions of times: tidemillref09.Sessions. -/
import Derived.Test.YthnpchfcafaiiaaR09
import Derived.Test.YthnpchfcafaiiaaSes
namespace Go.Proofs.Ythnpchfcafaiiaa
open Go.RowKit Go.Lib Go.Sort

def rspPost (w : World) (gap : Int) (l : List Int) (e : Ending) (w' : World) : Prop :=
  (sesOk gap l ∧ ∃ v, e = .returned (.tuple #[v, .int .i64 0]) ∧ MadeTo w 78 2 v (spL gap l).length (sps (spL gap l)) w') ∨
  (¬ sesOk gap l ∧ e = .returned (.tuple #[.slice none 0 0, .int .i64 2]) ∧ Ext w w')
/-- So far. -/
structure RpR (w : World) (gap : Int) (l : List Int) (k : Nat) (va : Option Addr) (m vc : Nat) (wr : World) : Prop where
  made : MadeTo w 78 2 (.slice va m vc) m (sps (spL gap (l.take k))) wr
  len : (spL gap (l.take k)).length = m

set_option maxHeartbeats 4000000 in
set_option maxRecDepth 100000 in
theorem rsessions_any (w : World) (a : Option Addr) (n c : Nat) (l : List Int) (gap : Int) (hl : Src w 1 (.slice a n c) n (zints l)) (hn : n ≤ 100000) :
    Calls Try.prog 24 #[.slice a n c, .int .i64 gap] w (rspPost w gap l) := by
  have HL := Lib.hid hl
  have HLN := Lib.hid (zints_src_len hl)
  clear hl
  have HP : Hid (∀ e w', rspPost w gap l e w' = ((sesOk gap l ∧ ∃ v, e = .returned (.tuple #[v, .int .i64 0]) ∧ MadeTo w 78 2 v (spL gap l).length (sps (spL gap l)) w') ∨ (¬ sesOk gap l ∧ e = .returned (.tuple #[.slice none 0 0, .int .i64 2]) ∧ Ext w w'))) := Lib.hid (fun _ _ => rfl)
  go_enter Try.func24, Try.ntmps24
  by_cases g1 : gap < 1
  · have HQ : Hid (¬ sesOk gap l) := Lib.hid (by unfold sesOk; omega)
    go_wp2_with fail
    go_ret2
    rw [HP.out]
    exact .inr ⟨HQ.out, rfl, Ext.refl _⟩
  by_cases g2 : 1152921504606846976 < gap
  · have HQ : Hid (¬ sesOk gap l) := Lib.hid (by unfold sesOk; omega)
    go_wp2_with fail
    go_ret2
    rw [HP.out]
    exact .inr ⟨HQ.out, rfl, Ext.refl _⟩
  go_wp2_with fail
  go_loopw [6] (fun s6 wr => ∃ k : Nat, k ≤ n ∧ s6 = .int .i64 k ∧ Hid ((∀ z ∈ l.take k, timeB z = true) ∧ (l.take k).Pairwise (· ≤ ·) ∧ Ext w wr)) (fun i _ => n - (RowKit.intOf i).toNat)
  case atStart => exact ⟨0, by omega, rfl, Lib.hid ⟨by simp, by simp, Ext.refl _⟩⟩
  case round =>
    obtain ⟨k, hk, rfl, HI⟩ := hrel
    by_cases hlt : k < n
    · obtain ⟨b, so, t, rfl, ht, c0⟩ := zints_src (HL.out.ext HI.out.2.2) hlt
      have HT := Lib.hid ht
      clear ht
      obtain ⟨bv, hbv⟩ : ∃ bv, bv = timeB t := ⟨_, rfl⟩
      have HBV := Lib.hid hbv
      have HQ1 : Hid (∀ w, Calls Try.prog 40 #[.int .i64 t] w fun e w' => e = .returned (.bool bv) ∧ w' = w) := Lib.hid (fun w => by rw [hbv]; exact (rtime_any t w).mono (fun e w' h => ⟨h.1, h.2.symm⟩))
      clear hbv
      have HSORT : Hid ((k = 0 ∨ ∃ p u, p + 1 = k ∧ l[p]? = some u ∧ u ≤ t) → (l.take (k + 1)).Pairwise (· ≤ ·)) := Lib.hid (take_sort HT.out HI.out.2.1)
      cases bv with
      | false =>
        have HQ : Hid (¬ sesOk gap l) := Lib.hid (by
          rintro ⟨⟨_, _, h⟩, _⟩
          rw [List.all_eq_true] at h
          have := h t (List.mem_of_getElem? HT.out)
          rw [← HBV.out] at this
          cases this)
        go_wp2_with fail
        go_big_quiet (first | (go_at_call 40; exact Calls.quiet_of_same (HQ1.out _)))
        go_wp2_with fail
        go_ret2
        rw [HP.out]
        exact .inr ⟨HQ.out, rfl, HI.out.2.2.trans (Ext.drewN _ _)⟩
      | true =>
        have HALL : Hid (∀ z ∈ l.take (k + 1), timeB z = true) := Lib.hid (fun y hy => by
          rw [List.take_add_one, HT.out] at hy
          rcases List.mem_append.1 hy with hy | hy
          · exact HI.out.1 y hy
          · simp at hy; subst hy; exact HBV.out.symm)
        rcases Nat.eq_zero_or_pos k with hk0 | hk0
        · have HSO := Lib.hid (HSORT.out (.inl hk0))
          subst hk0
          simp only [Nat.add_zero] at c0
          go_wp2_with fail
          go_big_quiet (first | (go_at_call 40; exact Calls.quiet_of_same (HQ1.out _)))
          go_wp2_with fail
          exact ⟨⟨1, by omega, rfl, Lib.hid ⟨HALL.out, HSO.out, HI.out.2.2.trans (Ext.drewN _ _)⟩⟩, by simp [RowKit.intOf]; omega⟩
        · obtain ⟨p, hp1, hpn⟩ : ∃ p, p + 1 = k ∧ p < n := ⟨k - 1, by omega, by omega⟩
          obtain ⟨b', so', u, heq, hu, c1⟩ := zints_src (HL.out.ext HI.out.2.2) hpn
          simp only [Option.some.injEq, Addr.mk.injEq, and_true] at heq
          obtain ⟨rfl, rfl⟩ := heq
          have HU := Lib.hid hu
          have HPK := Lib.hid hp1
          have hjp : (k : Int) - 1 = (p : Int) := by omega
          clear hu hp1 hpn
          by_cases htu : t < u
          · have HQ : Hid (¬ sesOk gap l) := Lib.hid (by
              rintro ⟨_, h⟩
              have h1 := HU.out
              have h2 := HT.out
              obtain ⟨i1, e1⟩ := List.getElem?_eq_some_iff.1 h1
              obtain ⟨i2, e2⟩ := List.getElem?_eq_some_iff.1 h2
              have := List.pairwise_iff_getElem.1 h p k i1 i2 (by have := HPK.out; omega)
              rw [e1, e2] at this
              omega)
            go_wp2_with fail
            go_big_quiet (first | (go_at_call 40; exact Calls.quiet_of_same (HQ1.out _)))
            go_wp2_with fail
            go_ret2
            rw [HP.out]
            exact .inr ⟨HQ.out, rfl, HI.out.2.2.trans (Ext.drewN _ _)⟩
          · have HSO := Lib.hid (HSORT.out (.inr ⟨p, u, HPK.out, HU.out, by omega⟩))
            go_wp2_with fail
            go_big_quiet (first | (go_at_call 40; exact Calls.quiet_of_same (HQ1.out _)))
            go_wp2_with fail
            exact ⟨⟨k + 1, by omega, by go_num, Lib.hid ⟨HALL.out, HSO.out, HI.out.2.2.trans (Ext.drewN _ _)⟩⟩, by simp [RowKit.intOf]; omega⟩
    · have hkn : k = n := by omega
      subst hkn
      have HOK : Hid (sesOk gap l) := Lib.hid (by
        have h1 := HI.out
        rw [List.take_of_length_le (by have := HLN.out; omega)] at h1
        exact ⟨⟨by omega, by omega, List.all_eq_true.2 h1.1⟩, h1.2.1⟩)
      go_wp2_with fail
      clear hlt hk
      have HX0 := Lib.hid HI.out.2.2
      go_loopw [7, 8] (fun s7 s8 wq => ∃ (j m vc : Nat) (va : Option Addr), j ≤ k ∧ s7 = .slice va m vc ∧ s8 = .int .i64 j ∧ Hid (RpR wr gap l j va m vc wq)) (fun _ i _ => k - (RowKit.intOf i).toNat)
      case atStart => exact ⟨0, 0, 0, none, by omega, rfl, rfl, Lib.hid ⟨⟨Row.nil _ _ _, fun g hg => by simp [Value.ownBlock] at hg, Ext.refl _⟩, rfl⟩⟩
      case round =>
        obtain ⟨j, m, vc, va, hj, rfl, rfl, HR⟩ := hrel
        have hmn : m ≤ 100000 := by have h1 := HR.out.len; have h2 := spL_len gap (l.take j); rw [List.length_take] at h2; omega
        by_cases hlt : j < k
        · obtain ⟨b, so, t, rfl, ht, c0⟩ := zints_src (HL.out.ext (HX0.out.trans HR.out.made.ext)) hlt
          have HT2 := Lib.hid ht
          have HTB : Hid (-1152921504606846976 ≤ t ∧ t ≤ 1152921504606846976) := Lib.hid (by
            have h1 := HOK.out.1.2.2
            rw [List.all_eq_true] at h1
            exact time_nums (h1 t (List.mem_of_getElem? ht)))
          clear ht
          have e2 : IntKind.i64.wrap (t + gap) = t + gap := IntWalk.i64_in _ (by have := HTB.out; omega)
          have hw1 : -9223372036854775808 ≤ t + gap := by have := HTB.out; omega
          have hw2 : t + gap ≤ 9223372036854775807 := by have := HTB.out; omega
          rcases Nat.eq_zero_or_pos j with hk0 | hk0
          · have hm0 : m = 0 := by have h1 := HR.out.len; rw [hk0] at h1; simp [spL] at h1; omega
            have HSP : Hid (spL gap (l.take (j + 1)) = [(t, t + gap)]) := Lib.hid (by rw [List.take_add_one, HT2.out, hk0]; simp [spL, spStep])
            subst hk0
            subst hm0
            simp only [Nat.add_zero] at c0
            go_wp2_with fail
            refine wp_region_split_lit [] [0, 1, 2, 3, 4, 5, 6, 7, 8, 9, 10, 11, 12, 13, 14, 15] [] (by kernel_rfl) (by kernel_rfl) (fun _ _ dd _ _ hh => by cases dd <;> exact hh) ?_
            simp only [pickOps, List.getElem?_cons_succ, List.getElem?_cons_zero]
            refine wpQuiet_nil ?_
            repeat (go_big_quiet_step (fail))
            refine wpQuiet_nil ?_
            intro w4 hw'
            have HX4 : Hid (Ext wr w4) := Lib.hid (by obtain ⟨k, rfl⟩ := hw'; exact Ext.drewN _ _)
            have c1 : w4.cell? ⟨b, so, none⟩ = some (.int .i64 t) := by obtain ⟨k, rfl⟩ := hw'; exact c0
            clear hw' c0
            go_wp2_with fail
            refine wp_region_split_lit [0] [1, 2, 3, 4, 5, 6, 7, 8, 9, 10, 11] [12, 13, 14] (by kernel_rfl) (by kernel_rfl) (fun _ _ dd _ _ hh => by cases dd <;> exact hh) ?_
            simp only [pickOps, List.getElem?_cons_succ, List.getElem?_cons_zero]
            repeat (go_big_quiet_step (fail))
            refine wpQuiet_nil ?_
            repeat (go_big_quiet_step (fail))
            refine wpQuiet_nil ?_
            intro w5 hw'
            have HX5 : Hid (Ext wr w5) := Lib.hid (by obtain ⟨k, rfl⟩ := hw'; exact HX4.out.trans (Ext.drewN _ _))
            clear hw' c1
            go_wp2_with (first | (refine wpList_append_start elem_rspan rfl _ _ rfl rfl rfl (Start.row ((HR.out.made.row.ext HX5.out).alloc _) HR.out.made.own) ((HR.out.made.ext.trans HX5.out).alloc _) (src_new w5 #[.int .i64 t, .int .i64 (t + gap)] 78 2 1 (0, 0) rfl (by simp [Value.oneCell'])) (by omega) (by unfold maxLen; omega) (by omega) ?_; rintro v' w6 ha; obtain ⟨va', vc', rfl⟩ := ha.row.shape; have HA := Lib.hid ha; clear ha))
            refine ⟨⟨1, 1, vc', va', by omega, rfl, rfl, Lib.hid ⟨?_, ?_⟩⟩, ?_⟩
            · rw [HSP.out]
              have h1 := HA.out
              have h2 : sps (spL gap (l.take 0)) = [] := by simp [spL, sps]
              rw [h2] at h1
              exact h1
            · rw [HSP.out]; rfl
            · simp [RowKit.intOf]; omega
          · obtain ⟨p, hp1, hpn⟩ : ∃ p, p + 1 = j ∧ p < k := ⟨j - 1, by omega, by omega⟩
            have hm0 : 0 < m := by
              have h1 := HR.out.len
              obtain ⟨u, hu⟩ : ∃ u, l[p]? = some u := ⟨_, List.getElem?_eq_getElem (by have := HLN.out; omega)⟩
              rw [← hp1, List.take_add_one, hu] at h1
              have h3 : (spL gap (l.take p ++ [u])).length = m := h1
              rw [spL_snoc] at h3
              unfold spStep at h3
              split at h3
              · split at h3 <;> simp at h3 <;> omega
              · simp at h3; omega
            clear hp1 hpn
            obtain ⟨q, hq1, hqm⟩ : ∃ q, q + 1 = m ∧ q < m := ⟨m - 1, by omega, by omega⟩
            obtain ⟨ob, oo, s, rfl, hs, d0, d1⟩ := sps_src (HR.out.made.row.src (sps_one _)) hqm
            obtain ⟨s1, s2⟩ := s
            simp only at d0 d1
            have HSQ := Lib.hid hs
            have HFR := Lib.hid (row_spot HR.out.made.row)
            have HQM := Lib.hid (And.intro hq1 hqm)
            have hmq : (m : Int) - 1 = (q : Int) := by omega
            have HD1 := Lib.hid d1
            have HC0 := Lib.hid c0
            have HTK : Hid (spL gap (l.take (j + 1)) = spStep gap (spL gap (l.take j)) t) := Lib.hid (by
              rw [List.take_add_one, HT2.out]
              exact spL_snoc _ _ _)
            clear hs hq1 hqm d0
            by_cases hts : t < s2
            · have HST : Hid (spL gap (l.take (j + 1)) = (spL gap (l.take j)).set q (s1, t + gap)) := Lib.hid (by
                rw [HTK.out]
                exact spStep_set (by rw [HR.out.len]; exact HQM.out.1) HSQ.out hts)
              go_wp2_with fail
              refine wp_region_split_lit [] [0, 1, 2, 3, 4, 5, 6, 7, 8, 9, 10, 11, 12, 13, 14, 15] [] (by kernel_rfl) (by kernel_rfl) (fun _ _ dd _ _ hh => by cases dd <;> exact hh) ?_
              simp only [pickOps, List.getElem?_cons_succ, List.getElem?_cons_zero]
              refine wpQuiet_nil ?_
              repeat (go_big_quiet_step (fail))
              refine wpQuiet_nil ?_
              intro w4 hw'
              obtain ⟨y, rfl⟩ := hw'
              rw [show q = m - 1 by have := HQM.out; omega] at d1
              have c1 : (wr.drewN y).cell? ⟨b, so + j, none⟩ = some (.int .i64 t) := HC0.out
              have d2 : (wr.drewN y).cell? ⟨ob, oo + (m - 1) * 2 + 1, none⟩ = some (.int .i64 s2) := d1
              have z1 : (wr.drewN y).frozen? ⟨ob, oo + (m - 1) * 2 + 1, none⟩ = false := HFR.out.1 _
              clear c0 d1 hmq
              go_wp2_with fail
              have hchg : Chg (fun i => i = ob) wr ((wr.drewN y).setCell ⟨ob, oo + (m - 1) * 2 + 1, none⟩ (.int .i64 (t + gap))) := (Chg.of_ext (Ext.drewN wr y)).trans (setCell_chg _ _ _ _) (fun _ _ e => e)
              refine ⟨⟨j + 1, m, vc, _, by omega, rfl, by go_num, Lib.hid ⟨⟨?_, HR.out.made.own, ?_⟩, ?_⟩⟩, ?_⟩
              · rw [HST.out, sps_set _ _ _ s2 _ HSQ.out, show oo + (m - 1) * 2 + 1 = oo + (q * 2 + 1) by have := HQM.out; omega]
                exact (row_spot (HR.out.made.row.ext (Ext.drewN _ y))).2 _ _
              · have h1 := HR.out.made.own ob rfl
                exact ((Chg.of_ext HR.out.made.ext).trans hchg (fun _ _ e => e)).ext (fun i hi e => by omega)
              · rw [HST.out, List.length_set]; exact HR.out.len
              · simp [RowKit.intOf]; omega
            · have HST : Hid (spL gap (l.take (j + 1)) = spL gap (l.take j) ++ [(t, t + gap)]) := Lib.hid (by
                rw [HTK.out]
                refine spStep_add (fun s' p' hp' hs' => ?_)
                have : p' = q := by have h1 := HQM.out; have h2 := HR.out.len; omega
                subst this
                rw [HSQ.out] at hs'
                cases hs'
                exact hts)
              go_wp2_with fail
              refine wp_region_split_lit [] [0, 1, 2, 3, 4, 5, 6, 7, 8, 9, 10, 11, 12, 13, 14, 15] [] (by kernel_rfl) (by kernel_rfl) (fun _ _ dd _ _ hh => by cases dd <;> exact hh) ?_
              simp only [pickOps, List.getElem?_cons_succ, List.getElem?_cons_zero]
              refine wpQuiet_nil ?_
              repeat (go_big_quiet_step (fail))
              refine wpQuiet_nil ?_
              intro w4 hw'
              have HX4 : Hid (Ext wr w4) := Lib.hid (by obtain ⟨k, rfl⟩ := hw'; exact Ext.drewN _ _)
              have c1 : w4.cell? ⟨b, so + j, none⟩ = some (.int .i64 t) := by obtain ⟨k, rfl⟩ := hw'; exact c0
              clear hw' c0 d1
              go_wp2_with fail
              refine wp_region_split_lit [0] [1, 2, 3, 4, 5, 6, 7, 8, 9, 10, 11] [12, 13, 14] (by kernel_rfl) (by kernel_rfl) (fun _ _ dd _ _ hh => by cases dd <;> exact hh) ?_
              simp only [pickOps, List.getElem?_cons_succ, List.getElem?_cons_zero]
              repeat (go_big_quiet_step (fail))
              refine wpQuiet_nil ?_
              repeat (go_big_quiet_step (fail))
              refine wpQuiet_nil ?_
              intro w5 hw'
              have HX5 : Hid (Ext wr w5) := Lib.hid (by obtain ⟨k, rfl⟩ := hw'; exact HX4.out.trans (Ext.drewN _ _))
              clear hw' c1
              go_wp2_with (first | (refine wpList_append_start elem_rspan rfl _ _ rfl rfl rfl (Start.row ((HR.out.made.row.ext HX5.out).alloc _) HR.out.made.own) ((HR.out.made.ext.trans HX5.out).alloc _) (src_new w5 #[.int .i64 t, .int .i64 (t + gap)] 78 2 1 (0, 0) rfl (by simp [Value.oneCell'])) (by omega) (by unfold maxLen; omega) (by omega) ?_; rintro v' w6 ha; obtain ⟨va', vc', rfl⟩ := ha.row.shape; have HA := Lib.hid ha; clear ha))
              refine ⟨⟨j + 1, m + 1, vc', va', by omega, rfl, by go_num, Lib.hid ⟨?_, ?_⟩⟩, ?_⟩
              · rw [HST.out, sps_append]; exact HA.out
              · rw [HST.out]; simp; exact HR.out.len
              · simp [RowKit.intOf]; omega
        · have HKN : Hid (l.take j = l) := Lib.hid (by rw [List.take_of_length_le (by have := HLN.out; omega)])
          go_wp2_with fail
          go_ret2
          have h := HR.out
          rw [HP.out]
          refine .inl ⟨HOK.out, _, rfl, ?_⟩
          have h1 := h.made
          have h2 := h.len
          rw [HKN.out] at h1 h2
          rw [h2]
          exact ⟨h1.row, fun g hg => Nat.le_trans HX0.out.size (h1.own g hg), HX0.out.trans h1.ext⟩
end Go.Proofs.Ythnpchfcafaiiaa
