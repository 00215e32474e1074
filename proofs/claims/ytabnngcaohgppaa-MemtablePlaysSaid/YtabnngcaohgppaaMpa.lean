/- MemtablePlays: the walk of the law. -/
import Derived.Test.YtabnngcaohgppaaMpi
import Derived.Test.YtabnngcaohgppaaOpac
namespace Go.Proofs.Ytabnngcaohgppaa
open Go.RowKit Go.Sort Go.Lib

theorem sms_take {w : World} {a : Option Addr} {n c k : Nat} {l : List Sm} (h : Src w 3 (.slice a n c) n (sms l)) (hk : k ≤ n) (h0 : 0 < k) : Src w 3 (.slice a k c) k (sms (l.take k)) := by
  have hln := sms_src_len h
  rcases h with ⟨_, e, _⟩ | ⟨ad, c', e, hl, hc, ho⟩
  · omega
  · simp at e
    obtain ⟨rfl, rfl⟩ := e
    refine .inr ⟨ad, c, rfl, by rw [sms_len, List.length_take]; congr 1; omega, fun j u hj => hc j u ?_, sms_one _⟩
    have e : sms l = sms (l.take k) ++ sms (l.drop k) := by rw [← sms_append, List.take_append_drop]
    rw [e, List.getElem?_append_left (List.getElem?_eq_some_iff.1 hj).1]
    exact hj

/-- Both tables, in a round. -/
def PlayR (w : World) (d mb m rd j : Nat) (wr : World) : Prop := ∃ T L cnt la lc, cnt ≤ j ∧ PlayI w d mb m rd T L cnt la lc wr

set_option maxHeartbeats 8000000 in
set_option maxRecDepth 100000 in
theorem memPlays_any (w : World) (most : Int) (ao : Option Addr) (an ac : Nat) (al : List Ac) (lo : Option Addr) (ln lc : Nat) (ll : List Sm) (ha : Src w 5 (.slice ao an ac) an (acs al)) (hl : Src w 3 (.slice lo ln lc) ln (sms ll)) (hlc : ln ≤ lc) (hln : ln ≤ 1099511627776000) (han : an ≤ 1099511627776000) :
    Calls Try.prog 6 #[.int .i64 most, .slice ao an ac, .slice lo ln lc] w fun e w' => e = .returned (.bool true) ∧ Ext w w' := by
  have HA := Lib.hid ha
  have HL := Lib.hid hl
  clear ha hl
  by_cases hbad : most < 1 ∨ 65536 < most
  · go_enter Try.func6, Try.ntmps6
    go_wp2_with (first
      | (go_at_call 7; refine (tab_new_bad w most hbad).mono ?_; rintro e w' ⟨rfl, rfl⟩)
      | (go_at_call 15; refine (rt_new_bad w most hbad).mono ?_; rintro e w' ⟨rfl, rfl⟩))
    go_ret
    exact ⟨rfl, Ext.refl _⟩
  · obtain ⟨m, rfl⟩ : ∃ m : Nat, most = m := ⟨most.toNat, by omega⟩
    have hm1 : 1 ≤ m := by omega
    have hm2 : m ≤ 65536 := by omega
    clear hbad
    refine dite (ln ≤ 50) (fun h50 => ?few) (fun h50 => ?many)
    case' few =>
      obtain ⟨lq, HLS⟩ : ∃ lq, Hid (Src w 3 (.slice lo ln lc) ln (sms lq)) := ⟨ll, HL⟩
      have hLN : ln ≤ 50 := h50
      have h50' : ¬ (50 : Int) < (ln : Int) := by omega
    case' many =>
      obtain ⟨lq, HLS⟩ : ∃ lq, Hid (Src w 3 (.slice lo 50 lc) 50 (sms lq)) := ⟨ll.take 50, Lib.hid (sms_take HL.out (by omega) (by omega))⟩
      have hLN : 50 ≤ 50 := Nat.le_refl _
      have h50' : (50 : Int) < (ln : Int) := by omega
    all_goals
      go_enter Try.func6, Try.ntmps6
      go_wp2_with fail
      refine (tab_new w m hm1 hm2).mono ?_
      rintro e w1 ⟨rfl, hT, hx1⟩
      have HT := Lib.hid hT
      have HX1 := Lib.hid hx1
      clear hT hx1
      go_wp2_with fail
      refine (rt_new w1 m (by omega) (by omega)).mono ?_
      rintro e w2 ⟨rfl, hR, hx2⟩
      have HP : Hid (PlayR w (w.heap.size + 1) w.heap.size m w1.heap.size 0 w2) := Lib.hid ⟨[], [], 0, none, 0, Nat.le_refl _, HT.out.ext hx2, hR, TabTwo.nil, HX1.out.trans hx2, by have := HX1.out.size; have := HT.out.lt; omega, by have := HX1.out.size; have := HT.out.lt; omega, by simp [Value.ownBlock], by simp, by simp⟩
      clear HT hR hx2 HX1
      go_wp2_with fail
      go_loopw [11, 12] (fun i _ wr => ∃ (j : Nat), j ≤ an ∧ j ≤ 150 ∧ i = .int .i64 j ∧ Hid (PlayR w (w.heap.size + 1) w.heap.size m w1.heap.size j wr)) (fun i _ _ => an - (RowKit.intOf i).toNat)
      case atStart => exact ⟨0, by omega, by omega, rfl, HP⟩
      case round =>
        clear HP
        obtain ⟨j, hj, hj150, rfl, HP⟩ := hrel
        rcases Classical.em (j < an ∧ j < 150) with hlt | hno
        · obtain ⟨hlt, hlt150⟩ := hlt
          obtain ⟨T, L, cnt, ra, rc, hcnt, hI⟩ := HP.out
          have I := Lib.hid hI
          clear hI HP
          obtain ⟨qb, qo, q, rfl, hq, hcs⟩ := acs_src (HA.out.ext I.out.ext) hlt
          clear hq
          have q0 := hcs 0 _ rfl
          have q1 := hcs 1 _ rfl
          have q2 := hcs 2 _ rfl
          have q3 := hcs 3 _ rfl
          have q4 := hcs 4 _ rfl
          rw [Nat.add_zero] at q0
          rw [← Nat.add_assoc] at q1 q2 q3 q4
          clear hcs
          rcases Nat.lt_or_ge 100 q.s.size with hsz | hsz
          · have hsz' : (100 : Int) < (q.s.size : Int) := by omega
            go_wp2_with fail
            go_roundw
            case rel => exact ⟨j + 1, by omega, by omega, by go_num, Lib.hid ⟨T, L, cnt, ra, rc, by omega, I.out.next ((Ext.refl _).alloc _)⟩⟩
            case measure => simp [RowKit.intOf]; omega
          · have hsz' : ¬ (100 : Int) < (q.s.size : Int) := by omega
            have hname : q.s.size ≤ maxLen := by unfold maxLen; omega
            have hdl := I.out.tab.lt
            have hml := I.out.tab.map.lt
            have hrl := block_lt I.out.rtab.blk
            rcases Classical.em (q.k = 1) with hk | hk
            case' inl =>
              rw [hk] at q0
              go_wp2_with fail
              clear q0 q1 q2 q3 q4
              generalize hW : World.alloc _ _ = W
              have HXW : Hid (Ext wr W) := Lib.hid (by subst hW; exact (Ext.refl _).alloc _)
              have HB : Hid (W.heap[wr.heap.size]? = some (.cells #[.int .i64 1, .string q.s, .int .i64 q.t, .int .i64 q.v, .int .i64 q.q] 59 (0, 0))) := Lib.hid (by subst hW; exact heap_alloc_new wr _)
              clear hW
              have IW := Lib.hid (I.out.next HXW.out)
              have f0 := cell_turned (T := fun k => decide (k = w.heap.size + 1) || decide (k = w.heap.size)) (show W.cell? ⟨w1.heap.size, 1, none⟩ = some (.slice ra L.length rc) by have := cell_of_block IW.out.rtab.blk 1; simpa using this) (by have := IW.out.ne1; simp; omega)
              refine wp_region_plan 6 (fun w' => ∃ p : Turned, w' = turned W (fun k => decide (k = w.heap.size + 1) || decide (k = w.heap.size)) p.d p.f p.os) (.reads [0, 2, 3, 4, 5] (.one 1 (.one 6 (.one 7 .done)))) (by kernel_rfl) (by kernel_rfl) (fun _ _ dd _ _ hh => by cases dd <;> exact hh) ?_ ?_
              · exact turned_of_ext (Ext.drewN W 1)
              refine wpPlan_reads ?_
              simp only [pickOps, List.getElem?_cons_succ, List.getElem?_cons_zero]
              repeat (go_big_quiet_step (fail))
              refine wpQuiet_nil ?_
              refine wpPlan_one ?_
              simp only [pickOps, List.getElem?_cons_succ, List.getElem?_cons_zero]
              clear f0
              have ID := Lib.hid (IW.out.next (Ext.drewN W 1))
              go_wp2_with fail
              refine (tab_take ID.out.tab (by have := ID.out.len; omega)).mono ?_
              rintro e w3 ⟨v, K, rfl, hk3⟩
              obtain ⟨ka, kc, rfl⟩ := hk3.row.shape
              have HK3 := Lib.hid hk3
              clear hk3
              go_wp2_with fail
              refine thenX_mk (turned_of_chg ((Chg.of_ext (Ext.drewN W 1)).trans (HK3.out.chg.mono (T := fun k => (decide (k = w.heap.size + 1) || decide (k = w.heap.size)) = true) (fun _ _ e => by simpa using e)) (fun _ _ e => e))) (wpPlan_one ?_)
              simp only [pickOps, List.getElem?_cons_succ, List.getElem?_cons_zero]
              go_wp2_with fail
              refine (parts_same HK3.out.row (ID.out.rkeep HK3.out.chg).row HK3.out.ok (fun p hp => ((ID.out.rkeep HK3.out.chg).ok p hp).1) (by have := ID.out.len; omega) (fun p hp => by have := ID.out.pl p hp; omega) (ID.out.two.parts HK3.out.names HK3.out.pts)).mono ?_
              rintro e w4 ⟨rfl, hx4⟩
              have HX4 := Lib.hid hx4
              clear hx4
              go_wp2_with fail
              refine thenX_last (wpPlan_one ?_)
              simp only [pickOps, List.getElem?_cons_succ, List.getElem?_cons_zero]
              go_wp2_with fail
              refine thenX_last (wpPlan_done ?_)
              have HR4 := Lib.hid ((ID.out.rkeep HK3.out.chg).ext HX4.out)
              have c1 : w4.cell? ⟨w1.heap.size, 1, none⟩ = some (.slice ra L.length rc) := by have := cell_of_block HR4.out.blk 1; simpa using this
              have g1 : w4.frozen? ⟨w1.heap.size, 1, none⟩ = false := free_of_block HR4.out.blk 1
              go_wp2_with fail
              have HZ0 := Lib.hid (ID.out.took HK3.out HX4.out)
              have HZB0 : Hid ((w4.setCell ⟨w1.heap.size, 1, none⟩ (.slice none 0 0)).heap[wr.heap.size]? = some (.cells #[.int .i64 1, .string q.s, .int .i64 q.t, .int .i64 q.v, .int .i64 q.q] 59 (0, 0))) := Lib.hid (by
                have h1 := block_lt HB.out
                have h2 := HK3.out.chg.size
                have h3 := HX4.out.size
                have h4 : (W.drewN 1).heap.size = W.heap.size := rfl
                have h5 := (Ext.drewN W 1).block h1
                rw [(setCell_chg w4 w1.heap.size 1 (.slice none 0 0)).block wr.heap.size (by omega) (by omega), HX4.out.block (by omega), HK3.out.chg.block wr.heap.size (by omega) (by omega), h5]
                exact HB.out)
              generalize hW : World.setCell _ _ _ = Wz at HZ0 HZB0
              have HZ : Hid (∃ T L cnt la lc, cnt ≤ j + 1 ∧ PlayI w (w.heap.size + 1) w.heap.size m w1.heap.size T L cnt la lc Wz) := Lib.hid ⟨_, _, _, _, _, by omega, HZ0.out⟩
              have z1 : Wz.cell? ⟨wr.heap.size, 1, none⟩ = some (.string q.s) := by have := cell_of_block HZB0.out 1; simpa using this
              have z2 : Wz.cell? ⟨wr.heap.size, 2, none⟩ = some (.int .i64 q.t) := by have := cell_of_block HZB0.out 2; simpa using this
              have z4 : Wz.cell? ⟨wr.heap.size, 4, none⟩ = some (.int .i64 q.q) := by have := cell_of_block HZB0.out 4; simpa using this
              clear hW HZ0 HZB0 c1 g1 HR4 HX4 HK3 ID IW HB HXW
            case' inr =>
              have hk' : (q.k == 1) = false := beq_eq_false_iff_ne.2 hk
              clear hk
              go_wp2_with fail
              clear q0 q1 q2 q3 q4
              generalize hW : World.alloc _ _ = W
              have HXW : Hid (Ext wr W) := Lib.hid (by subst hW; exact (Ext.refl _).alloc _)
              have HB : Hid (W.heap[wr.heap.size]? = some (.cells #[.int .i64 q.k, .string q.s, .int .i64 q.t, .int .i64 q.v, .int .i64 q.q] 59 (0, 0))) := Lib.hid (by subst hW; exact heap_alloc_new wr _)
              clear hW
              have IW := Lib.hid (I.out.next HXW.out)
              have f1 := cell_turned (T := fun k => decide (k = w.heap.size + 1) || decide (k = w.heap.size)) (show W.cell? ⟨wr.heap.size, 1, none⟩ = some (.string q.s) by have := cell_of_block HB.out 1; simpa using this) (by simp; omega)
              have f2 := cell_turned (T := fun k => decide (k = w.heap.size + 1) || decide (k = w.heap.size)) (show W.cell? ⟨wr.heap.size, 2, none⟩ = some (.int .i64 q.t) by have := cell_of_block HB.out 2; simpa using this) (by simp; omega)
              have f3 := cell_turned (T := fun k => decide (k = w.heap.size + 1) || decide (k = w.heap.size)) (show W.cell? ⟨wr.heap.size, 3, none⟩ = some (.int .i64 q.v) by have := cell_of_block HB.out 3; simpa using this) (by simp; omega)
              have f4 := cell_turned (T := fun k => decide (k = w.heap.size + 1) || decide (k = w.heap.size)) (show W.cell? ⟨wr.heap.size, 4, none⟩ = some (.int .i64 q.q) by have := cell_of_block HB.out 4; simpa using this) (by simp; omega)
              refine wp_region_plan 27 (fun w' => ∃ p : Turned, w' = turned W (fun k => decide (k = w.heap.size + 1) || decide (k = w.heap.size)) p.d p.f p.os) (.reads [0, 1, 2, 3, 4, 5, 6, 7, 8, 9, 10, 11, 12, 14, 15, 16, 17, 18, 19, 20, 21, 22, 23, 24, 25, 26] (.one 13 (.one 27 (.one 28 .done)))) (by kernel_rfl) (by kernel_rfl) (fun _ _ dd _ _ hh => by cases dd <;> exact hh) ?_ ?_
              · exact turned_of_ext (Ext.drewN W 1)
              refine wpPlan_reads ?_
              simp only [pickOps, List.getElem?_cons_succ, List.getElem?_cons_zero]
              repeat (go_big_quiet_step (fail))
              refine wpQuiet_nil ?_
              refine wpPlan_one ?_
              simp only [pickOps, List.getElem?_cons_succ, List.getElem?_cons_zero]
              clear f1 f2 f3 f4
              have ID := Lib.hid (IW.out.next (Ext.drewN W 1))
              go_wp2_with fail
              refine (tab_put ID.out.tab q.s ⟨q.t, q.v, q.q⟩ hname).mono ?_
              rintro e w3 hP
              have HC3 := Lib.hid hP.1
              obtain ⟨z, rfl, hC⟩ := ID.out.put (by omega) hname hP
              have HC := Lib.hid hC
              clear hP hC
              have hz : (z != z) = false := bne_self_eq_false z
              go_wp2_with fail
              refine thenX_mk (turned_of_chg ((Chg.of_ext (Ext.drewN W 1)).trans (HC3.out.mono (T := fun k => (decide (k = w.heap.size + 1) || decide (k = w.heap.size)) = true) (fun _ _ e => by simpa using e)) (fun _ _ e => e))) (wpPlan_one ?_)
              simp only [pickOps, List.getElem?_cons_succ, List.getElem?_cons_zero]
              go_wp2_with fail
              refine (HC.out w3 (Ext.refl _)).mono ?_
              rintro e Wz ⟨rfl, hc4, T', L', cnt', la', lc', hcnt', hI'⟩
              have HZ : Hid (∃ T L cnt la lc, cnt ≤ j + 1 ∧ PlayI w (w.heap.size + 1) w.heap.size m w1.heap.size T L cnt la lc Wz) := Lib.hid ⟨T', L', cnt', la', lc', by omega, hI'⟩
              have HZB0 : Hid (Wz.heap[wr.heap.size]? = some (.cells #[.int .i64 q.k, .string q.s, .int .i64 q.t, .int .i64 q.v, .int .i64 q.q] 59 (0, 0))) := Lib.hid (by
                have h1 := block_lt HB.out
                have h2 := HC3.out.size
                have h4 : (W.drewN 1).heap.size = W.heap.size := rfl
                have h5 := (Ext.drewN W 1).block h1
                rw [hc4.block wr.heap.size (by omega) (fun e => by
                  rcases e with e | e
                  · omega
                  · have := I.out.rtab.row.lt e; omega), HC3.out.block wr.heap.size (by omega) (by omega), h5]
                exact HB.out)
              have z1 : Wz.cell? ⟨wr.heap.size, 1, none⟩ = some (.string q.s) := by have := cell_of_block HZB0.out 1; simpa using this
              have z2 : Wz.cell? ⟨wr.heap.size, 2, none⟩ = some (.int .i64 q.t) := by have := cell_of_block HZB0.out 2; simpa using this
              have z4 : Wz.cell? ⟨wr.heap.size, 4, none⟩ = some (.int .i64 q.q) := by have := cell_of_block HZB0.out 4; simpa using this
              clear hc4 hI' hcnt' HZB0 HC HC3 ID IW HB HXW
              go_wp2_with fail
              refine thenX_last (wpPlan_one ?_)
              simp only [pickOps, List.getElem?_cons_succ, List.getElem?_cons_zero]
              go_wp2_with fail
              refine thenX_last (wpPlan_done ?_)
              go_wp2_with fail
              clear hz
            all_goals
              clear I hdl hml hrl
              obtain ⟨T', L', cnt', la', lc', hcnt', hI'⟩ := HZ.out
              have I := Lib.hid hI'
              clear HZ hI'
              have hcc : ((cnt' : Int) != (cnt' : Int)) = false := bne_self_eq_false _
              have hll : ((L'.length : Int) != (L'.length : Int)) = false := bne_self_eq_false _
              have f0 := cell_turned (T := fun _ => false) (show Wz.cell? ⟨w1.heap.size, 1, none⟩ = some (.slice la' L'.length lc') by have := cell_of_block I.out.rtab.blk 1; simpa using this) rfl
              have f1 := cell_turned (T := fun _ => false) z1 rfl
              have f2 := cell_turned (T := fun _ => false) z2 rfl
              have f4 := cell_turned (T := fun _ => false) z4 rfl
              refine wp_region_plan 37 (fun w' => ∃ p : Turned, w' = turned Wz (fun _ => false) p.d p.f p.os) (.reads [0, 2] (.one 1 (.one 3 (.reads [4, 5, 6, 9, 10, 11, 12, 13] (.one 7 (.reads [8, 14, 15, 16, 17, 18, 19, 20, 21, 22, 23, 24, 25, 27, 28, 29, 30, 31, 32, 33, 34, 35] (.one 26 (.one 36 (.one 37 (.one 38 (.one 39 .done))))))))))) (by kernel_rfl) (by kernel_rfl) (fun _ _ dd _ _ hh => by cases dd <;> exact hh) ?_ ?_
              · exact turned_of_ext (Ext.drewN Wz 1)
              refine wpPlan_reads ?_
              simp only [pickOps, List.getElem?_cons_succ, List.getElem?_cons_zero]
              repeat (go_big_quiet_step (fail))
              refine wpQuiet_nil ?_
              refine wpPlan_one ?_
              simp only [pickOps, List.getElem?_cons_succ, List.getElem?_cons_zero]
              have ID := Lib.hid (I.out.next (Ext.drewN Wz 1))
              go_wp2_with fail
              refine (tab_len ID.out.tab).mono ?_
              rintro e w3 ⟨rfl, rfl⟩
              go_wp2_with fail
              refine thenX_mk (turned_of_ext (Ext.drewN Wz 1)) (wpPlan_one ?_)
              simp only [pickOps, List.getElem?_cons_succ, List.getElem?_cons_zero]
              go_wp2_with fail
              refine (rt_len ID.out.rtab (by rw [ID.out.sum]; omega) (by have := ID.out.len; omega)).mono ?_
              rintro e w3 ⟨rfl, rfl⟩
              rw [ID.out.sum]
              go_wp2_with fail
              refine thenX_mk (turned_of_ext (Ext.drewN Wz 1)) (wpPlan_reads ?_)
              simp only [pickOps, List.getElem?_cons_succ, List.getElem?_cons_zero]
              repeat (go_big_quiet_step (fail))
              refine wpQuiet_nil ?_
              refine wpPlan_one ?_
              simp only [pickOps, List.getElem?_cons_succ, List.getElem?_cons_zero]
              go_wp2_with fail
              refine (tab_names ID.out.tab (by have := ID.out.len; omega)).mono ?_
              rintro e w3 ⟨v, rfl, hs3⟩
              obtain ⟨sa, sc, rfl⟩ := hs3.row.shape
              rw [show (tabNames T').length = L'.length by rw [← ID.out.two.names]; simp]
              have HX3 := Lib.hid ((Ext.drewN Wz 1).trans hs3.ext)
              clear hs3
              have I3 := Lib.hid (I.out.next HX3.out)
              go_wp2_with fail
              refine thenX_mk (turned_of_ext HX3.out) (wpPlan_reads ?_)
              simp only [pickOps, List.getElem?_cons_succ, List.getElem?_cons_zero]
              repeat (go_big_quiet_step (fail))
              refine wpQuiet_nil ?_
              refine wpPlan_one ?_
              simp only [pickOps, List.getElem?_cons_succ, List.getElem?_cons_zero]
              clear f0 f1 f2 f4
              go_wp2_with fail
              refine (tab_points I3.out.tab q.s q.t q.q).mono ?_
              rintro e w5 ⟨v, rfl, hc5⟩
              obtain ⟨pa, pc, rfl⟩ := hc5.row.shape
              have HC5 := Lib.hid hc5
              clear hc5
              have I5 := Lib.hid (I3.out.next HC5.out.ext)
              go_wp2_with fail
              refine thenX_mk (turned_of_ext (HX3.out.trans HC5.out.ext)) (wpPlan_one ?_)
              simp only [pickOps, List.getElem?_cons_succ, List.getElem?_cons_zero]
              go_wp2_with fail
              refine (rt_points I5.out.rtab (by have := I5.out.len; omega) I5.out.two.nodupL (fun p hp => by have := I5.out.pl p hp; omega) q.s q.t q.q).mono ?_
              rintro e w6 ⟨v, rfl, hc6⟩
              obtain ⟨ra', rc', rfl⟩ := hc6.row.shape
              have HC6 := Lib.hid hc6
              clear hc6
              have I6 := Lib.hid (I5.out.next HC6.out.ext)
              have HLE : Hid ((cutL q.t q.q (tabPts L' q.s)).length ≤ 2000) := Lib.hid (by
                have h1 := cutL_len q.t q.q (tabPts L' q.s)
                have h2 := (I6.out.tab.at q.s)
                have h3 := src_len h2.1.1
                have h4 : (tabPts T' q.s).length ≤ cnt' := by unfold tabPts; omega
                rw [I6.out.two.pts] at h4
                omega)
              go_wp2_with fail
              refine thenX_mk (turned_of_ext ((HX3.out.trans HC5.out.ext).trans HC6.out.ext)) (wpPlan_one ?_)
              simp only [pickOps, List.getElem?_cons_succ, List.getElem?_cons_zero]
              go_wp2_with fail
              refine (same_any w6 pa ra' _ pc _ rc' _ _ ((row_src HC5.out.row).ext HC6.out.ext) (row_src HC6.out.row) (by rw [I6.out.two.pts]; have := HLE.out; omega) (by have := HLE.out; omega)).mono ?_
              rw [decide_eq_true (by rw [I6.out.two.pts])]
              rintro e w7 ⟨rfl, hx7⟩
              have I7 := Lib.hid (I6.out.next hx7)
              clear hx7 HLE
              go_wp2_with fail
              refine thenX_last (wpPlan_one ?_)
              simp only [pickOps, List.getElem?_cons_succ, List.getElem?_cons_zero]
              go_wp2_with fail
              refine thenX_last (wpPlan_one ?_)
              simp only [pickOps, List.getElem?_cons_succ, List.getElem?_cons_zero]
              go_wp2_with fail
              refine thenX_last (wpPlan_done ?_)
              go_wp2_with fail
              go_roundw
              case rel => exact ⟨j + 1, by omega, by omega, by go_num, Lib.hid ⟨T', L', cnt', la', lc', hcnt', I7.out⟩⟩
              case measure => simp [RowKit.intOf]; omega
        · obtain ⟨T, L, cnt, ra, rc, hcnt, hI⟩ := HP.out
          have I := Lib.hid hI
          clear hI HP
          rcases Nat.lt_or_ge j an with hlt | hge
          case' inl =>
            have hge4 : ¬ j < 150 := fun h => hno ⟨hlt, h⟩
            clear hno
            go_wp2_with fail
          case' inr =>
            have hge' : ¬ j < an := by omega
            clear hno
            go_wp2_with fail
          all_goals
            have f0 := cell_turned (T := fun _ => false) (show wr.cell? ⟨w1.heap.size, 1, none⟩ = some (.slice ra L.length rc) by have := cell_of_block I.out.rtab.blk 1; simpa using this) rfl
            refine wp_region_plan 13 (fun w' => ∃ p : Turned, w' = turned wr (fun _ => false) p.d p.f p.os) (.reads [0, 2, 3, 4, 5] (.one 1 (.one 6 (.reads [7, 8, 9, 11, 12] (.one 10 (.one 13 (.one 14 (.one 15 (.one 16 .done))))))))) (by kernel_rfl) (by kernel_rfl) (fun _ _ dd _ _ hh => by cases dd <;> exact hh) ?_ ?_
            · exact turned_of_ext (Ext.drewN wr 1)
            refine wpPlan_reads ?_
            simp only [pickOps, List.getElem?_cons_succ, List.getElem?_cons_zero]
            repeat (go_big_quiet_step (fail))
            refine wpQuiet_nil ?_
            refine wpPlan_one ?_
            simp only [pickOps, List.getElem?_cons_succ, List.getElem?_cons_zero]
            clear f0
            have ID := Lib.hid (I.out.next (Ext.drewN wr 1))
            go_wp2_with fail
            refine (tab_parts ID.out.tab (by have := ID.out.len; omega)).mono ?_
            rintro e w3 ⟨v, K, rfl, hk3⟩
            obtain ⟨ka, kc, rfl⟩ := hk3.row.shape
            have HK3 := Lib.hid hk3
            clear hk3
            have I3 := Lib.hid (ID.out.next HK3.out.ext)
            have HX3 := Lib.hid ((Ext.drewN wr 1).trans HK3.out.ext)
            go_wp2_with fail
            refine thenX_mk (turned_of_ext HX3.out) (wpPlan_one ?_)
            simp only [pickOps, List.getElem?_cons_succ, List.getElem?_cons_zero]
            go_wp2_with fail
            refine (parts_same HK3.out.row I3.out.rtab.row HK3.out.ok (fun p hp => (I3.out.rtab.ok p hp).1) (by have := ID.out.len; omega) (fun p hp => by have := ID.out.pl p hp; omega) (ID.out.two.parts HK3.out.names HK3.out.pts)).mono ?_
            rintro e w4 ⟨rfl, hx4⟩
            have HX4 := Lib.hid (HX3.out.trans hx4)
            clear hx4
            have I4 := Lib.hid (I.out.next HX4.out)
            go_wp2_with fail
            refine thenX_mk (turned_of_ext HX4.out) (wpPlan_reads ?_)
            simp only [pickOps, List.getElem?_cons_succ, List.getElem?_cons_zero]
            repeat (go_big_quiet_step (fail))
            refine wpQuiet_nil ?_
            refine wpPlan_one ?_
            simp only [pickOps, List.getElem?_cons_succ, List.getElem?_cons_zero]
            have HL4 := Lib.hid (HLS.out.ext (I4.out.ext))
            go_wp2_with fail
            refine (tab_fits I4.out.tab _ _ _ _ HL4.out (by omega)).mono ?_
            rintro e w5 ⟨rfl, hx5⟩
            have HX5 := Lib.hid (HX4.out.trans hx5)
            have HL5 := Lib.hid (HL4.out.ext hx5)
            clear hx5
            have I5 := Lib.hid (I.out.next HX5.out)
            obtain ⟨bt, hbt⟩ : ∃ bt, bt = decide (cnt + (freshPl T lq).length ≤ m) := ⟨_, rfl⟩
            rw [← hbt]
            have HBT := Lib.hid hbt
            clear hbt
            go_wp2_with fail
            refine thenX_mk (turned_of_ext HX5.out) (wpPlan_one ?_)
            simp only [pickOps, List.getElem?_cons_succ, List.getElem?_cons_zero]
            go_wp2_with fail
            refine (rt_fits I5.out.rtab (by have := I5.out.len; omega) I5.out.two.nodupL (by rw [I5.out.sum]; omega) _ _ _ _ HL5.out (by omega)).mono ?_
            rintro e w6 ⟨rfl, hx6⟩
            rw [show decide (((((L.map fun p => p.2.l.length).sum + (freshPl L lq).length : Nat)) : Int) ≤ (m : Int)) = bt by
              rw [HBT.out, I5.out.sum, freshPl_same I5.out.two.pts]
              apply decide_eq_decide.2
              omega]
            have HX6 := Lib.hid (I.out.ext.trans (HX5.out.trans hx6))
            clear hx6
            have hbb : (bt == bt) = true := beq_self_eq_true bt
            go_wp2_with fail
            refine thenX_last (wpPlan_one ?_)
            simp only [pickOps, List.getElem?_cons_succ, List.getElem?_cons_zero]
            go_wp2_with fail
            refine thenX_last (wpPlan_one ?_)
            simp only [pickOps, List.getElem?_cons_succ, List.getElem?_cons_zero]
            go_wp2_with fail
            refine thenX_last (wpPlan_one ?_)
            simp only [pickOps, List.getElem?_cons_succ, List.getElem?_cons_zero]
            go_wp2_with fail
            refine thenX_last (wpPlan_done ?_)
            go_wp2_with fail
            go_ret
            exact ⟨rfl, HX6.out⟩
end Go.Proofs.Ytabnngcaohgppaa
