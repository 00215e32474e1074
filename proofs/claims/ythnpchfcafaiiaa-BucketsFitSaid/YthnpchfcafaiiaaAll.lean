/- aggr.Add, aggr.All. -/
import Derived.Test.YthnpchfcafaiiaaWdp
import Derived.Test.YthnpchfcafaiiaaEpt
namespace Go.Proofs.Ythnpchfcafaiiaa
open Go.RowKit Go.Lib Go.Sort

abbrev agZ : Obj := .cells #[.int .i64 0, .int .i64 0, .int .u64 0, .int .i64 0, .int .i64 0, .int .i64 0, .int .i64 0, .int .i64 0, .int .i64 0, .int .i64 0, .int .i64 0] 48 (0, 0)

set_option maxHeartbeats 4000000 in
set_option maxRecDepth 100000 in
theorem aggrAdd_any (a : Ag) (p : Pt) (w : World) (ha : a.fine) (hp1 : -9223372036854775808 ≤ p.v) (hp2 : p.v ≤ 9223372036854775807) (hs : sumOk (a.s + p.v)) :
    Calls Try.prog 39 #[a.val, p.val] w fun e w' => e = .returned (.tuple #[(agM a (agOf p)).val, .int .i64 0]) ∧ Ext w w' := by
  have HOF := Lib.hid (fun W => aggrOf_any p W hp1 hp2)
  have HMG := Lib.hid (fun W => aggrMerge_any a (agOf p) W ha (bnd_fine (agOf_bnd hp1 hp2) (by omega)) (by simp [agOf]) hs)
  clear ha hp1 hp2 hs
  obtain ⟨A, hA⟩ : ∃ A : Array Value, A = #[.int .i64 a.n, .int .i64 (a.s / 18446744073709551616), .int .u64 (a.s % 18446744073709551616), .int .i64 a.mn, .int .i64 a.mx,
    .int .i64 a.f.t, .int .i64 a.f.v, .int .i64 a.f.s, .int .i64 a.l.t, .int .i64 a.l.v, .int .i64 a.l.s] := ⟨_, rfl⟩
  have HA := Lib.hid hA
  have hav : a.val = .agg A := by rw [hA]; rfl
  obtain ⟨R, hR⟩ : ∃ R : Array Value, R = #[.int .i64 (agM a (agOf p)).n, .int .i64 ((agM a (agOf p)).s / 18446744073709551616), .int .u64 ((agM a (agOf p)).s % 18446744073709551616), .int .i64 (agM a (agOf p)).mn, .int .i64 (agM a (agOf p)).mx,
    .int .i64 (agM a (agOf p)).f.t, .int .i64 (agM a (agOf p)).f.v, .int .i64 (agM a (agOf p)).f.s, .int .i64 (agM a (agOf p)).l.t, .int .i64 (agM a (agOf p)).l.v, .int .i64 (agM a (agOf p)).l.s] := ⟨_, rfl⟩
  have HR := Lib.hid hR
  have hrv : (agM a (agOf p)).val = .agg R := by rw [hR]; rfl
  obtain ⟨pt, pv, ps⟩ := p
  obtain ⟨O, hO⟩ : ∃ O : Value, O = (agOf ⟨pt, pv, ps⟩).val := ⟨_, rfl⟩
  rw [hav, hrv] at HMG
  rw [← hO] at HOF HMG
  rw [hav, hrv]
  unfold Pt.val at HOF
  unfold Pt.val
  simp only at HOF HMG ⊢
  clear hA hav hR hrv hO
  go_enter Try.func39, Try.ntmps39
  go_wp2_with fail
  generalize hW : World.alloc _ _ = W
  have HXW : Hid (Ext w W) := Lib.hid (by subst hW; exact (((Ext.refl w).alloc _).alloc _).alloc _)
  have HB0 : Hid (W.heap[w.heap.size]? = some (.cells A 48 (0, 0))) := Lib.hid (by
    subst hW
    have h0 := heap_alloc_new w (.cells A 48 (0, 0))
    exact ((((Ext.refl _).alloc _).alloc _).block (block_lt h0)).trans h0)
  have HB1 : Hid (W.heap[w.heap.size + 1]? = some (.cells #[.int .i64 pt, .int .i64 pv, .int .i64 ps] 35 (0, 0))) := Lib.hid (by
    subst hW
    have h0 := heap_alloc2 w (.cells A 48 (0, 0)) (.cells #[.int .i64 pt, .int .i64 pv, .int .i64 ps] 35 (0, 0))
    exact ((((Ext.refl _).alloc _)).block (block_lt h0)).trans h0)
  have HB2 : Hid (W.heap[w.heap.size + 1 + 1]? = some agZ) := Lib.hid (by subst hW; exact heap_alloc3 w _ _ _)
  clear hW
  have f0 := fun (d : Nat) (f : Nat → Obj) (os : Array Obj) => load_box_turned (P := Try.prog) (ty := 48) HB0.out (T := fun _ => false) rfl Try.underlying48 rfl (by rw [HA.out]; kernel_rfl) d f os
  have f1 := fun (d : Nat) (f : Nat → Obj) (os : Array Obj) => load_box_turned (P := Try.prog) (ty := 35) HB1.out (T := fun _ => false) rfl Try.underlying35 rfl (by kernel_rfl) d f os
  refine wp_region_plan 6 (fun w' => ∃ p : Turned, w' = turned W (fun _ => false) p.d p.f p.os) (.reads [0, 1] (.one 2 (.one 3 (.reads [4, 5] (.one 6 (.one 7 .done)))))) (by kernel_rfl) (by kernel_rfl) (fun _ _ dd _ _ hh => by cases dd <;> exact hh) ?_ ?_
  · exact turned_of_ext (Ext.drewN W 1)
  refine wpPlan_reads ?_
  simp only [pickOps, List.getElem?_cons_succ, List.getElem?_cons_zero]
  repeat (first | (refine wpQuiet_load_box rfl _ _ rfl _ _ rfl (fun w hw => by obtain ⟨p, rfl⟩ := hw; exact f0 p.d p.f p.os) ?_) | (refine wpQuiet_load_box rfl _ _ rfl _ _ rfl (fun w hw => by obtain ⟨p, rfl⟩ := hw; exact f1 p.d p.f p.os) ?_) | (go_big_quiet_step (fail)))
  refine wpQuiet_nil ?_
  clear f0 f1
  refine wpPlan_one ?_
  simp only [pickOps, List.getElem?_cons_succ, List.getElem?_cons_zero]
  go_wp2_with fail
  refine (HOF.out _).mono ?_
  rintro e w4 ⟨rfl, hx4⟩
  have HX4 := Lib.hid ((Ext.drewN W 1).trans hx4)
  clear hx4
  go_wp2_with fail
  refine thenX_mk (turned_of_ext HX4.out) (wpPlan_one ?_)
  simp only [pickOps, List.getElem?_cons_succ, List.getElem?_cons_zero]
  go_wp2_with fail
  refine (HMG.out _).mono ?_
  rintro e w5 ⟨rfl, hx5⟩
  have HX5 := Lib.hid (HX4.out.trans hx5)
  clear hx5
  go_wp2_with fail
  refine thenX_mk (turned_of_ext HX5.out) (wpPlan_reads ?_)
  simp only [pickOps, List.getElem?_cons_succ, List.getElem?_cons_zero]
  repeat (go_big_quiet_step (fail))
  refine wpQuiet_nil ?_
  refine wpPlan_one ?_
  simp only [pickOps, List.getElem?_cons_succ, List.getElem?_cons_zero]
  have HB5 : Hid (w5.heap[w.heap.size + 1 + 1]? = some agZ) := Lib.hid ((HX5.out.block (block_lt HB2.out)).trans HB2.out)
  refine wpList_store_box rfl _ _ _ rfl _ _ _ _ rfl rfl HB5.out (by rw [HR.out]; rfl) (by rw [HR.out]; kernel_rfl) (by rw [HR.out]; simp [Value.oneCell']) ?_
  rintro w6 hb6 hc6
  have HB6 := Lib.hid hb6
  have HC6 := Lib.hid hc6
  clear hb6 hc6
  go_wp2_with fail
  refine thenX_last (wpPlan_one ?_)
  simp only [pickOps, List.getElem?_cons_succ, List.getElem?_cons_zero]
  go_wp2_with fail
  refine thenX_last (wpPlan_done ?_)
  go_wp2_with fail
  exact bodyPost_ret (results_box_tmp Try.results39 _ _ rfl HB6.out Try.underlying48 rfl (by rw [HR.out]; kernel_rfl)) rfl ⟨rfl, ((Chg.of_ext (HXW.out.trans HX5.out)).trans HC6.out (fun _ _ e => e)).ext (fun i hi e => by omega)⟩

/-- That of many points. -/
def agA (l : List Pt) : Ag := l.foldl (fun a p => agM a (agOf p)) Ag.zero
theorem agA_snoc (l : List Pt) (p : Pt) : agA (l ++ [p]) = agM (agA l) (agOf p) := by simp [agA]
theorem agA_bnd (l : List Pt) (h : ∀ p ∈ l, -9223372036854775808 ≤ p.v ∧ p.v ≤ 9223372036854775807) : (agA l).bnd l.length := by
  revert h
  refine snoc_ind (P := fun l => (∀ p ∈ l, -9223372036854775808 ≤ p.v ∧ p.v ≤ 9223372036854775807) → (agA l).bnd l.length) (fun _ => zero_bnd 0) ?_ l
  intro l p ih h
  have h1 := h p (by simp)
  rw [agA_snoc]
  have := agM_bnd (ih (fun q hq => h q (List.mem_append_left _ hq))) (agOf_bnd h1.1 h1.2)
  simpa using this

set_option maxHeartbeats 8000000 in
set_option maxRecDepth 100000 in
theorem aggrAll_any (w : World) (a : Option Addr) (n c : Nat) (l : List Pt) (hl : Src w 3 (.slice a n c) n (pts l)) (hn : n ≤ 100000) (hp : ∀ p ∈ l, -9223372036854775808 ≤ p.v ∧ p.v ≤ 9223372036854775807) :
    Calls Try.prog 23 #[.slice a n c] w fun e w' => e = .returned (.tuple #[(agA l).val, .int .i64 0]) ∧ Ext w w' := by
  have HL := Lib.hid hl
  have HLN := Lib.hid (src_len hl)
  have HP := Lib.hid hp
  clear hl hp
  go_enter Try.func23, Try.ntmps23
  go_wp2_with fail
  generalize hW : World.alloc _ _ = W
  have HXW : Hid (Ext w W) := Lib.hid (by subst hW; exact ((Ext.refl w).alloc _).alloc _)
  have HZ0 : Hid (W.heap[w.heap.size]? = some agZ) := Lib.hid (by
    subst hW
    have h0 := heap_alloc_new w agZ
    exact ((((Ext.refl _).alloc _)).block (block_lt h0)).trans h0)
  have HZ1 : Hid (W.heap[w.heap.size + 1]? = some agZ) := Lib.hid (by subst hW; exact heap_alloc2 w _ _)
  clear hW
  have HS := Lib.hid (Nat.lt_of_lt_of_le (block_lt HZ1.out) (Nat.le_refl _))
  go_loopw [10] (fun i wr => ∃ k : Nat, k ≤ n ∧ i = .int .i64 k ∧ Hid (wr.heap[w.heap.size + 1]? = some (.cells (agA (l.take k)).cells.toArray 48 (0, 0)) ∧ Chg (· = w.heap.size + 1) W wr)) (fun i _ => n - (RowKit.intOf i).toNat)
  case atStart => exact ⟨0, by omega, rfl, Lib.hid ⟨by simpa [agA, Ag.zero, Ag.cells] using HZ1.out, Chg.refl _ _⟩⟩
  case round =>
    obtain ⟨k, hk, rfl, HI⟩ := hrel
    by_cases hlt : k < n
    · have HSr := Lib.hid ((HL.out.ext HXW.out).chg HI.out.2 (fun g hg e => by
        obtain ⟨b, so, p, rfl, _, c0, _⟩ := pts_src HL.out hlt
        have h2 : b < w.heap.size := World.block_lt_of_cell? w _ c0
        cases hg
        have h3 : b = w.heap.size + 1 := e
        omega))
      obtain ⟨b, so, p, rfl, hp, c0, c1, c2⟩ := pts_src HSr.out hlt
      have HPK := Lib.hid hp
      have HPV := Lib.hid (HP.out p (List.mem_of_getElem? hp))
      clear hp
      obtain ⟨g, hg⟩ : ∃ g, g = agA (l.take k) := ⟨_, rfl⟩
      rw [← hg] at HI
      have HG := Lib.hid hg
      have HADD : Hid (∀ W, Calls Try.prog 39 #[g.val, p.val] W fun e w' => e = .returned (.tuple #[(agM g (agOf p)).val, .int .i64 0]) ∧ Ext W w') := Lib.hid (fun W => by
        have h1 := agA_bnd (l.take k) (fun q hq => HP.out q (List.mem_of_mem_take hq))
        rw [← HG.out] at h1
        have h2 : (l.take k).length ≤ 100000 := by rw [List.length_take]; omega
        have h3 := h1.mono h2
        have h4 := HPV.out
        refine aggrAdd_any g p W (bnd_fine h3 (by omega)) h4.1 h4.2 ?_
        unfold Ag.bnd at h3
        unfold sumOk
        omega)
      clear hg
      obtain ⟨A, hA⟩ : ∃ A : Array Value, A = g.cells.toArray := ⟨_, rfl⟩
      have HA := Lib.hid hA
      have hav : g.val = .agg A := by rw [hA]; rfl
      obtain ⟨R, hR⟩ : ∃ R : Array Value, R = (agM g (agOf p)).cells.toArray := ⟨_, rfl⟩
      have HR := Lib.hid hR
      have hrv : (agM g (agOf p)).val = .agg R := by rw [hR]; rfl
      rw [hav, hrv] at HADD
      rw [← hA] at HI
      clear hA hav hR hrv
      obtain ⟨pt, pv, ps⟩ := p
      unfold Pt.val at HADD
      simp only at c0 c1 c2 HADD
      go_wp2_with (first | (refine wpList_load_box rfl _ _ rfl _ _ _ _ _ rfl (((Ext.refl wr).alloc _ |>.block (block_lt HI.out.1)).trans HI.out.1) Try.underlying48 rfl (by rw [HA.out]; kernel_rfl) ?_))
      have HB4 : ∀ w4, Ext wr w4 → w4.heap[w.heap.size + 1]? = some (.cells A 48 (0, 0)) := fun w4 hx => (hx.block (block_lt HI.out.1)).trans HI.out.1
      have HB4 := Lib.hid HB4
      refine (HADD.out _).mono ?_
      rintro e w4 ⟨rfl, hx4⟩
      have HX4 := Lib.hid (((Ext.refl wr).alloc _).trans hx4)
      clear hx4 c0 c1 c2
      go_wp2_with (refine wpList_store_box rfl _ _ _ rfl _ _ _ _ rfl rfl (HB4.out _ HX4.out) (by rw [HA.out, HR.out]; rfl) (by rw [HR.out]; kernel_rfl) (by rw [HR.out]; simp [Value.oneCell', Ag.cells]) ?_; rintro w5 hb5 hc5; have HB5 := Lib.hid hb5; have HC5 := Lib.hid hc5; clear hb5 hc5)
      refine ⟨⟨k + 1, by omega, by go_num, Lib.hid ⟨?_, ?_⟩⟩, ?_⟩
      · rw [List.take_add_one, HPK.out]
        show w5.heap[w.heap.size + 1]? = some (.cells (agA (l.take k ++ [⟨pt, pv, ps⟩])).cells.toArray 48 (0, 0))
        rw [agA_snoc, ← HG.out, ← HR.out]
        exact HB5.out
      · exact (HI.out.2.trans (Chg.of_ext (S := fun _ => False) HX4.out) (fun _ _ e => e.elim)).trans HC5.out (fun _ _ e => e)
      · simp [RowKit.intOf]; omega
    · have HKN : Hid (l.take k = l) := Lib.hid (by rw [List.take_of_length_le (by have := HLN.out; omega)])
      rw [HKN.out] at HI
      obtain ⟨A, hA⟩ : ∃ A : Array Value, A = (agA l).cells.toArray := ⟨_, rfl⟩
      have HA := Lib.hid hA
      have hav : (agA l).val = .agg A := by rw [hA]; rfl
      rw [← hA] at HI
      have HAV := Lib.hid hav
      clear hA hav
      have HZr : Hid (wr.heap[w.heap.size]? = some agZ) := Lib.hid ((HI.out.2.block _ (block_lt HZ0.out) (by omega)).trans HZ0.out)
      go_wp2_with (first | (refine wpList_load_box rfl _ _ rfl _ _ _ _ _ rfl HI.out.1 Try.underlying48 rfl (by rw [HA.out]; kernel_rfl) ?_) | (refine wpList_store_box rfl _ _ _ rfl _ _ _ _ rfl rfl HZr.out (by rw [HA.out]; rfl) (by rw [HA.out]; kernel_rfl) (by rw [HA.out]; simp [Value.oneCell', Ag.cells]) ?_; rintro w5 hb5 hc5; have HB5 := Lib.hid hb5; have HC5 := Lib.hid hc5; clear hb5 hc5))
      have hx := HXW.out
      exact bodyPost_ret (results_box_tmp Try.results23 _ _ rfl HB5.out Try.underlying48 rfl (by rw [HA.out]; kernel_rfl)) rfl ⟨by rw [HAV.out]; rfl, (((Chg.of_ext (S := fun _ => False) hx).trans HI.out.2 (fun i hi e => by omega)).trans HC5.out (fun i hi e => by omega)).ext (fun _ _ e => e)⟩
end Go.Proofs.Ythnpchfcafaiiaa
