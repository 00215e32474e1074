/- rollup: kind, isTime, Roll where all points lie in the span. -/
import Derived.Test.YthpindmcklennaaWdw
import Derived.Test.YthpindmcklennaaCut
import Derived.Test.YthpindmcklennaaEpt
namespace Go.Proofs.Ythpindmcklennaa
open Go.RowKit Go.Lib Go.Sort

set_option maxHeartbeats 1000000 in
theorem rkind_any (wd off : Int) (w : World) : Calls Try.prog 28 #[.agg #[.int .i64 wd, .int .i64 off]] w fun e w' => e = .returned (.agg #[.int .i64 wd, .int .i64 wd, .int .i64 off]) ∧ Ext w w' := by
  go_enter Try.func28, Try.ntmps28
  go_wp2_with fail
  exact bodyPost_ret (results_box Try.results28 _ _ rfl (heap_alloc2 w _ _) Try.underlying30 rfl (by kernel_rfl)) rfl ⟨rfl, ((Ext.refl w).alloc _).alloc _⟩

set_option maxHeartbeats 1000000 in
theorem rTime_any (t : Int) (w : World) (h1 : -1152921504606846976 ≤ t) (h2 : t ≤ 1152921504606846976) : Calls Try.prog 29 #[.int .i64 t] w fun e w' => e = .returned (.bool true) ∧ w = w' := by
  go_enter Try.func29, Try.ntmps29
  go_wp2_with fail
  go_ret
  exact ⟨rfl, rfl⟩

set_option maxHeartbeats 8000000 in
set_option maxRecDepth 100000 in
theorem roll_any (w : World) (a : Option Addr) (n c : Nat) (l : List Pt) (wd : Nat) (hi : Int) (hl : Src w 3 (.slice a n c) n (pts l)) (hn : n ≤ 900) (h1 : 1 ≤ wd) (h2 : wd ≤ 64) (hhi : hi = 600 * (wd : Int))
    (hp : ∀ p ∈ l, 0 ≤ p.t ∧ p.t < hi ∧ (-9223372036854775808 ≤ p.v ∧ p.v ≤ 9223372036854775807)) :
    Calls Try.prog 10 #[.slice a n c, .int .i64 wd, .int .i64 0, .agg #[.int .i64 0, .int .i64 hi]] w fun e w' => ∃ v, e = .returned (.tuple #[v, .int .i64 0]) ∧ WinsTo w wd (gatL wd wd 0 l) v w' := by
  have HL := Lib.hid hl
  have HLN := Lib.hid (src_len hl)
  have HPV := Lib.hid hp
  have hrem : hi.tmod (wd : Int) = 0 := by rw [hhi]; exact Int.mul_tmod_left _ _
  have hwd0 : ¬ (wd : Int) = 0 := by omega
  have hhi1 : 0 ≤ hi := by omega
  have hhi2 : hi ≤ 38400 := by omega
  have HWD := Lib.hid (And.intro h1 h2)
  clear hl hp hhi h1 h2
  go_enter Try.func10, Try.ntmps10
  go_wp2_with fail
  refine (rkind_any wd 0 _).mono ?_
  rintro e w1 ⟨rfl, hx1⟩
  have HB0 : Hid (w1.heap[w.heap.size]? = some (.cells #[.int .i64 0, .int .i64 hi] 37 (0, 0))) := Lib.hid (by
    have h0 := heap_alloc_new w (.cells #[.int .i64 0, .int .i64 hi] 37 (0, 0))
    exact ((((Ext.refl _).alloc _).trans hx1).block (block_lt h0)).trans h0)
  have HB1 : Hid (w1.heap[w.heap.size + 1]? = some (.cells #[.int .i64 wd, .int .i64 0] 76 (0, 0))) := Lib.hid (by
    have h0 := heap_alloc2 w (.cells #[.int .i64 0, .int .i64 hi] 37 (0, 0)) (.cells #[.int .i64 wd, .int .i64 0] 76 (0, 0))
    exact (hx1.block (block_lt h0)).trans h0)
  have HX1 := Lib.hid ((((Ext.refl w).alloc _).alloc _).trans hx1)
  clear hx1
  go_wp2_with fail
  refine (windowValid_any wd wd 0 _).mono ?_
  rintro e w2 ⟨rfl, hx2⟩
  have HWN : Hid (windowB (wd : Int) (wd : Int) 0 = true) := Lib.hid (by
    have h0 := HWD.out
    unfold windowB
    simp only [Bool.and_eq_true, decide_eq_true_eq]
    omega)
  rw [HWN.out]
  have HX2 := Lib.hid (HX1.out.trans hx2)
  have HB2 := Lib.hid ((hx2.block (block_lt HB0.out)).trans HB0.out)
  have HB3 := Lib.hid ((hx2.block (block_lt HB1.out)).trans HB1.out)
  clear hx2 HX1 HB0 HB1
  have k0 : w2.cell? ⟨w.heap.size, 0, none⟩ = some (.int .i64 0) := by have := cell_of_block HB2.out 0; simpa using this
  have k1 : w2.cell? ⟨w.heap.size, 1, none⟩ = some (.int .i64 hi) := by have := cell_of_block HB2.out 1; simpa using this
  go_wp2_with fail
  refine (rTime_any 0 _ (by omega) (by omega)).mono ?_
  rintro e w3 ⟨rfl, rfl⟩
  go_wp2_with fail
  refine (rTime_any hi _ (by omega) (by omega)).mono ?_
  rintro e w3 ⟨rfl, rfl⟩
  go_wp2_with fail
  clear k0 k1 hrem
  go_loopw [11, 60] (fun s11 s60 wr => ∃ (k vc : Nat) (va : Option Addr), k ≤ n ∧ s11 = .slice va k vc ∧ s60 = .int .i64 k ∧ Hid (MadeTo w2 24 3 (.slice va k vc) k (pts (l.take k)) wr)) (fun _ i _ => n - (RowKit.intOf i).toNat)
  case atStart => exact ⟨0, 0, none, by omega, rfl, rfl, Lib.hid ⟨Row.nil _ _ _, fun g hg => by simp [Value.ownBlock] at hg, Ext.refl w2⟩⟩
  case round =>
    obtain ⟨k, vc, va, hk, rfl, rfl, HR⟩ := hrel
    by_cases hlt : k < n
    · obtain ⟨b, so, p, rfl, hp, c0, c1, c2⟩ := pts_src (HL.out.ext (HX2.out.trans HR.out.ext)) hlt
      have HPK := Lib.hid hp
      have hpv := HPV.out p (List.mem_of_getElem? hp)
      clear hp
      obtain ⟨pt, pv, ps⟩ := p
      simp only at c0 c1 c2 hpv
      have hp1 := hpv.1
      have hp2 := hpv.2.1
      have hp1' : ¬ pt < 0 := by omega
      clear hpv
      have k0 : ∀ o, (wr.alloc o).cell? ⟨w.heap.size, 0, none⟩ = some (.int .i64 0) := fun o => by have := cell_of_block (((HR.out.ext.alloc o).block (block_lt HB2.out)).trans HB2.out) 0; simpa using this
      have k1 : ∀ o, (wr.alloc o).cell? ⟨w.heap.size, 1, none⟩ = some (.int .i64 hi) := fun o => by have := cell_of_block (((HR.out.ext.alloc o).block (block_lt HB2.out)).trans HB2.out) 1; simpa using this
      go_wp2_with (first | (refine wpList_append_start elem_pt rfl _ _ rfl rfl rfl (Start.row (((HR.out.row).alloc _).alloc _) HR.out.own) ((HR.out.ext.alloc _).alloc _) (src_pt' (p := (⟨pt, pv, ps⟩ : Pt)) (heap_alloc2 wr _ _)) (by omega) (by unfold maxLen; omega) (by omega) ?_; rintro v' w5 ha; obtain ⟨va', vc', rfl⟩ := ha.row.shape; have HA := Lib.hid ha; clear ha))
      refine ⟨⟨k + 1, vc', va', by omega, rfl, by go_num, Lib.hid ?_⟩, ?_⟩
      · rw [List.take_add_one, HPK.out]
        show MadeTo w2 _ 3 _ _ (pts (l.take k ++ [⟨pt, pv, ps⟩])) w5
        rw [pts_append]
        exact HA.out
      · simp [RowKit.intOf]; omega
    · have HKN : Hid (l.take k = l) := Lib.hid (by rw [List.take_of_length_le (by have := HLN.out; omega)])
      rw [HKN.out] at HR
      have hkn : k = n := by omega
      subst hkn
      have HBr := Lib.hid ((HR.out.ext.block (block_lt HB3.out)).trans HB3.out)
      have t0 : wr.cell? ⟨w.heap.size + 1, 0, none⟩ = some (.int .i64 wd) := by have := cell_of_block HBr.out 0; simpa using this
      have t1 : wr.cell? ⟨w.heap.size + 1, 1, none⟩ = some (.int .i64 0) := by have := cell_of_block HBr.out 1; simpa using this
      go_wp2_with fail
      refine (rkind_any wd 0 _).mono ?_
      rintro e w6 ⟨rfl, hx6⟩
      have HX6 := Lib.hid hx6
      clear hx6 t0 t1
      go_wp2_with fail
      refine (windows_any w6 va k vc l wd wd 0 ((HR.out.row.ext HX6.out).src (pts_one l)) (by omega) (fun p hp => (HPV.out p hp).2.2)).mono ?_
      intro e w7 hpost
      unfold winPost at hpost
      rw [if_pos ⟨HWN.out, by
        rw [List.any_eq_false]
        intro p hp
        have h1 := HPV.out p hp
        have : timeB p.t = true := by unfold timeB; simp only [Bool.and_eq_true, decide_eq_true_eq]; omega
        simp [this]⟩] at hpost
      obtain ⟨v, rfl, hto⟩ := hpost
      have HTO := Lib.hid (hto.mono (HX2.out.trans (HR.out.ext.trans HX6.out)))
      clear hto
      go_wp2_with fail
      go_ret2
      exact ⟨_, rfl, HTO.out⟩
end Go.Proofs.Ythpindmcklennaa
