/- buckets.Windows. -/
import Derived.Test.YthnpchfcafaiiaaWdc
import Derived.Test.YthnpchfcafaiiaaBks
import Derived.Test.YthnpchfcafaiiaaWdp
namespace Go.Proofs.Ythnpchfcafaiiaa
open Go.RowKit Go.Lib Go.Sort

/-- What Windows tells. -/
def winPost (w : World) (wd st off : Int) (l : List Pt) (e : Ending) (w' : World) : Prop :=
  if windowB wd st off = true ∧ l.any (fun p => !timeB p.t) = false then ∃ v, e = .returned (.tuple #[v, .int .i64 0]) ∧ WinsTo w wd (gatL wd st off l) v w'
  else e = .returned (.tuple #[.slice none 0 0, .int .i64 2]) ∧ Ext w w'

theorem WinsTo.mono {w0 w w' : World} {wd : Int} {m : List (Int × Ag)} {v : Value} (hx : Ext w0 w) (h : WinsTo w wd m v w') : WinsTo w0 wd m v w' := by
  obtain ⟨ds, h1, h2, h3⟩ := h
  exact ⟨ds, h1, h2, h3.row, fun g hg => Nat.le_trans hx.size (h3.own g hg), hx.trans h3.ext⟩

set_option maxHeartbeats 8000000 in
set_option maxRecDepth 100000 in
theorem windows_any (w : World) (a : Option Addr) (n c : Nat) (l : List Pt) (wd st off : Int) (hl : Src w 3 (.slice a n c) n (pts l)) (hn : n ≤ 900) (hp : ∀ p ∈ l, -9223372036854775808 ≤ p.v ∧ p.v ≤ 9223372036854775807) :
    Calls Try.prog 5 #[.slice a n c, .agg #[.int .i64 wd, .int .i64 st, .int .i64 off]] w (winPost w wd st off l) := by
  have HL := Lib.hid hl
  have HLN := Lib.hid (src_len hl)
  have HP := Lib.hid hp
  clear hl hp
  have HPOST : Hid (∀ e w', winPost w wd st off l e w' = (if windowB wd st off = true ∧ l.any (fun p => !timeB p.t) = false then ∃ v, e = .returned (.tuple #[v, .int .i64 0]) ∧ WinsTo w wd (gatL wd st off l) v w'
    else e = .returned (.tuple #[.slice none 0 0, .int .i64 2]) ∧ Ext w w')) := Lib.hid (fun _ _ => rfl)
  go_enter Try.func5, Try.ntmps5
  go_wp2_with fail
  refine (windowValid_any wd st off _).mono ?_
  rintro e w1 ⟨rfl, hx1⟩
  have HX1 := Lib.hid (((Ext.refl w).alloc (.cells #[.int .i64 wd, .int .i64 st, .int .i64 off] 24 (0, 0))).trans hx1)
  have HK1 : Hid (w1.heap[w.heap.size]? = some (.cells #[.int .i64 wd, .int .i64 st, .int .i64 off] 24 (0, 0))) := Lib.hid ((hx1.block (block_lt (heap_alloc_new w _))).trans (heap_alloc_new w _))
  clear hx1
  cases hv : windowB wd st off with
  | false =>
    have HQ : Hid (¬ (windowB wd st off = true ∧ l.any (fun p => !timeB p.t) = false)) := Lib.hid (by rw [hv]; simp)
    clear hv
    go_wp2_with fail
    go_ret2
    rw [HPOST.out, if_neg HQ.out]
    exact ⟨rfl, HX1.out⟩
  | true =>
    have HV := Lib.hid hv
    clear hv
    go_wp2_with fail
    refine (anyOdd w1 a n c l (HL.out.ext HX1.out) (by omega)).mono ?_
    rintro e w2 ⟨rfl, hx2⟩
    have HX2 := Lib.hid (HX1.out.trans hx2)
    have HK2 := Lib.hid ((hx2.block (block_lt HK1.out)).trans HK1.out)
    clear hx2 HX1 HK1
    cases ho : l.any (fun p => !timeB p.t) with
    | true =>
      have HQ : Hid (¬ (windowB wd st off = true ∧ l.any (fun p => !timeB p.t) = false)) := Lib.hid (by rw [ho]; simp)
      clear ho
      go_wp2_with fail
      go_ret2
      rw [HPOST.out, if_neg HQ.out]
      exact ⟨rfl, HX2.out⟩
    | false =>
      have HQ : Hid (windowB wd st off = true ∧ l.any (fun p => !timeB p.t) = false) := Lib.hid ⟨HV.out, ho⟩
      clear ho
      have r0 : w2.cell? ⟨w.heap.size, 0, none⟩ = some (.int .i64 wd) := by have := cell_of_block HK2.out 0; simpa using this
      have r1 : w2.cell? ⟨w.heap.size, 1, none⟩ = some (.int .i64 st) := by have := cell_of_block HK2.out 1; simpa using this
      have r2 : w2.cell? ⟨w.heap.size, 2, none⟩ = some (.int .i64 off) := by have := cell_of_block HK2.out 2; simpa using this
      have hmm := @run_makeMap Try.prog
      go_wp2_with fail
      clear r0 r1 r2 hmm
      obtain ⟨mb, hmb⟩ : ∃ mb, mb = w2.heap.size := ⟨_, rfl⟩
      obtain ⟨g, hg⟩ : ∃ g, g = mb + 1 := ⟨_, rfl⟩
      have HG3 : Hid (GatAt ((w2.alloc (.map #[] 0)).alloc (.cells #[.int .i64 wd, .int .i64 st, .int .i64 off, .map (some w2.heap.size)] 59 (0, 0))) (w2.heap.size + 1) w2.heap.size wd st off []) := Lib.hid ⟨heap_alloc2 w2 _ _, (MapIs.new w2).ext ((Ext.refl _).alloc _)⟩
      have HX3 : Hid (Ext w ((w2.alloc (.map #[] 0)).alloc (.cells #[.int .i64 wd, .int .i64 st, .int .i64 off, .map (some w2.heap.size)] 59 (0, 0)))) := Lib.hid ((HX2.out.alloc _).alloc _)
      have HMB : Hid (w.heap.size ≤ mb) := Lib.hid (by rw [hmb]; exact HX2.out.size)
      rw [← hmb, ← hg] at HG3
      rw [← hmb] at HX3
      rw [← hmb, ← hg]
      generalize (w2.alloc (.map #[] 0)).alloc (.cells #[.int .i64 wd, .int .i64 st, .int .i64 off, .map (some mb)] 59 (0, 0)) = w3 at *
      clear hmb hg
      go_loopw [25] (fun i wr => ∃ k : Nat, k ≤ n ∧ i = .int .i64 k ∧ Hid (GatAt wr g mb wd st off (gatL wd st off (l.take k)) ∧ Ext w wr)) (fun i _ => n - (RowKit.intOf i).toNat)
      case atStart => exact ⟨0, by omega, rfl, Lib.hid ⟨by simpa [gatL] using HG3.out, HX3.out⟩⟩
      case round =>
        obtain ⟨k, hk, rfl, HI⟩ := hrel
        by_cases hlt : k < n
        · obtain ⟨b, so, p, rfl, hp, c0, c1, c2⟩ := pts_src (HL.out.ext HI.out.2) hlt
          have HPK := Lib.hid hp
          clear hp
          obtain ⟨pt, pv, ps⟩ := p
          simp only at c0 c1 c2
          go_wp2_with fail
          clear c0 c1 c2
          have HW4 : Hid (Ext wr (wr.alloc (.cells #[.int .i64 pt, .int .i64 pv, .int .i64 ps] 35 (0, 0)))) := Lib.hid ((Ext.refl wr).alloc _)
          have HB4 := Lib.hid (heap_alloc_new wr (.cells #[.int .i64 pt, .int .i64 pv, .int .i64 ps] 35 (0, 0)))
          generalize wr.alloc (.cells #[.int .i64 pt, .int .i64 pv, .int .i64 ps] 35 (0, 0)) = w4 at *
          have f0 := cell_turned (T := fun _ => false) (show w4.cell? ⟨wr.heap.size, 0, none⟩ = some (.int .i64 pt) by have := cell_of_block HB4.out 0; simpa using this) rfl
          have f1 := cell_turned (T := fun _ => false) (show w4.cell? ⟨wr.heap.size, 1, none⟩ = some (.int .i64 pv) by have := cell_of_block HB4.out 1; simpa using this) rfl
          have f2 := cell_turned (T := fun _ => false) (show w4.cell? ⟨wr.heap.size, 2, none⟩ = some (.int .i64 ps) by have := cell_of_block HB4.out 2; simpa using this) rfl
          refine wp_region_plan 5 (fun w' => ∃ p : Turned, w' = turned w4 (fun _ => false) p.d p.f p.os) (.reads [0, 1, 2, 3] (.one 4 (.one 5 (.one 6 .done)))) (by kernel_rfl) (by kernel_rfl) (fun _ _ dd _ _ hh => by cases dd <;> exact hh) ?_ ?_
          · exact turned_of_ext (Ext.drewN w4 1)
          refine wpPlan_reads ?_
          simp only [pickOps, List.getElem?_cons_succ, List.getElem?_cons_zero]
          repeat (go_big_quiet_step (fail))
          refine wpQuiet_nil ?_
          clear f0 f1 f2
          refine wpPlan_one ?_
          simp only [pickOps, List.getElem?_cons_succ, List.getElem?_cons_zero]
          go_wp2_with fail
          have HPV := Lib.hid (HP.out _ (List.mem_of_getElem? HPK.out))
          refine (aggrOf_any ⟨pt, pv, ps⟩ _ HPV.out.1 HPV.out.2).mono ?_
          rintro e w5 ⟨rfl, hx5⟩
          have HX5 := Lib.hid ((Ext.drewN w4 1).trans hx5)
          clear hx5
          go_wp2_with fail
          refine thenX_mk (turned_of_ext HX5.out) (wpPlan_one ?_)
          simp only [pickOps, List.getElem?_cons_succ, List.getElem?_cons_zero]
          go_wp2_with fail
          have HTM : Hid (timeB pt = true) := Lib.hid (by
            have h1 := HQ.out.2
            rw [List.any_eq_false] at h1
            have h2 := h1 _ (List.mem_of_getElem? HPK.out)
            simpa using h2)
          have HKL : Hid ((l.take k).length = k) := Lib.hid (by rw [List.length_take]; have := HLN.out; omega)
          refine (put_any (HI.out.1.ext (HW4.out.trans HX5.out)) pt (agOf ⟨pt, pv, ps⟩) (64 * (l.take k).length) 1 HV.out HTM.out (gatL_bnd HV.out _ (fun p hp => HP.out p (List.mem_of_mem_take hp))) (agOf_bnd HPV.out.1 HPV.out.2) (by unfold agOf; simp) (by have := HKL.out; omega) (by have := gatL_len (wd := wd) (st := st) (off := off) HV.out (l.take k); have := HKL.out; omega)).mono ?_
          rintro e w6 ⟨rfl, hg6, hc6⟩
          have HG6 : Hid (GatAt w6 g mb wd st off (gatL wd st off (l.take (k + 1)))) := Lib.hid (by
            rw [List.take_add_one, HPK.out]
            show GatAt w6 g mb wd st off (gatL wd st off (l.take k ++ [⟨pt, pv, ps⟩]))
            rw [gatL_snoc]
            exact hg6)
          have HX6 : Hid (Ext w w6) := Lib.hid (((Chg.of_ext (S := fun _ => False) (HI.out.2.trans (HW4.out.trans HX5.out))).trans hc6 (fun i hi e => by have := HMB.out; omega)).ext (fun _ _ e => e))
          clear hg6 hc6
          go_wp2_with fail
          refine thenX_last (wpPlan_one ?_)
          simp only [pickOps, List.getElem?_cons_succ, List.getElem?_cons_zero]
          go_wp2_with fail
          refine thenX_last (wpPlan_done ?_)
          go_wp2_with fail
          refine ⟨⟨k + 1, by omega, by go_num, Lib.hid ⟨HG6.out, HX6.out⟩⟩, ?_⟩
          simp [RowKit.intOf]
          omega
        · have HKN : Hid (l.take k = l) := Lib.hid (by rw [List.take_of_length_le (by have := HLN.out; omega)])
          rw [HKN.out] at HI
          go_wp2_with fail
          refine (buckets_any HI.out.1 HV.out (fun q hq => ?_) (by have := gatL_len (wd := wd) (st := st) (off := off) HV.out l; have := HLN.out; omega)).mono ?_
          · obtain ⟨p, hp, x, hx, e⟩ := gatL_keys l q hq
            have hv := window_nums HV.out
            have h1 := (mem_winL hv.2.2.1 hv.2.2.2.1).1 hx
            have h2 := HQ.out.2
            rw [List.any_eq_false] at h2
            have h3 := time_nums (show timeB p.t = true by simpa using h2 p hp)
            omega
          rintro e w7 ⟨v, rfl, hto⟩
          have HTO := Lib.hid (hto.mono HI.out.2)
          clear hto
          go_wp2_with fail
          go_ret2
          rw [HPOST.out, if_pos HQ.out]
          exact ⟨_, rfl, HTO.out⟩
end Go.Proofs.Ythnpchfcafaiiaa
