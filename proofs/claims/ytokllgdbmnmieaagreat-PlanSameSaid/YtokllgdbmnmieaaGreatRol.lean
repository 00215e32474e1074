/- gathered.buckets: the windows of the map, sorted by their From. -/
import Derived.Test.YtokllgdbmnmieaaGreatWdc
import Derived.Test.YtokllgdbmnmieaaGreatShelf2
import Derived.Test.YtokllgdbmnmieaaGreatFtp
import Derived.Test.YtokllgdbmnmieaaGreatWop
import Derived.Test.YtokllgdbmnmieaaGreatPtc
namespace Go.Proofs.YtokllgdbmnmieaaGreat
open Go.RowKit Go.Lib Go.Sort

/-- A row of the windows of a map, rising. -/
def WinsTo (w : World) (wd : Int) (m : List (Int × Ag)) (v : Value) (w' : World) : Prop :=
  ∃ ds : List (Int × Ag), ds.Perm m ∧ (ds.map (·.1)).Pairwise (· ≤ ·) ∧ MadeTo w 77 13 v ds.length (bks (ds.map (bkOf wd))) w'

theorem buckets_any {w : World} {g mb : Nat} {wd st off : Int} {m : List (Int × Ag)} (hg : GatAt w g mb wd st off m) (hv : windowB wd st off = true) (hm : ∀ p ∈ m, -2305843009213693952 ≤ p.1 ∧ p.1 ≤ 2305843009213693952) (hlen : m.length ≤ 70000) :
    Calls Tryz.prog 44 #[.pointer (some ⟨g, 0, none⟩)] w fun e w' => ∃ v, e = .returned v ∧ WinsTo w wd m v w' := by
  refine buckets_upto hg hv hm hlen (WinsTo w wd m) (fun dn v wr hp hmd => ?_)
  have hln : dn.length ≤ 70000 := by rw [hp.length_eq]; exact hlen
  rcases hmd.row.2 with ⟨rfl, h0⟩ | ⟨g', cap, cur, rfl, hbase, hb, h1, h2, h3, h4⟩
  · have hnil : dn = [] := List.length_eq_zero_iff.1 h0
    subst hnil
    refine (AnyF.slices_SortFunc_none Tryz.sortBk none 0 _ wr).mono ?_
    rintro e w' ⟨rfl, rfl⟩
    exact ⟨rfl, [], hp, List.Pairwise.nil, hmd⟩
  · have hsize : (dn.map (bkOf wd)).toArray.size = dn.length := by simp
    have hH : HoldsK bkc 13 wr g' 0 (dn.map (bkOf wd)).toArray := holds_row (cap := cap) bkc_len (by decide) hb (by simp) h4
    have eg : ∀ args w, (callFunc 77 args).run Tryz.prog w = .ok (.enter 77 args) w := fun args w => by simp [go_sem]
    have key := AnyQ.slices_SortFunc Tryz.sortBk 13 Tryz.isAgg77 Tryz.sizeOf77 bkc bkc_len bkc_one cmpB cmpB_swo 77 #[] g' 0 cap (dn.map (bkOf wd)).toArray wr eg (bcmp_lays _ _ _ _) hH (block_lt hb) (by rw [hsize]; omega)
    rw [hsize] at key
    refine Calls.mono key ?_
    rintro e w' ⟨rfl, d', m', os, hperm, hsorted, rfl⟩
    have hd : d'.size = dn.length := by rw [hperm.1, hsize]
    have hpl : d'.toList.Perm (dn.map (bkOf wd)) := by
      have h5 := hperm.2.2
      rw [show d'.extract 0 dn.length = d' by rw [← hd]; simp] at h5
      rw [show (dn.map (bkOf wd)).toArray.extract 0 dn.length = (dn.map (bkOf wd)).toArray by simp [List.take_of_length_le]] at h5
      exact h5
    have hmap : (d'.toList.map (fun b : Bk => (b.lo, b.a))).map (bkOf wd) = d'.toList := by
      rw [List.map_map]
      conv => rhs; rw [← List.map_id d'.toList]
      refine List.map_congr_left (fun b hb => ?_)
      obtain ⟨p, _, rfl⟩ := List.mem_map.1 (hpl.subset hb)
      rfl
    have hds : (d'.toList.map (fun b : Bk => (b.lo, b.a))).Perm m := by
      refine (hpl.map _).trans ?_
      rw [List.map_map]
      refine List.Perm.trans ?_ hp
      have : dn.map ((fun b : Bk => (b.lo, b.a)) ∘ bkOf wd) = dn := by
        conv => rhs; rw [← List.map_id dn]
        rfl
      rw [this]
    refine ⟨rfl, d'.toList.map (fun b : Bk => (b.lo, b.a)), hds, ?_, ?_⟩
    · rw [List.map_map]
      refine List.Pairwise.map _ (R := fun x y : Bk => x.lo ≤ y.lo) (fun _ _ h => h) ?_
      rw [List.pairwise_iff_getElem]
      intro i j hi hj hij
      have h5 := hsorted i j (Nat.zero_le _) hij (by rw [← hd]; simpa using hj)
      rw [ltOf_cmpB, getElem!_pos d' i (by simpa using hi), getElem!_pos d' j (by simpa using hj)] at h5
      simp only [decide_eq_false_iff_not, Int.not_lt] at h5
      simpa using h5
    · rw [hmap]
      simp only [List.length_map, Array.length_toList]
      rw [hd]
      have hrow := row_sortedK (enc := bkc) (m := m') (os := os) bkc_len (by decide) hd hb h1 h2 h3
      refine ⟨hrow, hmd.own, ?_⟩
      have hc := grown_sortedK (enc := bkc) (s := 13) (w := wr) (g := g') (n := m') (os := os) d'
      exact ((Chg.of_ext (S := fun _ => False) hmd.ext).trans hc (fun i hi e => by have := hmd.own g' rfl; omega)).ext (fun _ _ e => e)
end Go.Proofs.YtokllgdbmnmieaaGreat

/-! buckets.Windows. -/

namespace Go.Proofs.YtokllgdbmnmieaaGreat
open Go.RowKit Go.Lib Go.Sort

/-- What Windows tells. -/
def winPost (w : World) (wd st off : Int) (l : List Pt) (e : Ending) (w' : World) : Prop :=
  if windowB wd st off = true ∧ l.any (fun p => !timeB p.t) = false then ∃ v, e = .returned (.tuple #[v, .int .i64 0]) ∧ WinsTo w wd (gatL wd st off l) v w'
  else e = .returned (.tuple #[.slice none 0 0, .int .i64 2]) ∧ Ext w w'

theorem WinsTo.mono {w0 w w' : World} {wd : Int} {m : List (Int × Ag)} {v : Value} (hx : Ext w0 w) (h : WinsTo w wd m v w') : WinsTo w0 wd m v w' := by
  obtain ⟨ds, h1, h2, h3⟩ := h
  exact ⟨ds, h1, h2, h3.row, fun g hg => Nat.le_trans hx.size (h3.own g hg), hx.trans h3.ext⟩

set_option maxHeartbeats 8000000 in
set_option maxRecDepth 100000 in
theorem windows_any (w : World) (a : Option Addr) (n c : Nat) (l : List Pt) (wd st off : Int) (hl : Src w 3 (.slice a n c) n (pts l)) (hn : n ≤ 900) (hp : ∀ p ∈ l, -9223372036854775808 ≤ p.v ∧ p.v ≤ 9223372036854775807) :
    Calls Tryz.prog 32 #[.slice a n c, .agg #[.int .i64 wd, .int .i64 st, .int .i64 off]] w (winPost w wd st off l) := by
  have HL := Lib.hid hl
  have HLN := Lib.hid (src_len hl)
  have HP := Lib.hid hp
  clear hl hp
  have HPOST : Hid (∀ e w', winPost w wd st off l e w' = (if windowB wd st off = true ∧ l.any (fun p => !timeB p.t) = false then ∃ v, e = .returned (.tuple #[v, .int .i64 0]) ∧ WinsTo w wd (gatL wd st off l) v w'
    else e = .returned (.tuple #[.slice none 0 0, .int .i64 2]) ∧ Ext w w')) := Lib.hid (fun _ _ => rfl)
  go_enter Tryz.func32, Tryz.ntmps32
  go_wp2_with fail
  refine (windowValid_any wd st off _).mono ?_
  rintro e w1 ⟨rfl, hx1⟩
  have HX1 := Lib.hid (((Ext.refl w).alloc (.cells #[.int .i64 wd, .int .i64 st, .int .i64 off] 67 (0, 0))).trans hx1)
  have HK1 : Hid (w1.heap[w.heap.size]? = some (.cells #[.int .i64 wd, .int .i64 st, .int .i64 off] 67 (0, 0))) := Lib.hid ((hx1.block (block_lt (heap_alloc_new w _))).trans (heap_alloc_new w _))
  clear hx1
  cases hv : windowB wd st off with
  | false =>
    have HQ : Hid (¬ (windowB wd st off = true ∧ l.any (fun p => !timeB p.t) = false)) := Lib.hid (by rw [hv]; simp)
    clear hv
    go_wp2_with fail
    go_ret2
    rw [HPOST.out, if_neg HQ.out]
    exact ⟨rfl, HX1.out⟩
  | true =>
    have HV := Lib.hid hv
    clear hv
    go_wp2_with fail
    refine (anyOdd w1 a n c l (HL.out.ext HX1.out) (by omega)).mono ?_
    rintro e w2 ⟨rfl, hx2⟩
    have HX2 := Lib.hid (HX1.out.trans hx2)
    have HK2 := Lib.hid ((hx2.block (block_lt HK1.out)).trans HK1.out)
    clear hx2 HX1 HK1
    cases ho : l.any (fun p => !timeB p.t) with
    | true =>
      have HQ : Hid (¬ (windowB wd st off = true ∧ l.any (fun p => !timeB p.t) = false)) := Lib.hid (by rw [ho]; simp)
      clear ho
      go_wp2_with fail
      go_ret2
      rw [HPOST.out, if_neg HQ.out]
      exact ⟨rfl, HX2.out⟩
    | false =>
      have HQ : Hid (windowB wd st off = true ∧ l.any (fun p => !timeB p.t) = false) := Lib.hid ⟨HV.out, ho⟩
      clear ho
      have r0 : w2.cell? ⟨w.heap.size, 0, none⟩ = some (.int .i64 wd) := by have := cell_of_block HK2.out 0; simpa using this
      have r1 : w2.cell? ⟨w.heap.size, 1, none⟩ = some (.int .i64 st) := by have := cell_of_block HK2.out 1; simpa using this
      have r2 : w2.cell? ⟨w.heap.size, 2, none⟩ = some (.int .i64 off) := by have := cell_of_block HK2.out 2; simpa using this
      have hmm := @run_makeMap Tryz.prog
      go_wp2_with fail
      clear r0 r1 r2 hmm
      obtain ⟨mb, hmb⟩ : ∃ mb, mb = w2.heap.size := ⟨_, rfl⟩
      obtain ⟨g, hg⟩ : ∃ g, g = mb + 1 := ⟨_, rfl⟩
      have HG3 : Hid (GatAt ((w2.alloc (.map #[] 0)).alloc (.cells #[.int .i64 wd, .int .i64 st, .int .i64 off, .map (some w2.heap.size)] 114 (0, 0))) (w2.heap.size + 1) w2.heap.size wd st off []) := Lib.hid ⟨heap_alloc2 w2 _ _, (MapIs.new w2).ext ((Ext.refl _).alloc _)⟩
      have HX3 : Hid (Ext w ((w2.alloc (.map #[] 0)).alloc (.cells #[.int .i64 wd, .int .i64 st, .int .i64 off, .map (some w2.heap.size)] 114 (0, 0)))) := Lib.hid ((HX2.out.alloc _).alloc _)
      have HMB : Hid (w.heap.size ≤ mb) := Lib.hid (by rw [hmb]; exact HX2.out.size)
      rw [← hmb, ← hg] at HG3
      rw [← hmb] at HX3
      rw [← hmb, ← hg]
      generalize (w2.alloc (.map #[] 0)).alloc (.cells #[.int .i64 wd, .int .i64 st, .int .i64 off, .map (some mb)] 114 (0, 0)) = w3 at *
      clear hmb hg
      go_loopw [25] (fun i wr => ∃ k : Nat, k ≤ n ∧ i = .int .i64 k ∧ Hid (GatAt wr g mb wd st off (gatL wd st off (l.take k)) ∧ Ext w wr)) (fun i _ => n - (RowKit.intOf i).toNat)
      case atStart => exact ⟨0, by omega, rfl, Lib.hid ⟨by simpa [gatL] using HG3.out, HX3.out⟩⟩
      case round =>
        obtain ⟨k, hk, rfl, HI⟩ := hrel
        by_cases hlt : k < n
        · obtain ⟨b, so, p, rfl, hp, c0, c1, c2⟩ := pts_src (HL.out.ext HI.out.2) hlt
          have HPK := Lib.hid hp
          clear hp
          obtain ⟨pt, pv, ps⟩ := p
          simp only at c0 c1 c2
          go_wp2_with fail
          clear c0 c1 c2
          have HW4 : Hid (Ext wr (wr.alloc (.cells #[.int .i64 pt, .int .i64 pv, .int .i64 ps] 37 (0, 0)))) := Lib.hid ((Ext.refl wr).alloc _)
          have HB4 := Lib.hid (heap_alloc_new wr (.cells #[.int .i64 pt, .int .i64 pv, .int .i64 ps] 37 (0, 0)))
          generalize wr.alloc (.cells #[.int .i64 pt, .int .i64 pv, .int .i64 ps] 37 (0, 0)) = w4 at *
          have f0 := cell_turned (T := fun _ => false) (show w4.cell? ⟨wr.heap.size, 0, none⟩ = some (.int .i64 pt) by have := cell_of_block HB4.out 0; simpa using this) rfl
          have f1 := cell_turned (T := fun _ => false) (show w4.cell? ⟨wr.heap.size, 1, none⟩ = some (.int .i64 pv) by have := cell_of_block HB4.out 1; simpa using this) rfl
          have f2 := cell_turned (T := fun _ => false) (show w4.cell? ⟨wr.heap.size, 2, none⟩ = some (.int .i64 ps) by have := cell_of_block HB4.out 2; simpa using this) rfl
          refine wp_region_plan 5 (fun w' => ∃ p : Turned, w' = turned w4 (fun _ => false) p.d p.f p.os) (.reads [0, 1, 2, 3] (.one 4 (.one 5 (.one 6 .done)))) (by kernel_rfl) (by kernel_rfl) (fun _ _ dd _ _ hh => by cases dd <;> exact hh) ?_ ?_
          · exact turned_of_ext (Ext.drewN w4 1)
          refine wpPlan_reads ?_
          simp only [pickOps, List.getElem?_cons_succ, List.getElem?_cons_zero]
          repeat (go_big_quiet_step (fail))
          refine wpQuiet_nil ?_
          clear f0 f1 f2
          refine wpPlan_one ?_
          simp only [pickOps, List.getElem?_cons_succ, List.getElem?_cons_zero]
          go_wp2_with fail
          have HPV := Lib.hid (HP.out _ (List.mem_of_getElem? HPK.out))
          refine (aggrOf_any ⟨pt, pv, ps⟩ _ HPV.out.1 HPV.out.2).mono ?_
          rintro e w5 ⟨rfl, hx5⟩
          have HX5 := Lib.hid ((Ext.drewN w4 1).trans hx5)
          clear hx5
          go_wp2_with fail
          refine thenX_mk (turned_of_ext HX5.out) (wpPlan_one ?_)
          simp only [pickOps, List.getElem?_cons_succ, List.getElem?_cons_zero]
          go_wp2_with fail
          have HTM : Hid (timeB pt = true) := Lib.hid (by
            have h1 := HQ.out.2
            rw [List.any_eq_false] at h1
            have h2 := h1 _ (List.mem_of_getElem? HPK.out)
            simpa using h2)
          have HKL : Hid ((l.take k).length = k) := Lib.hid (by rw [List.length_take]; have := HLN.out; omega)
          refine (put_any (HI.out.1.ext (HW4.out.trans HX5.out)) pt (agOf ⟨pt, pv, ps⟩) (64 * (l.take k).length) 1 HV.out HTM.out (gatL_bnd HV.out _ (fun p hp => HP.out p (List.mem_of_mem_take hp))) (agOf_bnd HPV.out.1 HPV.out.2) (by unfold agOf; simp) (by have := HKL.out; omega) (by have := gatL_len (wd := wd) (st := st) (off := off) HV.out (l.take k); have := HKL.out; omega)).mono ?_
          rintro e w6 ⟨rfl, hg6, hc6⟩
          have HG6 : Hid (GatAt w6 g mb wd st off (gatL wd st off (l.take (k + 1)))) := Lib.hid (by
            rw [List.take_add_one, HPK.out]
            show GatAt w6 g mb wd st off (gatL wd st off (l.take k ++ [⟨pt, pv, ps⟩]))
            rw [gatL_snoc]
            exact hg6)
          have HX6 : Hid (Ext w w6) := Lib.hid (((Chg.of_ext (S := fun _ => False) (HI.out.2.trans (HW4.out.trans HX5.out))).trans hc6 (fun i hi e => by have := HMB.out; omega)).ext (fun _ _ e => e))
          clear hg6 hc6
          go_wp2_with fail
          refine thenX_last (wpPlan_one ?_)
          simp only [pickOps, List.getElem?_cons_succ, List.getElem?_cons_zero]
          go_wp2_with fail
          refine thenX_last (wpPlan_done ?_)
          go_wp2_with fail
          refine ⟨⟨k + 1, by omega, by go_num, Lib.hid ⟨HG6.out, HX6.out⟩⟩, ?_⟩
          simp [RowKit.intOf]
          omega
        · have HKN : Hid (l.take k = l) := Lib.hid (by rw [List.take_of_length_le (by have := HLN.out; omega)])
          rw [HKN.out] at HI
          go_wp2_with fail
          refine (buckets_any HI.out.1 HV.out (fun q hq => ?_) (by have := gatL_len (wd := wd) (st := st) (off := off) HV.out l; have := HLN.out; omega)).mono ?_
          · obtain ⟨p, hp, x, hx, e⟩ := gatL_keys l q hq
            have hv := window_nums HV.out
            have h1 := (mem_winL hv.2.2.1 hv.2.2.2.1).1 hx
            have h2 := HQ.out.2
            rw [List.any_eq_false] at h2
            have h3 := time_nums (show timeB p.t = true by simpa using h2 p hp)
            omega
          rintro e w7 ⟨v, rfl, hto⟩
          have HTO := Lib.hid (hto.mono HI.out.2)
          clear hto
          go_wp2_with fail
          go_ret2
          rw [HPOST.out, if_pos HQ.out]
          exact ⟨_, rfl, HTO.out⟩
end Go.Proofs.YtokllgdbmnmieaaGreat

/-! rollup: kind, isTime, Roll where all points lie in the span. -/

namespace Go.Proofs.YtokllgdbmnmieaaGreat
open Go.RowKit Go.Lib Go.Sort

set_option maxHeartbeats 1000000 in
theorem rkind_any (wd off : Int) (w : World) : Calls Tryz.prog 30 #[.agg #[.int .i64 wd, .int .i64 off]] w fun e w' => e = .returned (.agg #[.int .i64 wd, .int .i64 wd, .int .i64 off]) ∧ Ext w w' := by
  go_enter Tryz.func30, Tryz.ntmps30
  go_wp2_with fail
  exact bodyPost_ret (results_box Tryz.results30 _ _ rfl (heap_alloc2 w _ _) Tryz.underlying67 rfl (by kernel_rfl)) rfl ⟨rfl, ((Ext.refl w).alloc _).alloc _⟩

set_option maxHeartbeats 1000000 in
theorem rTime_any (t : Int) (w : World) (h1 : -1152921504606846976 ≤ t) (h2 : t ≤ 1152921504606846976) : Calls Tryz.prog 31 #[.int .i64 t] w fun e w' => e = .returned (.bool true) ∧ w = w' := by
  go_enter Tryz.func31, Tryz.ntmps31
  go_wp2_with fail
  go_ret
  exact ⟨rfl, rfl⟩

set_option maxHeartbeats 8000000 in
set_option maxRecDepth 100000 in
theorem roll_any (w : World) (a : Option Addr) (n c : Nat) (l : List Pt) (wd : Nat) (hi : Int) (hl : Src w 3 (.slice a n c) n (pts l)) (hn : n ≤ 900) (h1 : 1 ≤ wd) (h2 : wd ≤ 64) (hhi : hi = 600 * (wd : Int))
    (hp : ∀ p ∈ l, 0 ≤ p.t ∧ p.t < hi ∧ (-9223372036854775808 ≤ p.v ∧ p.v ≤ 9223372036854775807)) :
    Calls Tryz.prog 9 #[.slice a n c, .int .i64 wd, .int .i64 0, .agg #[.int .i64 0, .int .i64 hi]] w fun e w' => ∃ v, e = .returned (.tuple #[v, .int .i64 0]) ∧ WinsTo w wd (gatL wd wd 0 l) v w' := by
  have HL := Lib.hid hl
  have HLN := Lib.hid (src_len hl)
  have HPV := Lib.hid hp
  have hrem : hi.tmod (wd : Int) = 0 := by rw [hhi]; exact Int.mul_tmod_left _ _
  have hwd0 : ¬ (wd : Int) = 0 := by omega
  have hhi1 : 0 ≤ hi := by omega
  have hhi2 : hi ≤ 38400 := by omega
  have HWD := Lib.hid (And.intro h1 h2)
  clear hl hp hhi h1 h2
  go_enter Tryz.func9, Tryz.ntmps9
  go_wp2_with fail
  refine (rkind_any wd 0 _).mono ?_
  rintro e w1 ⟨rfl, hx1⟩
  have HB0 : Hid (w1.heap[w.heap.size]? = some (.cells #[.int .i64 0, .int .i64 hi] 52 (0, 0))) := Lib.hid (by
    have h0 := heap_alloc_new w (.cells #[.int .i64 0, .int .i64 hi] 52 (0, 0))
    exact ((((Ext.refl _).alloc _).trans hx1).block (block_lt h0)).trans h0)
  have HB1 : Hid (w1.heap[w.heap.size + 1]? = some (.cells #[.int .i64 wd, .int .i64 0] 96 (0, 0))) := Lib.hid (by
    have h0 := heap_alloc2 w (.cells #[.int .i64 0, .int .i64 hi] 52 (0, 0)) (.cells #[.int .i64 wd, .int .i64 0] 96 (0, 0))
    exact (hx1.block (block_lt h0)).trans h0)
  have HX1 := Lib.hid ((((Ext.refl w).alloc _).alloc _).trans hx1)
  clear hx1
  go_wp2_with fail
  refine (windowValid_any wd wd 0 _).mono ?_
  rintro e w2 ⟨rfl, hx2⟩
  have HWN : Hid (windowB (wd : Int) (wd : Int) 0 = true) := Lib.hid (by
    have h0 := HWD.out
    unfold windowB
    simp only [Bool.and_eq_true, decide_eq_true_eq]
    omega)
  rw [HWN.out]
  have HX2 := Lib.hid (HX1.out.trans hx2)
  have HB2 := Lib.hid ((hx2.block (block_lt HB0.out)).trans HB0.out)
  have HB3 := Lib.hid ((hx2.block (block_lt HB1.out)).trans HB1.out)
  clear hx2 HX1 HB0 HB1
  have k0 : w2.cell? ⟨w.heap.size, 0, none⟩ = some (.int .i64 0) := by have := cell_of_block HB2.out 0; simpa using this
  have k1 : w2.cell? ⟨w.heap.size, 1, none⟩ = some (.int .i64 hi) := by have := cell_of_block HB2.out 1; simpa using this
  go_wp2_with fail
  refine (rTime_any 0 _ (by omega) (by omega)).mono ?_
  rintro e w3 ⟨rfl, rfl⟩
  go_wp2_with fail
  refine (rTime_any hi _ (by omega) (by omega)).mono ?_
  rintro e w3 ⟨rfl, rfl⟩
  go_wp2_with fail
  clear k0 k1 hrem
  go_loopw [11, 60] (fun s11 s60 wr => ∃ (k vc : Nat) (va : Option Addr), k ≤ n ∧ s11 = .slice va k vc ∧ s60 = .int .i64 k ∧ Hid (MadeTo w2 37 3 (.slice va k vc) k (pts (l.take k)) wr)) (fun _ i _ => n - (RowKit.intOf i).toNat)
  case atStart => exact ⟨0, 0, none, by omega, rfl, rfl, Lib.hid ⟨Row.nil _ _ _, fun g hg => by simp [Value.ownBlock] at hg, Ext.refl w2⟩⟩
  case round =>
    obtain ⟨k, vc, va, hk, rfl, rfl, HR⟩ := hrel
    by_cases hlt : k < n
    · obtain ⟨b, so, p, rfl, hp, c0, c1, c2⟩ := pts_src (HL.out.ext (HX2.out.trans HR.out.ext)) hlt
      have HPK := Lib.hid hp
      have hpv := HPV.out p (List.mem_of_getElem? hp)
      clear hp
      obtain ⟨pt, pv, ps⟩ := p
      simp only at c0 c1 c2 hpv
      have hp1 := hpv.1
      have hp2 := hpv.2.1
      have hp1' : ¬ pt < 0 := by omega
      clear hpv
      have k0 : ∀ o, (wr.alloc o).cell? ⟨w.heap.size, 0, none⟩ = some (.int .i64 0) := fun o => by have := cell_of_block (((HR.out.ext.alloc o).block (block_lt HB2.out)).trans HB2.out) 0; simpa using this
      have k1 : ∀ o, (wr.alloc o).cell? ⟨w.heap.size, 1, none⟩ = some (.int .i64 hi) := fun o => by have := cell_of_block (((HR.out.ext.alloc o).block (block_lt HB2.out)).trans HB2.out) 1; simpa using this
      go_wp2_with (first | (refine wpList_append_start elem_pt rfl _ _ rfl rfl rfl (Start.row (((HR.out.row).alloc _).alloc _) HR.out.own) ((HR.out.ext.alloc _).alloc _) (src_pt' (p := (⟨pt, pv, ps⟩ : Pt)) (heap_alloc2 wr _ _)) (by omega) (by unfold maxLen; omega) (by omega) ?_; rintro v' w5 ha; obtain ⟨va', vc', rfl⟩ := ha.row.shape; have HA := Lib.hid ha; clear ha))
      refine ⟨⟨k + 1, vc', va', by omega, rfl, by go_num, Lib.hid ?_⟩, ?_⟩
      · rw [List.take_add_one, HPK.out]
        show MadeTo w2 _ 3 _ _ (pts (l.take k ++ [⟨pt, pv, ps⟩])) w5
        rw [pts_append]
        exact HA.out
      · simp [RowKit.intOf]; omega
    · have HKN : Hid (l.take k = l) := Lib.hid (by rw [List.take_of_length_le (by have := HLN.out; omega)])
      rw [HKN.out] at HR
      have hkn : k = n := by omega
      subst hkn
      have HBr := Lib.hid ((HR.out.ext.block (block_lt HB3.out)).trans HB3.out)
      have t0 : wr.cell? ⟨w.heap.size + 1, 0, none⟩ = some (.int .i64 wd) := by have := cell_of_block HBr.out 0; simpa using this
      have t1 : wr.cell? ⟨w.heap.size + 1, 1, none⟩ = some (.int .i64 0) := by have := cell_of_block HBr.out 1; simpa using this
      go_wp2_with fail
      refine (rkind_any wd 0 _).mono ?_
      rintro e w6 ⟨rfl, hx6⟩
      have HX6 := Lib.hid hx6
      clear hx6 t0 t1
      go_wp2_with fail
      refine (windows_any w6 va k vc l wd wd 0 ((HR.out.row.ext HX6.out).src (pts_one l)) (by omega) (fun p hp => (HPV.out p hp).2.2)).mono ?_
      intro e w7 hpost
      unfold winPost at hpost
      rw [if_pos ⟨HWN.out, by
        rw [List.any_eq_false]
        intro p hp
        have h1 := HPV.out p hp
        have : timeB p.t = true := by unfold timeB; simp only [Bool.and_eq_true, decide_eq_true_eq]; omega
        simp [this]⟩] at hpost
      obtain ⟨v, rfl, hto⟩ := hpost
      have HTO := Lib.hid (hto.mono (HX2.out.trans (HR.out.ext.trans HX6.out)))
      clear hto
      go_wp2_with fail
      go_ret2
      exact ⟨_, rfl, HTO.out⟩
end Go.Proofs.YtokllgdbmnmieaaGreat
