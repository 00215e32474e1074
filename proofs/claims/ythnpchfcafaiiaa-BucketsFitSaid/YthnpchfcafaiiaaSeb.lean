/- buckets.Sessions. -/
import Derived.Test.YthnpchfcafaiiaaSes
import Derived.Test.YthnpchfcafaiiaaCut
namespace Go.Proofs.Ythnpchfcafaiiaa
open Go.RowKit Go.Lib Go.Sort

/-- The address of a part of elements of s cells. -/
def cutS (s : Nat) (a : Option Addr) (m l : Nat) : Option Addr := if m = l then a else a.map (·.add (l * s))
theorem run_slice_lohiS {P : Program} {t e : TypeId} {s : Nat} (hu : P.underlying t = some (.slice e)) (hs : ∀ W, (sizeOf e).run P W = .ok s W) (a : Option Addr) (n c l h : Nat) (h1 : l ≤ h) (h2 : h ≤ c) :
    ∀ W, (Instr.slice t (.slice a n c) (some (.int .i64 (l : Int))) (some (.int .i64 (h : Int))) none).run P W = .ok (.slice (cutS s a c l) (h - l) (c - l)) W := fun W => by
  simp [Instr.slice, Instr.sliceBounds, Instr.sliceBound, run_underlying hu, asIntOf, Sem.run_bind, Result.andThen, hs, h1, h2, cutS]
theorem pts_drop (l : List Pt) (k : Nat) : (pts l).drop (k * 3) = pts (l.drop k) := by
  induction k generalizing l with
  | zero => simp
  | succ k ih =>
    cases l with
    | nil => simp [pts]
    | cons p l =>
      rw [show (k + 1) * 3 = k * 3 + 3 by omega]
      simpa [pts, Pt.cells] using ih l
theorem pts_take (l : List Pt) (k : Nat) : (pts l).take (k * 3) = pts (l.take k) := by
  induction k generalizing l with
  | zero => simp [pts]
  | succ k ih =>
    cases l with
    | nil => simp [pts]
    | cons p l =>
      rw [show (k + 1) * 3 = k * 3 + 3 by omega]
      simpa [pts, Pt.cells] using ih l
theorem psrc_cut {w : World} {a : Option Addr} {n c k h : Nat} {l : List Pt} (hs : Src w 3 (.slice a n c) n (pts l)) (h1 : k ≤ h) (h2 : h ≤ n) (h3 : n ≤ c) :
    Src w 3 (.slice (cutS 3 a c k) (h - k) (c - k)) (h - k) (pts ((l.drop k).take (h - k))) := by
  have hln := src_len hs
  rcases hs with ⟨e, rfl, e2⟩ | ⟨ad, c', e, hl, hc, ho⟩
  · simp at e
    obtain ⟨rfl, rfl⟩ := e
    obtain rfl : h = 0 := by omega
    obtain rfl : k = 0 := by omega
    exact .inl ⟨by simp [cutS], by omega, by simp [pts]⟩
  · simp at e
    obtain ⟨rfl, rfl⟩ := e
    refine .inr ⟨if c = k then ad else ad.add (k * 3), c - k, ?_, ?_, fun j u hj => ?_, pts_one _⟩
    · unfold cutS; split <;> rfl
    · rw [pts_len, List.length_take, List.length_drop]; congr 1; omega
    · rw [← pts_take, ← pts_drop, List.getElem?_take] at hj
      split at hj
      · rename_i hlt
        rw [List.getElem?_drop] at hj
        rw [if_neg (by omega), Go.Deep.add_add]
        exact hc _ _ hj
      · cases hj

/-- Where a group lies. -/
def gAt (gs : List (List Pt)) (j : Nat) : Nat := (gs.take j).flatten.length
theorem gAt_succ {gs : List (List Pt)} {j : Nat} {g : List Pt} (h : gs[j]? = some g) : gAt gs (j + 1) = gAt gs j + g.length := by
  unfold gAt
  rw [List.take_add_one, h]
  simp
theorem flat_split {gs : List (List Pt)} {j : Nat} {g : List Pt} (h : gs[j]? = some g) : gs.flatten = (gs.take j).flatten ++ (g ++ (gs.drop (j + 1)).flatten) := by
  obtain ⟨hj, e⟩ := List.getElem?_eq_some_iff.1 h
  conv => lhs; rw [← List.take_append_drop j gs]
  rw [List.flatten_append, List.drop_eq_getElem_cons hj, e, List.flatten_cons]
theorem grp_facts {gap : Int} {l : List Pt} {gs : List (List Pt)} (G : GrpOk gap l gs) (hgap : 1 ≤ gap) {j : Nat} {g : List Pt} (h : gs[j]? = some g) :
    gAt gs j + g.length ≤ l.length ∧ (l.drop (gAt gs j)).take g.length = g ∧ (∀ i p, i < g.length → l[gAt gs j + i]? = some p → p.t < gHi g + gap) ∧ (∀ q, l[gAt gs j + g.length]? = some q → ¬ q.t < gHi g + gap) := by
  have hs := flat_split h
  rw [G.flat] at hs
  have hgm := List.mem_of_getElem? h
  have e1 : gAt gs j = (gs.take j).flatten.length := rfl
  refine ⟨?_, ?_, ?_, ?_⟩
  · rw [e1, hs]; simp
  · rw [e1]
    conv => lhs; rw [hs]
    rw [List.drop_left, List.take_left]
  · intro i p hi hp
    rw [hs, e1, List.getElem?_append_right (by omega), Nat.add_sub_cancel_left, List.getElem?_append_left hi] at hp
    have := G.within g hgm p (List.mem_of_getElem? hp)
    omega
  · intro q hq
    rw [hs, e1, List.getElem?_append_right (by omega), Nat.add_sub_cancel_left, List.getElem?_append_right (by omega), Nat.sub_self] at hq
    cases hd : gs.drop (j + 1) with
    | nil => rw [hd] at hq; simp at hq
    | cons g' r =>
      have hg' : g' ∈ gs := List.mem_of_mem_drop (by rw [hd]; simp : g' ∈ gs.drop (j + 1))
      have hj' : gs[j + 1]? = some g' := by
        have := List.getElem?_drop (xs := gs) (i := j + 1) (j := 0)
        rw [hd] at this
        simpa using this.symm
      have hne := G.some g' hg'
      obtain ⟨i1, e1⟩ := List.getElem?_eq_some_iff.1 h
      obtain ⟨i2, e2⟩ := List.getElem?_eq_some_iff.1 hj'
      have hap := List.pairwise_iff_getElem.1 G.apart j (j + 1) i1 i2 (by omega)
      rw [e1, e2] at hap
      rw [hd] at hq
      cases g' with
      | nil => exact absurd rfl hne
      | cons x g' =>
        simp at hq
        subst hq
        simp [gLo] at hap
        omega

def bsPost (w : World) (gap : Int) (l : List Pt) (e : Ending) (w' : World) : Prop :=
  (sesOk gap (l.map (·.t)) ∧ ∃ v, e = .returned (.tuple #[v, .int .i64 0]) ∧ MadeTo w 50 13 v (sesL gap l).length (bks (sesL gap l)) w') ∨
  (¬ sesOk gap (l.map (·.t)) ∧ e = .returned (.tuple #[.slice none 0 0, .int .i64 2]) ∧ Ext w w')
theorem elem_i : ElemOk Try.prog 68 3 1 8 :=
  ⟨Try.underlying68, by
    obtain ⟨i0, hi, hz0, hz1, hz2⟩ := info_parts (show (Try.prog.info? 3).map (fun i => (i.zero, i.size, i.bytes)) = some (some (.int .i64 0), 1, 8) from by kernel_rfl)
    exact ⟨i0, _, hi, hz0, hz1, hz2, rfl⟩, by decide⟩
theorem src_i {W : World} {b : Nat} {z : Int} {t : TypeId} {fr : Nat × Nat} (h : W.heap[b]? = some (.cells #[.int .i64 z] t fr)) : Src W 1 (.slice (some ⟨b, 0, none⟩) 1 1) 1 [.int .i64 z] := by
  refine .inr ⟨_, _, rfl, rfl, fun j u hj => ?_, by simp [Value.oneCell']⟩
  rw [Go.WideShapes.add_plain, Nat.zero_add, cell_of_block h]
  simpa using hj
theorem size_pt (W : World) : (sizeOf 35).run Try.prog W = .ok 3 W := by kernel_rfl
theorem bk_ag (b : Bk) : bkc b = .int .i64 b.lo :: .int .i64 b.hi :: b.a.cells := rfl

set_option maxHeartbeats 8000000 in
set_option maxRecDepth 100000 in
theorem bsessions_any (w : World) (a : Option Addr) (n c : Nat) (l : List Pt) (gap : Int) (hl : Src w 3 (.slice a n c) n (pts l)) (hn : n ≤ 900) (hc : n ≤ c) (hp : ∀ p ∈ l, -9223372036854775808 ≤ p.v ∧ p.v ≤ 9223372036854775807) :
    Calls Try.prog 7 #[.slice a n c, .int .i64 gap] w (bsPost w gap l) := by
  have HL := Lib.hid hl
  have HLN := Lib.hid (src_len hl)
  have HPV := Lib.hid hp
  clear hl hp
  have HP : Hid (∀ e w', bsPost w gap l e w' = ((sesOk gap (l.map (·.t)) ∧ ∃ v, e = .returned (.tuple #[v, .int .i64 0]) ∧ MadeTo w 50 13 v (sesL gap l).length (bks (sesL gap l)) w') ∨ (¬ sesOk gap (l.map (·.t)) ∧ e = .returned (.tuple #[.slice none 0 0, .int .i64 2]) ∧ Ext w w'))) := Lib.hid (fun _ _ => rfl)
  go_enter Try.func7, Try.ntmps7
  go_wp2_with fail
  go_loopw [6, 20] (fun s6 s20 wr => ∃ (k vc : Nat) (va : Option Addr), k ≤ n ∧ s6 = .slice va k vc ∧ s20 = .int .i64 k ∧ Hid (MadeTo w 3 1 (.slice va k vc) k (zints ((l.take k).map (·.t))) wr)) (fun _ i _ => n - (RowKit.intOf i).toNat)
  case atStart => exact ⟨0, 0, none, by omega, rfl, rfl, Lib.hid ⟨Row.nil _ _ _, fun g hg => by simp [Value.ownBlock] at hg, Ext.refl w⟩⟩
  case round =>
    obtain ⟨k, vc, va, hk, rfl, rfl, HR⟩ := hrel
    by_cases hlt : k < n
    · obtain ⟨b, so, p, rfl, hp, c0, c1, c2⟩ := pts_src (HL.out.ext HR.out.ext) hlt
      have HPK := Lib.hid hp
      clear hp
      obtain ⟨pt, pv, ps⟩ := p
      simp only at c0 c1 c2
      go_wp2_with (first | (refine wpList_append_start elem_i rfl _ _ rfl rfl rfl (Start.row (((HR.out.row).alloc _).alloc _) HR.out.own) ((HR.out.ext.alloc _).alloc _) (src_i (heap_alloc2 wr _ _)) (by omega) (by unfold maxLen; omega) (by omega) ?_; rintro v' w5 ha; obtain ⟨va', vc', rfl⟩ := ha.row.shape; have HA := Lib.hid ha; clear ha))
      refine ⟨⟨k + 1, vc', va', by omega, rfl, by go_num, Lib.hid ?_⟩, ?_⟩
      · rw [List.take_add_one, HPK.out, List.map_append]
        have e : zints (List.map (·.t) (l.take k) ++ List.map (·.t) (some (⟨pt, pv, ps⟩ : Pt)).toList) = zints (List.map (·.t) (l.take k)) ++ [.int .i64 pt] := by simp [zints]
        rw [e]
        exact HA.out
      · simp [RowKit.intOf]; omega
    · have HKN : Hid (l.take k = l) := Lib.hid (by rw [List.take_of_length_le (by have := HLN.out; omega)])
      have hkn : k = n := by omega
      subst hkn
      rw [HKN.out] at HR
      go_wp2_with fail
      refine (sessions_any _ va k vc (l.map (·.t)) gap (HR.out.row.src (zints_one _)) (by omega)).mono ?_
      intro e w4 hpost
      unfold spPost at hpost
      rcases hpost with ⟨hok, v, rfl, hm⟩ | ⟨hno, rfl, hx⟩
      case' inr =>
        have HX := Lib.hid (HR.out.ext.trans hx)
        have HQ := Lib.hid hno
        clear hx hno
        go_wp2_with fail
        go_ret2
        rw [HP.out]
        exact .inr ⟨HQ.out, rfl, HX.out⟩
      case' inl =>
        obtain ⟨sa, sc, rfl⟩ := hm.row.shape
        have HOK := Lib.hid hok
        have HG := Lib.hid (grp_ok hok.1.1 l (by have := hok.2; rw [List.pairwise_map] at this; exact this))
        have hsp := HG.out.spans
        rw [hsp] at hm ⊢
        have HM := Lib.hid (hm.row.src (sps_one _))
        have HX4 := Lib.hid (HR.out.ext.trans hm.ext)
        clear hok hm hsp
        obtain ⟨gs, hgs⟩ : ∃ gs, gs = grp gap l := ⟨_, rfl⟩
        have HSL : Hid (sesL gap l = gs.map (sesBk gap)) := Lib.hid (by rw [hgs]; rfl)
        rw [← hgs] at HG HM ⊢
        have HGS := Lib.hid hgs
        clear hgs
        obtain ⟨m, hm⟩ : ∃ m, m = (gs.map (fun g => (gLo g, gHi g + gap))).length := ⟨_, rfl⟩
        rw [← hm] at HM ⊢
        have HMG : Hid (m = gs.length) := Lib.hid (by rw [hm]; simp)
        have hmk : m ≤ k := by
          have h1 := spL_len gap (l.map (·.t))
          rw [HG.out.spans, ← hm] at h1
          have h2 := HLN.out
          simp at h1
          omega
        clear hm
        go_wp2_with fail
        have HGAP := Lib.hid HOK.out.1.1
        go_loopw [11, 12, 41] (fun s11 s12 s41 wr => ∃ (j vc : Nat) (va : Option Addr), j ≤ m ∧ s11 = .slice va j vc ∧ s12 = .int .i64 (gAt gs j) ∧ s41 = .int .i64 j ∧ Hid (MadeTo w4 50 13 (.slice va j vc) j (bks ((gs.take j).map (sesBk gap))) wr ∧ Ext w4 wr)) (fun _ _ i _ => m - (RowKit.intOf i).toNat)
        case atStart => exact ⟨0, 0, none, by omega, rfl, rfl, rfl, Lib.hid ⟨⟨Row.nil _ _ _, fun g hg => by simp [Value.ownBlock] at hg, Ext.refl _⟩, Ext.refl _⟩⟩
        case round =>
          obtain ⟨j, vd, vb, hj, rfl, rfl, rfl, HI⟩ := hrel
          by_cases hjm : j < m
          · obtain ⟨b, so, p, rfl, hp, c0, c1⟩ := sps_src (HM.out.ext HI.out.2) hjm
            obtain ⟨g, hg, rfl⟩ : ∃ g, gs[j]? = some g ∧ (gLo g, gHi g + gap) = p := by
              rw [List.getElem?_map] at hp
              cases hd : gs[j]? with
              | none => rw [hd] at hp; cases hp
              | some g => rw [hd] at hp; exact ⟨g, rfl, by simpa using hp⟩
            simp only at c0 c1
            have HGJ := Lib.hid hg
            have HF := Lib.hid (grp_facts HG.out HGAP.out hg)
            obtain ⟨lo, hlo⟩ : ∃ x, x = gLo g := ⟨_, rfl⟩
            obtain ⟨hi, hhi⟩ : ∃ x, x = gHi g + gap := ⟨_, rfl⟩
            obtain ⟨at0, hat⟩ : ∃ x, x = gAt gs j := ⟨_, rfl⟩
            obtain ⟨gl, hgl⟩ : ∃ x, x = g.length := ⟨_, rfl⟩
            rw [← hhi, ← hat, ← hgl] at HF
            rw [← hlo] at c0
            rw [← hhi] at c1
            rw [← hat]
            have HE := Lib.hid (And.intro hlo (And.intro hhi (And.intro hat hgl)))
            have hbd : at0 + gl ≤ k := by have h1 := HF.out.1; rw [HLN.out] at h1; exact h1
            have HSLC : Hid (∀ W, (Instr.slice 22 (.slice a k c) (some (.int .i64 (at0 : Int))) (some (.int .i64 ((at0 + gl : Nat) : Int))) none).run Try.prog W = .ok (.slice (cutS 3 a c at0) (at0 + gl - at0) (c - at0)) W) := Lib.hid (run_slice_lohiS (P := Try.prog) Try.underlying22 size_pt a k c at0 (at0 + gl) (by omega) (by omega))
            have HSRC : Hid (Src w 3 (.slice (cutS 3 a c at0) (at0 + gl - at0) (c - at0)) (at0 + gl - at0) (pts g)) := Lib.hid (by
              have h1 := psrc_cut (k := at0) (h := at0 + gl) HL.out (by omega) (by omega) hc
              rw [Nat.add_sub_cancel_left, HF.out.2.1, ← Nat.add_sub_cancel_left (n := at0) (m := gl)] at h1
              exact h1)
            have HALL : Hid (∀ W, Ext w W → Calls Try.prog 23 #[.slice (cutS 3 a c at0) (at0 + gl - at0) (c - at0)] W fun e w' => e = .returned (.tuple #[(agA g).val, .int .i64 0]) ∧ Ext W w') := Lib.hid (fun W hx => aggrAll_any W _ _ _ g (HSRC.out.ext hx) (by omega) (fun p hp => HPV.out p (by
              have h1 := HF.out.2.1
              rw [← h1] at hp
              exact List.mem_of_mem_drop (List.mem_of_mem_take hp))))
            obtain ⟨q, hq⟩ : ∃ q, q = agA g := ⟨_, rfl⟩
            rw [← hq] at HALL
            unfold Ag.val at HALL
            have HQ := Lib.hid hq
            clear hp hg hlo hhi hat hgl hq HSRC
            go_wp2_with fail
            clear c0 c1
            obtain ⟨bx, hbx⟩ : ∃ bx, bx = wr.heap.size := ⟨_, rfl⟩
            have HB5 : Hid ((wr.alloc (.cells #[.int .i64 lo, .int .i64 hi] 72 (0, 0))).heap[bx]? = some (.cells #[.int .i64 lo, .int .i64 hi] 72 (0, 0))) := Lib.hid (by rw [hbx]; exact heap_alloc_new wr _)
            have HX5 : Hid (Ext wr (wr.alloc (.cells #[.int .i64 lo, .int .i64 hi] 72 (0, 0)))) := Lib.hid ((Ext.refl wr).alloc _)
            rw [← hbx]
            clear hbx
            generalize wr.alloc (.cells #[.int .i64 lo, .int .i64 hi] 72 (0, 0)) = w5 at *
            go_loopw [15] (fun s15 wz => ∃ e : Nat, at0 ≤ e ∧ e ≤ at0 + gl ∧ s15 = .int .i64 e ∧ Hid (Ext w5 wz)) (fun i _ => at0 + gl - (RowKit.intOf i).toNat)
            case atStart => exact ⟨at0, by omega, by omega, rfl, Lib.hid (Ext.refl _)⟩
            case round =>
              obtain ⟨e, he1, he2, rfl, HZ⟩ := hrel
              have d1 : wr.cell? ⟨bx, 1, none⟩ = some (.int .i64 hi) := by have := cell_of_block ((HZ.out.block (block_lt HB5.out)).trans HB5.out) 1; simpa using this
              have HXZ := Lib.hid (HX4.out.trans (HI.out.2.trans (HX5.out.trans HZ.out)))
              by_cases hel : e < at0 + gl
              · have hek : e < k := by omega
                obtain ⟨pb, po, p, rfl, hp, q0, q1, q2⟩ := pts_src (HL.out.ext HXZ.out) hek
                have hlt2 : p.t < hi := HF.out.2.2.1 (e - at0) p (by omega) (by rw [show at0 + (e - at0) = e by omega]; exact hp)
                have hd0 : decide ((e : Int) < (k : Int)) = true := by simp; omega
                have hd1 : decide (p.t < hi) = true := by simp; omega
                clear q1 q2 hp
                go_wp2_with fail
                refine wp_region_split_lit [] [0, 1, 2, 3, 4, 5, 6, 7, 8, 9, 10, 11, 12, 13] [] (by kernel_rfl) (by kernel_rfl) (fun _ _ dd _ _ hh => by cases dd <;> exact hh) ?_
                simp only [pickOps, List.getElem?_cons_succ, List.getElem?_cons_zero]
                refine wpQuiet_nil ?_
                repeat (go_big_quiet_step (fail))
                refine wpQuiet_nil ?_
                intro w7 hw'
                have HX7 : Hid (Ext w5 w7) := Lib.hid (by obtain ⟨k, rfl⟩ := hw'; exact HZ.out.trans (Ext.drewN _ _))
                clear hw'
                go_wp2_with fail
                exact ⟨⟨e + 1, by omega, by omega, by go_num, HX7⟩, by simp [RowKit.intOf]; omega⟩
              · obtain rfl : e = at0 + gl := by omega
                rcases Nat.lt_or_ge (at0 + gl) k with hek | hek
                case' inl =>
                  obtain ⟨pb, po, p, rfl, hp, q0, q1, q2⟩ := pts_src (HL.out.ext HXZ.out) hek
                  have hlt2 : ¬ p.t < hi := by have := HF.out.2.2.2 p hp; omega
                  have hd0 : decide (((at0 + gl : Nat) : Int) < (k : Int)) = true := by simp; omega
                  have hd1 : decide (p.t < hi) = false := by simp; omega
                  clear q1 q2 hp
                  obtain ⟨en, hen⟩ : ∃ en, en = at0 + gl := ⟨_, rfl⟩
                  rw [← hen] at q0 hd0 hek HF hbd he1 hel HSLC HALL ⊢
                  have HEN := Lib.hid hen
                  clear hen he2
                  go_wp2_with fail
                case' inr =>
                  have hd0 : decide (((at0 + gl : Nat) : Int) < (k : Int)) = false := by simp; omega
                  obtain ⟨en, hen⟩ : ∃ en, en = at0 + gl := ⟨_, rfl⟩
                  rw [← hen] at hd0 hek HF hbd he1 hel HSLC HALL ⊢
                  have HEN := Lib.hid hen
                  have hek' := Lib.hid hek
                  have hbd' := Lib.hid hbd
                  have hek2 : ¬ en < k := by omega
                  clear hen he2 hek hbd hel hd0
                  go_wp2_with fail
                all_goals
                  refine wp_region_split_lit [] [0, 1, 2, 3, 4, 5, 6, 7, 8, 9, 10, 11, 12, 13] [] (by kernel_rfl) (by kernel_rfl) (fun _ _ dd _ _ hh => by cases dd <;> exact hh) ?_
                  simp only [pickOps, List.getElem?_cons_succ, List.getElem?_cons_zero]
                  refine wpQuiet_nil ?_
                  repeat (go_big_quiet_step (fail))
                  refine wpQuiet_nil ?_
                  intro w7 hw'
                  have HX7 : Hid (Ext w5 w7) := Lib.hid (by obtain ⟨k, rfl⟩ := hw'; exact HZ.out.trans (Ext.drewN _ _))
                  clear hw' d1
                  have hsl := HSLC.out
                  go_wp2_with fail
                  refine (HALL.out _ (HX4.out.trans (HI.out.2.trans (HX5.out.trans HX7.out)))).mono ?_
                  rintro e8 w8 ⟨rfl, hx8⟩
                  have HX8 := Lib.hid (HX7.out.trans hx8)
                  clear hx8 hsl
                  have HB8 := Lib.hid ((HX8.out.block (block_lt HB5.out)).trans HB5.out)
                  have HMD := Lib.hid (HI.out.1.row.ext (HX5.out.trans HX8.out))
                  have HEX := Lib.hid (HI.out.2.trans (HX5.out.trans HX8.out))
                  have k0 : ∀ o, (w8.alloc o).cell? ⟨bx, 0, none⟩ = some (.int .i64 lo) := fun o => by have := cell_of_block ((((Ext.refl w8).alloc o).block (block_lt HB8.out)).trans HB8.out) 0; simpa using this
                  have k1 : ∀ o, (w8.alloc o).cell? ⟨bx, 1, none⟩ = some (.int .i64 hi) := fun o => by have := cell_of_block ((((Ext.refl w8).alloc o).block (block_lt HB8.out)).trans HB8.out) 1; simpa using this
                  go_wp2_with (first | (refine wpList_append_start elem_bk rfl _ _ rfl rfl rfl (Start.row ((HMD.out.alloc _).alloc _) HI.out.1.own) ((HEX.out.alloc _).alloc _) (enc_one (p := (⟨lo, hi, q⟩ : Bk)) (enc := bkc) (heap_alloc2 w8 _ _) rfl rfl (bkc_one _)) (by omega) (by unfold maxLen; omega) (by omega) ?_; rintro v' w9 ha; obtain ⟨va', vc', rfl⟩ := ha.row.shape; have HA := Lib.hid ha; clear ha))
                  have hgt : gAt gs (j + 1) = en := by rw [gAt_succ HGJ.out, HEN.out, HE.out.2.2.1, HE.out.2.2.2]
                  refine ⟨⟨j + 1, vc', va', by omega, rfl, by rw [hgt], by go_num, Lib.hid ⟨?_, HA.out.ext⟩⟩, ?_⟩
                  · rw [List.take_add_one, HGJ.out, List.map_append, bks_append]
                    have e : bks (List.map (sesBk gap) (some g).toList) = List.flatMap bkc [{ lo := lo, hi := hi, a := q }] := by
                      rw [HE.out.1, HE.out.2.1, HQ.out]; rfl
                    rw [e]
                    exact HA.out
                  · simp [RowKit.intOf]; omega
          · have hjn : j = m := by omega
            go_wp2_with fail
            go_ret2
            rw [HP.out]
            refine .inl ⟨HOK.out, _, rfl, ?_⟩
            have h1 := HI.out.1
            rw [HSL.out]
            rw [List.take_of_length_le (by have := HMG.out; omega)] at h1
            rw [List.length_map, ← HMG.out, ← hjn]
            exact ⟨h1.row, fun x hx => Nat.le_trans HX4.out.size (h1.own x hx), HX4.out.trans h1.ext⟩
end Go.Proofs.Ythnpchfcafaiiaa
