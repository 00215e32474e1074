/- Telling a query: Text. -/
import Derived.Test.YtfndeocebpoeeaaDoorQbx
import Derived.Test.YtfndeocebpoeeaaDoorBox
namespace Go.Proofs.YtfndeocebpoeeaaDoor
open Go.RowKit Go.Sort Go.Lib

def textQ (q : Qy) : ByteArray := if q.ok = true then q.text else ⟨#[]⟩
def errT (q : Qy) : Int := if q.ok = true then 0 else 23
def I64 (z : Int) : Prop := -9223372036854775808 ≤ z ∧ z ≤ 9223372036854775807
theorem i64_nil : ∀ z ∈ ([] : List Int), I64 z := fun z h => by simp at h
theorem i64_cons {a : Int} {l : List Int} (h : I64 a) (t : ∀ z ∈ l, I64 z) : ∀ z ∈ a :: l, I64 z := fun z hz => by
  rcases List.mem_cons.1 hz with e | e
  · rw [e]; exact h
  · exact t z e
theorem ok_nums {op fn : Int} {ser oth : ByteArray} {fr tt wd st off gap tol fill : Int} (h : Qy.ok ⟨op, fn, ser, oth, fr, tt, wd, st, off, gap, tol, fill⟩ = true) :
    I64 fr ∧ I64 tt ∧ (op = 1 → I64 wd ∧ I64 st ∧ I64 off) ∧ (op = 2 → I64 gap) ∧ (op = 3 → I64 tol) := by
  simp only [Qy.ok, checkB, Bool.and_eq_true] at h
  obtain ⟨⟨⟨⟨h1, -⟩, h3⟩, h4⟩, -⟩ := h
  have b1 : -1152921504606846976 ≤ fr ∧ fr ≤ 1152921504606846976 := by simpa [withinB] using h3
  have b2 : fr ≤ tt ∧ tt ≤ 1152921504606846976 := by simpa [withinB] using h4
  unfold I64
  refine ⟨by omega, by omega, fun e => ?_, fun e => ?_, fun e => ?_⟩
  · subst e
    rw [fitsB, if_pos rfl] at h1
    simp only [Bool.and_eq_true] at h1
    have := win_bounds h1.1.1.2
    omega
  · subst e
    rw [fitsB, if_neg (by decide), if_pos rfl] at h1
    simp only [Bool.and_eq_true] at h1
    have : 1 ≤ gap ∧ gap ≤ 1152921504606846976 := by simpa [withinB] using h1.2
    omega
  · subst e
    rw [fitsB, if_neg (by decide), if_neg (by decide), if_pos rfl] at h1
    simp only [Bool.and_eq_true] at h1
    have : 0 ≤ tol ∧ tol ≤ 1152921504606846976 := by simpa [withinB] using h1.2
    omega

set_option maxHeartbeats 16000000 in
set_option maxRecDepth 100000 in
theorem text_any {w : World} (q : Qy) (hl : HasLib w) (hs1 : q.ser.size ≤ maxLen) (hs2 : q.oth.size ≤ maxLen) :
    Calls Tryd.prog 4 #[q.v] w fun e w' => e = .returned (.tuple #[.string (textQ q), .int .i64 (errT q)]) ∧ Ext w w' := by
  have HL := Lib.hid hl
  obtain ⟨Q, hQ⟩ : ∃ Q, Q = q := ⟨_, rfl⟩
  rw [show (fun (e : Ending) (w' : World) => e = .returned (.tuple #[.string (textQ q), .int .i64 (errT q)]) ∧ Ext w w') = (fun e w' => e = .returned (.tuple #[.string (textQ Q), .int .i64 (errT Q)]) ∧ Ext w w') by rw [hQ]]
  obtain ⟨op, fn, ser, oth, fr, tt, wd, st, off, gap, tol, fill⟩ := q
  simp only at hs1 hs2
  have HS := Lib.hid (And.intro hs1 hs2)
  have HQ := Lib.hid hQ
  clear hl hs1 hs2 hQ
  unfold Qy.v qV
  simp only
  go_enter Tryd.func4, Tryd.ntmps4
  go_wp2_with fail
  obtain ⟨qb, hqb⟩ : ∃ qb, qb = w.heap.size := ⟨_, rfl⟩
  rw [← hqb]
  generalize hW : World.alloc _ _ = w1
  have HQ1 : Hid (QAt w1 qb ⟨op, fn, ser, oth, fr, tt, wd, st, off, gap, tol, fill⟩) := Lib.hid (by rw [← hW, hqb]; exact heap_alloc_new w _)
  have HX1 : Hid (Ext w w1) := Lib.hid (by rw [← hW]; exact (Ext.refl _).alloc _)
  have HGE : Hid (w.heap.size ≤ qb) := Lib.hid (by omega)
  clear hW hqb
  refine (check_any _ _ _ _ _ _ _ _ _ _ _ _ HS.out.1 HS.out.2 w1).mono ?_
  rintro e w2 ⟨rfl, hx2⟩
  have HQ2 := Lib.hid (HQ1.out.ext hx2)
  have HX2 := Lib.hid (HX1.out.trans hx2)
  clear HQ1 HX1 hx2
  cases hk : Qy.ok ⟨op, fn, ser, oth, fr, tt, wd, st, off, gap, tol, fill⟩ with
  | false =>
    have HK : Hid (textQ Q = ⟨#[]⟩ ∧ errT Q = 23) := Lib.hid (by rw [HQ.out]; unfold textQ errT; rw [hk]; exact ⟨rfl, rfl⟩)
    unfold Qy.ok at hk
    simp only at hk
    rw [hk, if_neg (by simp)]
    clear hk
    go_wp2_with fail
    go_ret2
    exact ⟨by rw [HK.out.1, HK.out.2]; rfl, HX2.out⟩
  | true =>
    have HNUM := Lib.hid (ok_nums hk)
    have HOKW := Lib.hid (ok_words hk)
    have HK : Hid (textQ Q = Q.text ∧ errT Q = 0) := Lib.hid (by rw [HQ.out]; unfold textQ errT; rw [hk]; exact ⟨rfl, rfl⟩)
    have HOK := Lib.hid hk
    unfold Qy.ok at hk
    simp only at hk
    rw [hk, if_pos rfl]
    clear hk
    go_upto_region 6 with fail
    obtain ⟨lb, hlb⟩ : ∃ lb, lb = w2.heap.size := ⟨_, rfl⟩
    rw [← hlb]
    generalize hW : World.alloc _ _ = w3
    have hx3 : Ext w2 w3 := by rw [← hW]; exact (Ext.refl _).alloc _
    have H3 : Hid (LsAt w w3 lb (· = qb) []) := Lib.hid ⟨⟨_, by rw [← hW, hlb]; exact heap_alloc_new w2 _, Row.nil _ _ _, fun g hg => by simp [Value.ownBlock] at hg⟩, by rw [hlb]; exact HX2.out.size, HX2.out.trans hx3⟩
    have HQ3 := Lib.hid (HQ2.out.ext hx3)
    have HQL : Hid (qb ≠ lb) := Lib.hid (by have := block_lt HQ2.out; omega)
    clear hW hx3 hlb HQ2 HX2
    have e0 := cell_of_block HQ3.out 0
    simp only [List.getElem?_toArray, List.getElem?_cons_succ, List.getElem?_cons_zero] at e0
    go_upto_block 0 with fail
    clear e0
    go_cut [27] (fun s27 wx => ∃ x, s27 = .bool x ∧ Hid (LsAt w wx lb (· = qb) (Qy.words ⟨op, fn, ser, oth, fr, tt, wd, st, off, gap, tol, fill⟩)))
    case first =>
      rcases Classical.em (op = 1) with h1 | h1
      · subst h1
        have HWD : Hid (Qy.words ⟨1, fn, ser, oth, fr, tt, wd, st, off, gap, tol, fill⟩ = ((([] ++ [kWin, wordIn fnS fn, ser]) ++ List.map num [fr, tt, wd, st, off]) ++ [wordIn fillS fill])) := Lib.hid (by simp [Qy.words])
        obtain ⟨v3, hb, hrow, hown⟩ := H3.out.ex
        have HB := Lib.hid hb
        have HROW := Lib.hid hrow
        have HOWN := Lib.hid hown
        have cl := cell_of_block hb 0
        simp only [List.getElem?_toArray, List.getElem?_cons_succ, List.getElem?_cons_zero] at cl
        clear hb hrow hown
        have c1 := cell_of_block HQ3.out 1
        have c2 := cell_of_block HQ3.out 2
        simp only [List.getElem?_toArray, List.getElem?_cons_succ, List.getElem?_cons_zero] at c1 c2
        have fl := cell_turned (T := fun _ => false) cl rfl
        have f1 := cell_turned (T := fun _ => false) c1 rfl
        have f2 := cell_turned (T := fun _ => false) c2 rfl
        clear cl c1 c2
        go_wp2_with fail
        refine wp_region_plan 8 (fun w' => ∃ z : Turned, w' = turned w3 (fun _ => false) z.d z.f z.os) (.reads [0, 2, 3, 5, 6] (.one 1 (.one 4 (.one 7 (.one 8 (.one 9 .done)))))) (by kernel_rfl) (by kernel_rfl) (fun _ _ dd _ _ hh => by cases dd <;> exact hh) ?_ ?_
        · exact turned_of_ext (Ext.drewN w3 1)
        refine wpPlan_reads ?_
        simp only [pickOps, List.getElem?_cons_succ, List.getElem?_cons_zero]
        repeat (go_big_quiet_step (fail))
        refine wpQuiet_nil ?_
        clear fl f1 f2
        refine wpPlan_one ?_
        simp only [pickOps, List.getElem?_cons_succ, List.getElem?_cons_zero]
        go_wp2_with fail
        refine (fns_any _).mono ?_
        rintro e m1 ⟨mb, rfl, hwd, hx, -⟩
        have HWM := Lib.hid hwd
        have HX1 := Lib.hid ((Ext.drewN w3 1).trans hx)
        clear hwd hx
        go_wp2_with fail
        refine thenX_mk (turned_of_ext HX1.out) (wpPlan_one ?_)
        simp only [pickOps, List.getElem?_cons_succ, List.getElem?_cons_zero]
        go_wp2_with fail
        refine (wordOf_any HWM.out fnS_once fn).mono ?_
        rintro e m2 ⟨rfl, hx⟩
        have HX2 := Lib.hid (HX1.out.trans hx)
        clear hx HX1 HWM
        go_wp2_with fail
        refine thenX_mk (turned_of_ext HX2.out) (wpPlan_one ?_)
        simp only [pickOps, List.getElem?_cons_succ, List.getElem?_cons_zero]
        go_wp2_with fail
        refine thenX_mk (turned_of_ext (HX2.out.trans ((Ext.refl m2).alloc _))) (wpPlan_one ?_)
        simp only [pickOps, List.getElem?_cons_succ, List.getElem?_cons_zero]
        generalize hm3 : World.alloc m2 _ = m3
        have HX3 : Hid (Ext w3 m3) := Lib.hid (by rw [← hm3]; exact HX2.out.trans ((Ext.refl m2).alloc _))
        have HS3 : Hid (Src m3 1 (.slice (some ⟨m2.heap.size, 0, none⟩) 3 3) 3 (strs [⟨#[119, 105, 110, 100, 111, 119]⟩, wordIn fnS fn, ser])) := Lib.hid (by rw [← hm3]; exact src_blk (L := [⟨#[119, 105, 110, 100, 111, 119]⟩, wordIn fnS fn, ser]) (heap_alloc_new m2 _))
        clear hm3
        go_wp2_with (first | (refine wpList_append_to (n := 0) (m := 3) elem_str rfl _ _ rfl (v := v3) rfl rfl (HROW.out.ext HX3.out) HS3.out (by unfold maxLen; omega) (by omega) ?_; intro v5 w5 happ; obtain ⟨a5, c5, rfl⟩ := happ.row.shape; have HAP := Lib.hid happ; have hbl := H3.out.stay HB.out HX3.out happ; have dl := cell_of_block hbl 0; have zl := free_of_block hbl 0; simp only [List.getElem?_toArray, List.getElem?_cons_succ, List.getElem?_cons_zero] at dl; clear happ hbl))
        refine thenX_last (wpPlan_one ?_)
        simp only [pickOps, List.getElem?_cons_succ, List.getElem?_cons_zero]
        go_wp2_with fail
        refine thenX_last (wpPlan_done ?_)
        clear dl zl
        obtain ⟨hput, hpc⟩ := H3.out.put (M := [⟨#[119, 105, 110, 100, 111, 119]⟩, wordIn fnS fn, ser]) HB.out HX3.out (fun g hg => Nat.lt_of_lt_of_le (by rw [show g = qb from hg]; exact block_lt HQ3.out) (Ext.size HX3.out)) HAP.out
        generalize World.setCell w5 _ _ = w6 at *
        have HQ6 := Lib.hid (HQ3.out.chg hpc (fun e => by
          rcases e with e | e
          · exact HQL.out e
          · exact (HOWN.out qb e).2.2 rfl))
        have H6 := Lib.hid hput
        clear hput hpc HB HROW HOWN HAP
        clear HX2 HX3 HS3
        have c4 := cell_of_block HQ6.out 4
        have c5 := cell_of_block HQ6.out 5
        have c6 := cell_of_block HQ6.out 6
        have c7 := cell_of_block HQ6.out 7
        have c8 := cell_of_block HQ6.out 8
        simp only [List.getElem?_toArray, List.getElem?_cons_succ, List.getElem?_cons_zero] at c4 c5 c6 c7 c8
        go_wp2_with fail
        clear c4 c5 c6 c7 c8
        refine (addn_any (N := fun g => g = qb ∨ g = w6.heap.size) (zs := [fr, tt, wd, st, off]) (nc := 5) (H6.out.also ((Ext.refl w6).alloc _) w6.heap.size (Nat.le_refl _)) (.inr rfl) (fun g hg => by have := block_lt HQ6.out; simp; omega) HL.out (src_ints (L := [fr, tt, wd, st, off]) (heap_alloc_new w6 _)) (by simp) (by obtain ⟨v, hb, -⟩ := H6.out.ex; have := block_lt hb; omega) (i64_cons (HNUM.out.1) (i64_cons (HNUM.out.2.1) (i64_cons ((HNUM.out.2.2.1 (by first | rfl | trivial)).1) (i64_cons ((HNUM.out.2.2.1 (by first | rfl | trivial)).2.1) (i64_cons ((HNUM.out.2.2.1 (by first | rfl | trivial)).2.2) (i64_nil)))))) (by simp)).mono ?_
        rintro e w7 ⟨rfl, h8, hk8⟩
        have H7 := Lib.hid (h8.weak (N' := (· = qb)) (fun g e => .inl e))
        have HQ7 : Hid (QAt w7 qb _) := Lib.hid ((hk8 qb (.inl rfl) HQL.out).trans (HQ6.out.ext ((Ext.refl w6).alloc _)))
        clear h8 hk8
        obtain ⟨v7, hb, hrow, hown⟩ := H7.out.ex
        have HB := Lib.hid hb
        have HROW := Lib.hid hrow
        have HOWN := Lib.hid hown
        have cl := cell_of_block hb 0
        simp only [List.getElem?_toArray, List.getElem?_cons_succ, List.getElem?_cons_zero] at cl
        clear hb hrow hown
        have c11 := cell_of_block HQ7.out 11
        simp only [List.getElem?_toArray, List.getElem?_cons_succ, List.getElem?_cons_zero] at c11
        have fl := cell_turned (T := fun _ => false) cl rfl
        have f11 := cell_turned (T := fun _ => false) c11 rfl
        clear cl c11
        go_wp2_with fail
        refine wp_region_plan 6 (fun w' => ∃ z : Turned, w' = turned w7 (fun _ => false) z.d z.f z.os) (.reads [0, 2, 3] (.one 1 (.one 4 (.one 5 (.one 6 (.one 7 .done)))))) (by kernel_rfl) (by kernel_rfl) (fun _ _ dd _ _ hh => by cases dd <;> exact hh) ?_ ?_
        · exact turned_of_ext (Ext.drewN w7 1)
        refine wpPlan_reads ?_
        simp only [pickOps, List.getElem?_cons_succ, List.getElem?_cons_zero]
        repeat (go_big_quiet_step (fail))
        refine wpQuiet_nil ?_
        clear fl f11
        refine wpPlan_one ?_
        simp only [pickOps, List.getElem?_cons_succ, List.getElem?_cons_zero]
        go_wp2_with fail
        refine (fills_any _).mono ?_
        rintro e m1 ⟨mb, rfl, hwd, hx, -⟩
        have HWM := Lib.hid hwd
        have HX1 := Lib.hid ((Ext.drewN w7 1).trans hx)
        clear hwd hx
        go_wp2_with fail
        refine thenX_mk (turned_of_ext HX1.out) (wpPlan_one ?_)
        simp only [pickOps, List.getElem?_cons_succ, List.getElem?_cons_zero]
        go_wp2_with fail
        refine (wordOf_any HWM.out fillS_once fill).mono ?_
        rintro e m2 ⟨rfl, hx⟩
        have HX2 := Lib.hid (HX1.out.trans hx)
        clear hx HX1 HWM
        go_wp2_with fail
        refine thenX_mk (turned_of_ext HX2.out) (wpPlan_one ?_)
        simp only [pickOps, List.getElem?_cons_succ, List.getElem?_cons_zero]
        go_wp2_with fail
        refine thenX_mk (turned_of_ext (HX2.out.trans ((Ext.refl m2).alloc _))) (wpPlan_one ?_)
        simp only [pickOps, List.getElem?_cons_succ, List.getElem?_cons_zero]
        generalize hm3 : World.alloc m2 _ = m3
        have HX3 : Hid (Ext w7 m3) := Lib.hid (by rw [← hm3]; exact HX2.out.trans ((Ext.refl m2).alloc _))
        have HS3 : Hid (Src m3 1 (.slice (some ⟨m2.heap.size, 0, none⟩) 1 1) 1 (strs [wordIn fillS fill])) := Lib.hid (by rw [← hm3]; exact src_blk (L := [wordIn fillS fill]) (heap_alloc_new m2 _))
        clear hm3
        go_wp2_with (first | (refine wpList_append_to (n := 8) (m := 1) elem_str rfl _ _ rfl (v := v7) rfl rfl (HROW.out.ext HX3.out) HS3.out (by unfold maxLen; omega) (by omega) ?_; intro v5 w5 happ; obtain ⟨a5, c5, rfl⟩ := happ.row.shape; have HAP := Lib.hid happ; have hbl := H7.out.stay HB.out HX3.out happ; have dl := cell_of_block hbl 0; have zl := free_of_block hbl 0; simp only [List.getElem?_toArray, List.getElem?_cons_succ, List.getElem?_cons_zero] at dl; clear happ hbl))
        refine thenX_last (wpPlan_one ?_)
        simp only [pickOps, List.getElem?_cons_succ, List.getElem?_cons_zero]
        go_wp2_with fail
        refine thenX_last (wpPlan_done ?_)
        clear dl zl
        obtain ⟨hput, hpc⟩ := H7.out.put (M := [wordIn fillS fill]) HB.out HX3.out (fun g hg => Nat.lt_of_lt_of_le (by rw [show g = qb from hg]; exact block_lt HQ7.out) (Ext.size HX3.out)) HAP.out
        generalize World.setCell w5 _ _ = w10 at *
        have HQ10 := Lib.hid (HQ7.out.chg hpc (fun e => by
          rcases e with e | e
          · exact HQL.out e
          · exact (HOWN.out qb e).2.2 rfl))
        have H10 := Lib.hid hput
        clear hput hpc HB HROW HOWN HAP
        clear HX2 HX3 HS3
        go_wp2_with fail
        go_meet
        case rel => exact ⟨_, rfl, Lib.hid (by rw [HWD.out]; exact H10.out)⟩
      · rcases Classical.em (op = 2) with h2 | h2
        · as_aux_lemma =>
          subst h2
          have HWD : Hid (Qy.words ⟨2, fn, ser, oth, fr, tt, wd, st, off, gap, tol, fill⟩ = (([] ++ [kSes, wordIn fnS fn, ser]) ++ List.map num [fr, tt, gap])) := Lib.hid (by simp [Qy.words])
          obtain ⟨v3, hb, hrow, hown⟩ := H3.out.ex
          have HB := Lib.hid hb
          have HROW := Lib.hid hrow
          have HOWN := Lib.hid hown
          have cl := cell_of_block hb 0
          simp only [List.getElem?_toArray, List.getElem?_cons_succ, List.getElem?_cons_zero] at cl
          clear hb hrow hown
          have c1 := cell_of_block HQ3.out 1
          have c2 := cell_of_block HQ3.out 2
          simp only [List.getElem?_toArray, List.getElem?_cons_succ, List.getElem?_cons_zero] at c1 c2
          have fl := cell_turned (T := fun _ => false) cl rfl
          have f1 := cell_turned (T := fun _ => false) c1 rfl
          have f2 := cell_turned (T := fun _ => false) c2 rfl
          clear cl c1 c2
          go_wp2_with fail
          refine wp_region_plan 8 (fun w' => ∃ z : Turned, w' = turned w3 (fun _ => false) z.d z.f z.os) (.reads [0, 2, 3, 5, 6] (.one 1 (.one 4 (.one 7 (.one 8 (.one 9 .done)))))) (by kernel_rfl) (by kernel_rfl) (fun _ _ dd _ _ hh => by cases dd <;> exact hh) ?_ ?_
          · exact turned_of_ext (Ext.drewN w3 1)
          refine wpPlan_reads ?_
          simp only [pickOps, List.getElem?_cons_succ, List.getElem?_cons_zero]
          repeat (go_big_quiet_step (fail))
          refine wpQuiet_nil ?_
          clear fl f1 f2
          refine wpPlan_one ?_
          simp only [pickOps, List.getElem?_cons_succ, List.getElem?_cons_zero]
          go_wp2_with fail
          refine (fns_any _).mono ?_
          rintro e m1 ⟨mb, rfl, hwd, hx, -⟩
          have HWM := Lib.hid hwd
          have HX1 := Lib.hid ((Ext.drewN w3 1).trans hx)
          clear hwd hx
          go_wp2_with fail
          refine thenX_mk (turned_of_ext HX1.out) (wpPlan_one ?_)
          simp only [pickOps, List.getElem?_cons_succ, List.getElem?_cons_zero]
          go_wp2_with fail
          refine (wordOf_any HWM.out fnS_once fn).mono ?_
          rintro e m2 ⟨rfl, hx⟩
          have HX2 := Lib.hid (HX1.out.trans hx)
          clear hx HX1 HWM
          go_wp2_with fail
          refine thenX_mk (turned_of_ext HX2.out) (wpPlan_one ?_)
          simp only [pickOps, List.getElem?_cons_succ, List.getElem?_cons_zero]
          go_wp2_with fail
          refine thenX_mk (turned_of_ext (HX2.out.trans ((Ext.refl m2).alloc _))) (wpPlan_one ?_)
          simp only [pickOps, List.getElem?_cons_succ, List.getElem?_cons_zero]
          generalize hm3 : World.alloc m2 _ = m3
          have HX3 : Hid (Ext w3 m3) := Lib.hid (by rw [← hm3]; exact HX2.out.trans ((Ext.refl m2).alloc _))
          have HS3 : Hid (Src m3 1 (.slice (some ⟨m2.heap.size, 0, none⟩) 3 3) 3 (strs [⟨#[115, 101, 115, 115, 105, 111, 110]⟩, wordIn fnS fn, ser])) := Lib.hid (by rw [← hm3]; exact src_blk (L := [⟨#[115, 101, 115, 115, 105, 111, 110]⟩, wordIn fnS fn, ser]) (heap_alloc_new m2 _))
          clear hm3
          go_wp2_with (first | (refine wpList_append_to (n := 0) (m := 3) elem_str rfl _ _ rfl (v := v3) rfl rfl (HROW.out.ext HX3.out) HS3.out (by unfold maxLen; omega) (by omega) ?_; intro v5 w5 happ; obtain ⟨a5, c5, rfl⟩ := happ.row.shape; have HAP := Lib.hid happ; have hbl := H3.out.stay HB.out HX3.out happ; have dl := cell_of_block hbl 0; have zl := free_of_block hbl 0; simp only [List.getElem?_toArray, List.getElem?_cons_succ, List.getElem?_cons_zero] at dl; clear happ hbl))
          refine thenX_last (wpPlan_one ?_)
          simp only [pickOps, List.getElem?_cons_succ, List.getElem?_cons_zero]
          go_wp2_with fail
          refine thenX_last (wpPlan_done ?_)
          clear dl zl
          obtain ⟨hput, hpc⟩ := H3.out.put (M := [⟨#[115, 101, 115, 115, 105, 111, 110]⟩, wordIn fnS fn, ser]) HB.out HX3.out (fun g hg => Nat.lt_of_lt_of_le (by rw [show g = qb from hg]; exact block_lt HQ3.out) (Ext.size HX3.out)) HAP.out
          generalize World.setCell w5 _ _ = w6 at *
          have HQ6 := Lib.hid (HQ3.out.chg hpc (fun e => by
            rcases e with e | e
            · exact HQL.out e
            · exact (HOWN.out qb e).2.2 rfl))
          have H6 := Lib.hid hput
          clear hput hpc HB HROW HOWN HAP
          clear HX2 HX3 HS3
          have c4 := cell_of_block HQ6.out 4
          have c5 := cell_of_block HQ6.out 5
          have c9 := cell_of_block HQ6.out 9
          simp only [List.getElem?_toArray, List.getElem?_cons_succ, List.getElem?_cons_zero] at c4 c5 c9
          go_wp2_with fail
          clear c4 c5 c9
          refine (addn_any (N := fun g => g = qb ∨ g = w6.heap.size) (zs := [fr, tt, gap]) (nc := 3) (H6.out.also ((Ext.refl w6).alloc _) w6.heap.size (Nat.le_refl _)) (.inr rfl) (fun g hg => by have := block_lt HQ6.out; simp; omega) HL.out (src_ints (L := [fr, tt, gap]) (heap_alloc_new w6 _)) (by simp) (by obtain ⟨v, hb, -⟩ := H6.out.ex; have := block_lt hb; omega) (i64_cons (HNUM.out.1) (i64_cons (HNUM.out.2.1) (i64_cons (HNUM.out.2.2.2.1 (by first | rfl | trivial)) (i64_nil)))) (by simp)).mono ?_
          rintro e w7 ⟨rfl, h8, hk8⟩
          have H7 := Lib.hid (h8.weak (N' := (· = qb)) (fun g e => .inl e))
          have HQ7 : Hid (QAt w7 qb _) := Lib.hid ((hk8 qb (.inl rfl) HQL.out).trans (HQ6.out.ext ((Ext.refl w6).alloc _)))
          clear h8 hk8
          go_wp2_with fail
          go_meet
          case rel => exact ⟨_, rfl, Lib.hid (by rw [HWD.out]; exact H7.out)⟩
        · rcases Classical.em (op = 3) with h3 | h3
          · as_aux_lemma =>
            subst h3
            have HWD : Hid (Qy.words ⟨3, fn, ser, oth, fr, tt, wd, st, off, gap, tol, fill⟩ = (([] ++ [kAsof, ser, oth]) ++ List.map num [fr, tt, tol])) := Lib.hid (by simp [Qy.words])
            obtain ⟨v3, hb, hrow, hown⟩ := H3.out.ex
            have HB := Lib.hid hb
            have HROW := Lib.hid hrow
            have HOWN := Lib.hid hown
            have cl := cell_of_block hb 0
            simp only [List.getElem?_toArray, List.getElem?_cons_succ, List.getElem?_cons_zero] at cl
            clear hb hrow hown
            have c2 := cell_of_block HQ3.out 2
            have c3 := cell_of_block HQ3.out 3
            simp only [List.getElem?_toArray, List.getElem?_cons_succ, List.getElem?_cons_zero] at c2 c3
            go_upto_region 18 with (first | (refine wpList_append_to (n := 0) (m := 3) elem_str rfl _ _ rfl (v := v3) rfl rfl (HROW.out.ext ((Ext.refl w3).alloc _)) (src_blk (L := [⟨#[97, 115, 111, 102]⟩, ser, oth]) (heap_alloc_new w3 _)) (by unfold maxLen; omega) (by omega) ?_; intro v5 w5 happ; obtain ⟨a5, c5, rfl⟩ := happ.row.shape; have HAP := Lib.hid happ; have hbl := H3.out.stay HB.out ((Ext.refl w3).alloc _) happ; have dl := cell_of_block hbl 0; have zl := free_of_block hbl 0; simp only [List.getElem?_toArray, List.getElem?_cons_succ, List.getElem?_cons_zero] at dl; clear happ hbl))
            clear cl dl zl c2 c3
            obtain ⟨hput, hpc⟩ := H3.out.put (M := [⟨#[97, 115, 111, 102]⟩, ser, oth]) HB.out ((Ext.refl w3).alloc _) (fun g hg => Nat.lt_of_lt_of_le (by rw [show g = qb from hg]; exact block_lt HQ3.out) (Ext.size ((Ext.refl w3).alloc _))) HAP.out
            generalize World.setCell w5 _ _ = w6 at *
            have HQ6 := Lib.hid (HQ3.out.chg hpc (fun e => by
              rcases e with e | e
              · exact HQL.out e
              · exact (HOWN.out qb e).2.2 rfl))
            have H6 := Lib.hid hput
            clear hput hpc HB HROW HOWN HAP
            have c4 := cell_of_block HQ6.out 4
            have c5 := cell_of_block HQ6.out 5
            have c10 := cell_of_block HQ6.out 10
            simp only [List.getElem?_toArray, List.getElem?_cons_succ, List.getElem?_cons_zero] at c4 c5 c10
            go_wp2_with fail
            clear c4 c5 c10
            refine (addn_any (N := fun g => g = qb ∨ g = w6.heap.size) (zs := [fr, tt, tol]) (nc := 3) (H6.out.also ((Ext.refl w6).alloc _) w6.heap.size (Nat.le_refl _)) (.inr rfl) (fun g hg => by have := block_lt HQ6.out; simp; omega) HL.out (src_ints (L := [fr, tt, tol]) (heap_alloc_new w6 _)) (by simp) (by obtain ⟨v, hb, -⟩ := H6.out.ex; have := block_lt hb; omega) (i64_cons (HNUM.out.1) (i64_cons (HNUM.out.2.1) (i64_cons (HNUM.out.2.2.2.2 (by first | rfl | trivial)) (i64_nil)))) (by simp)).mono ?_
            rintro e w7 ⟨rfl, h8, hk8⟩
            have H7 := Lib.hid (h8.weak (N' := (· = qb)) (fun g e => .inl e))
            have HQ7 : Hid (QAt w7 qb _) := Lib.hid ((hk8 qb (.inl rfl) HQL.out).trans (HQ6.out.ext ((Ext.refl w6).alloc _)))
            clear h8 hk8
            go_wp2_with fail
            go_meet
            case rel => exact ⟨_, rfl, Lib.hid (by rw [HWD.out]; exact H7.out)⟩
          · as_aux_lemma =>
            have hb1 : (op == 1) = false := beq_eq_false_iff_ne.2 h1
            have hb2 : (op == 2) = false := beq_eq_false_iff_ne.2 h2
            have hb3 : (op == 3) = false := beq_eq_false_iff_ne.2 h3
            have HWD : Hid (Qy.words ⟨op, fn, ser, oth, fr, tt, wd, st, off, gap, tol, fill⟩ = (([] ++ [kRaw, ser]) ++ List.map num [fr, tt])) := Lib.hid (by simp [Qy.words, h1, h2, h3])
            obtain ⟨v3, hb, hrow, hown⟩ := H3.out.ex
            have HB := Lib.hid hb
            have HROW := Lib.hid hrow
            have HOWN := Lib.hid hown
            have cl := cell_of_block hb 0
            simp only [List.getElem?_toArray, List.getElem?_cons_succ, List.getElem?_cons_zero] at cl
            clear hb hrow hown
            have c2 := cell_of_block HQ3.out 2
            simp only [List.getElem?_toArray, List.getElem?_cons_succ, List.getElem?_cons_zero] at c2
            go_upto_region 8 with (first | (refine wpList_append_to (n := 0) (m := 2) elem_str rfl _ _ rfl (v := v3) rfl rfl (HROW.out.ext ((Ext.refl w3).alloc _)) (src_blk (L := [⟨#[114, 97, 119]⟩, ser]) (heap_alloc_new w3 _)) (by unfold maxLen; omega) (by omega) ?_; intro v5 w5 happ; obtain ⟨a5, c5, rfl⟩ := happ.row.shape; have HAP := Lib.hid happ; have hbl := H3.out.stay HB.out ((Ext.refl w3).alloc _) happ; have dl := cell_of_block hbl 0; have zl := free_of_block hbl 0; simp only [List.getElem?_toArray, List.getElem?_cons_succ, List.getElem?_cons_zero] at dl; clear happ hbl))
            clear cl dl zl c2
            obtain ⟨hput, hpc⟩ := H3.out.put (M := [⟨#[114, 97, 119]⟩, ser]) HB.out ((Ext.refl w3).alloc _) (fun g hg => Nat.lt_of_lt_of_le (by rw [show g = qb from hg]; exact block_lt HQ3.out) (Ext.size ((Ext.refl w3).alloc _))) HAP.out
            generalize World.setCell w5 _ _ = w6 at *
            have HQ6 := Lib.hid (HQ3.out.chg hpc (fun e => by
              rcases e with e | e
              · exact HQL.out e
              · exact (HOWN.out qb e).2.2 rfl))
            have H6 := Lib.hid hput
            clear hput hpc HB HROW HOWN HAP
            have c4 := cell_of_block HQ6.out 4
            have c5 := cell_of_block HQ6.out 5
            simp only [List.getElem?_toArray, List.getElem?_cons_succ, List.getElem?_cons_zero] at c4 c5
            go_wp2_with fail
            clear c4 c5
            refine (addn_any (N := fun g => g = qb ∨ g = w6.heap.size) (zs := [fr, tt]) (nc := 2) (H6.out.also ((Ext.refl w6).alloc _) w6.heap.size (Nat.le_refl _)) (.inr rfl) (fun g hg => by have := block_lt HQ6.out; simp; omega) HL.out (src_ints (L := [fr, tt]) (heap_alloc_new w6 _)) (by simp) (by obtain ⟨v, hb, -⟩ := H6.out.ex; have := block_lt hb; omega) (i64_cons (HNUM.out.1) (i64_cons (HNUM.out.2.1) (i64_nil))) (by simp)).mono ?_
            rintro e w7 ⟨rfl, h8, hk8⟩
            have H7 := Lib.hid (h8.weak (N' := (· = qb)) (fun g e => .inl e))
            have HQ7 : Hid (QAt w7 qb _) := Lib.hid ((hk8 qb (.inl rfl) HQL.out).trans (HQ6.out.ext ((Ext.refl w6).alloc _)))
            clear h8 hk8
            go_wp2_with fail
            go_meet
            case rel => exact ⟨_, rfl, Lib.hid (by rw [HWD.out]; exact H7.out)⟩
    case rest =>
      obtain ⟨x27, rfl, HH⟩ := hcut
      obtain ⟨v, hb, hrow, hown⟩ := HH.out.ex
      have HB := Lib.hid hb
      have hne := words_ne ⟨op, fn, ser, oth, fr, tt, wd, st, off, gap, tol, fill⟩
      have HNE := Lib.hid hne
      have HWQ : Hid (Qy.words ⟨op, fn, ser, oth, fr, tt, wd, st, off, gap, tol, fill⟩ = Q.words) := Lib.hid (by rw [HQ.out])
      have HLW : Hid ((Qy.words ⟨op, fn, ser, oth, fr, tt, wd, st, off, gap, tol, fill⟩).length ≤ 9) := Lib.hid (words_len _)
      have HSW : Hid (∀ x ∈ Qy.words ⟨op, fn, ser, oth, fr, tt, wd, st, off, gap, tol, fill⟩, x.size ≤ 64) := Lib.hid (ok_small HOK.out)
      generalize Qy.words ⟨op, fn, ser, oth, fr, tt, wd, st, off, gap, tol, fill⟩ = ws at *
      obtain ⟨g, cap, rfl, hblk⟩ := StrBlk.of_row hrow (List.length_pos_iff.2 hne)
      have HBK := Lib.hid hblk
      have HE := Lib.hid HH.out.ext
      have cl := cell_of_block hb 0
      simp only [List.getElem?_toArray, List.getElem?_cons_succ, List.getElem?_cons_zero] at cl
      have hcap : ws.length ≤ cap := by obtain ⟨cur, -, -, h3, -⟩ := hblk; exact h3
      have HCAP := Lib.hid hcap
      clear hb hrow hown hne hblk hcap
      go_wp2_with fail
      refine (Tryd.strings_Join g 0 cap ws spc wc (fun j x hj => by rw [Nat.zero_add]; exact HBK.out.cell hj) HBK.out.lt (by have := HLW.out; omega) HCAP.out (join_small HLW.out HSW.out)).mono ?_
      rintro e w9 ⟨rfl, hx9⟩
      have HX9 := Lib.hid (HE.out.trans hx9)
      clear hx9 cl
      go_wp2_with fail
      go_ret2
      exact ⟨by rw [HK.out.1, HK.out.2]; unfold Qy.text; rw [← HWQ.out]; rfl, HX9.out⟩
end Go.Proofs.YtfndeocebpoeeaaDoor
