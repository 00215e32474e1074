/- Parsing: Parse. -/
import Derived.Test.YtfndeocebpoeeaaDoorQbs
import Derived.Test.YtfndeocebpoeeaaDoorBox
import Derived.Deep.DeepCutAuto
import Derived.Deep.CutBlock
namespace Go.Proofs.YtfndeocebpoeeaaDoor
open Go.RowKit Go.Sort Go.Lib

/-- What Parse tells. -/
def errQ (o : Option Qy) : Int := if o.isSome then 0 else 23
def gotQ (o : Option Qy) : Value := (o.getD q0).v
theorem read_small {ws : List ByteArray} {q : Qy} (h : readQ ws = some q) (N : Nat) (hw : ∀ x ∈ ws, x.size ≤ N) : q.ser.size ≤ N ∧ q.oth.size ≤ N := by
  unfold readQ at h
  split at h
  · split at h
    · simp only [Option.bind_eq_some_iff, Option.some.injEq] at h
      obtain ⟨_, _, _, _, rfl⟩ := h
      exact ⟨hw _ (by simp), Nat.zero_le _⟩
    · cases h
  · split at h
    · simp only [Option.bind_eq_some_iff, Option.some.injEq] at h
      obtain ⟨_, _, _, _, _, _, _, _, rfl⟩ := h
      exact ⟨hw _ (by simp), Nat.zero_le _⟩
    · split at h
      · simp only [Option.bind_eq_some_iff, Option.some.injEq] at h
        obtain ⟨_, _, _, _, _, _, rfl⟩ := h
        exact ⟨hw _ (by simp), hw _ (by simp)⟩
      · cases h
  · split at h
    · simp only [Option.bind_eq_some_iff, Option.some.injEq] at h
      obtain ⟨_, _, _, _, _, _, _, _, _, _, _, _, _, _, rfl⟩ := h
      exact ⟨hw _ (by simp), Nat.zero_le _⟩
    · cases h
  · cases h
theorem word_name {e : Ending} {a : ByteArray} (h : e = .returned (.string a)) : ∃ x, e = .returned (.string x) ∧ x = a := ⟨a, h, rfl⟩
theorem alloc_size (w : World) (o : Obj) : (w.alloc o).heap.size = w.heap.size + 1 := by simp
theorem alloc3 (w : World) (a b c : Obj) : (((w.alloc a).alloc b).alloc c).heap[w.heap.size]? = some a ∧ (((w.alloc a).alloc b).alloc c).heap[w.heap.size + 1]? = some b ∧ (((w.alloc a).alloc b).alloc c).heap[w.heap.size + 1 + 1]? = some c := by
  have s1 := alloc_size w a
  have s2 := alloc_size (w.alloc a) b
  refine ⟨?_, ?_, ?_⟩
  · rw [heap_alloc_old _ _ (by omega), heap_alloc_old _ _ (by omega), heap_alloc_new]
  · rw [heap_alloc_old _ _ (by omega)]
    have := heap_alloc_new (w.alloc a) b
    rw [s1] at this
    exact this
  · have := heap_alloc_new ((w.alloc a).alloc b) c
    rw [s2, s1] at this
    exact this

set_option maxHeartbeats 16000000 in
set_option maxRecDepth 100000 in
theorem parse_any {w : World} (s : ByteArray) (hs : s.size < 4294967281) (hl : HasLib w) :
    Calls Tryd.prog 5 #[.string s] w fun e w' => e = .returned (.tuple #[gotQ (parseQ (splitW s)), .int .i64 (errQ (parseQ (splitW s)))]) ∧ Ext w w' := by
  have HL := Lib.hid hl
  have hhs := Lib.hid hs
  clear hl hs
  go_enter Tryd.func5, Tryd.ntmps5
  go_wp2_with fail
  obtain ⟨rb, hrb⟩ : ∃ rb, rb = w.heap.size := ⟨_, rfl⟩
  rw [← hrb]
  generalize hW : World.alloc _ _ = w1
  have HR1 : Hid (QAt w1 rb q0) := Lib.hid (by rw [← hW, hrb]; exact heap_alloc_new w _)
  have HX1 : Hid (Ext w w1) := Lib.hid (by rw [← hW]; exact (Ext.refl _).alloc _)
  have HRB := Lib.hid hrb
  clear hW hrb
  obtain ⟨mx, hmx⟩ := (HL.out.ext HX1.out).max
  refine (Tryd.strings_Split s spc mx w1 hhs.out hmx (by decide)).mono ?_
  rintro e w2 ⟨rfl, hw2⟩
  obtain ⟨sb, hsb⟩ : ∃ sb, sb = w1.heap.size := ⟨_, rfl⟩
  have hlen : Lib.countB s spc + 1 = (splitW s).length := (Lib.splitB_all spc (by decide) 0 _ s rfl).symm
  rw [← hsb, hlen]
  have HS2 : Hid (w2.heap[sb]? = some (.cells (strs (splitW s)).toArray 9 (0, 0))) := Lib.hid (by rw [hw2, hsb]; exact heap_alloc_new w1 _)
  have HX2 : Hid (Ext w1 w2) := Lib.hid (by rw [hw2]; exact (Ext.refl _).alloc _)
  have HSB := Lib.hid hsb
  have HSZ : Hid (w2.heap.size = sb + 1) := Lib.hid (by rw [hw2, hsb]; simp)
  obtain ⟨ws, hws⟩ : ∃ ws, ws = splitW s := ⟨_, rfl⟩
  rw [← hws] at HS2 ⊢
  have HWS := Lib.hid hws
  clear hw2 hsb hlen hmx hws
  obtain ⟨tk, htk⟩ : ∃ tk, tk = w2.heap.size := ⟨_, rfl⟩
  go_wp2_with fail
  rw [← htk]
  generalize hW : World.alloc _ _ = w3
  have hsz := HSZ.out
  have H30 : Hid (PsAt w3 tk sb (tk + 1) (tk + 1 + 1) ws false q0 ∧ Ext w2 w3) := Lib.hid (by
    have hx3 : Ext w2 w3 := by rw [← hW]; exact (((Ext.refl _).alloc _).alloc _).alloc _
    have hlib := ((HL.out.ext HX1.out).ext HX2.out).ext hx3
    have hl := HL.out.lt
    have hrb := HX1.out.size
    have hx12 := HX2.out.size
    refine ⟨⟨⟨⟨some ⟨sb, 0, none⟩, ws.length, ?_, ?_, fun g hg => ?_, Nat.le_refl _⟩, by omega, fun x hx => ?_⟩, ?_, ?_, by omega, hlib, HL.out.no (fun b hb => by rcases hb with e | e <;> omega)⟩, hx3⟩
    · have := (alloc3 w2 (.cells #[.slice (some ⟨sb, 0, none⟩) ws.length ws.length, .bool false] 42 (0, 0)) (.cells #[.pointer (some ⟨tk, 0, none⟩)] 39 (0, 0)) (.cells #[.int .i64 0, .int .i64 0, .string ⟨#[]⟩, .string ⟨#[]⟩, .int .i64 0, .int .i64 0, .int .i64 0, .int .i64 0, .int .i64 0, .int .i64 0, .int .i64 0, .int .i64 0] 23 (0, 0))).1
      rw [← htk] at this
      rw [← hW]
      exact this
    · exact Src.ext (.inr ⟨⟨sb, 0, none⟩, _, rfl, by rw [strs_len, Nat.mul_one], fun j u hj => by
        rw [Go.WideShapes.add_plain, Nat.zero_add, cell_of_block HS2.out]
        simpa using hj, strs_one _⟩) hx3
    · simp [Value.ownBlock] at hg; omega
    · have := split_len (by rw [← HWS.out]; exact hx); have := hhs.out; omega
    · have := (alloc3 w2 (.cells #[.slice (some ⟨sb, 0, none⟩) ws.length ws.length, .bool false] 42 (0, 0)) (.cells #[.pointer (some ⟨tk, 0, none⟩)] 39 (0, 0)) (.cells #[.int .i64 0, .int .i64 0, .string ⟨#[]⟩, .string ⟨#[]⟩, .int .i64 0, .int .i64 0, .int .i64 0, .int .i64 0, .int .i64 0, .int .i64 0, .int .i64 0, .int .i64 0] 23 (0, 0))).2.2
      rw [← htk] at this
      rw [← hW]
      exact this
    · have := (alloc3 w2 (.cells #[.slice (some ⟨sb, 0, none⟩) ws.length ws.length, .bool false] 42 (0, 0)) (.cells #[.pointer (some ⟨tk, 0, none⟩)] 39 (0, 0)) (.cells #[.int .i64 0, .int .i64 0, .string ⟨#[]⟩, .string ⟨#[]⟩, .int .i64 0, .int .i64 0, .int .i64 0, .int .i64 0, .int .i64 0, .int .i64 0, .int .i64 0, .int .i64 0] 23 (0, 0))).2.1
      rw [← htk] at this
      rw [← hW]
      exact this)
  clear hW
  obtain ⟨h3, HX3⟩ := H30.out
  have HE3 := Lib.hid HX3
  have H3 := Lib.hid h3
  clear HX3 hsz H30 h3
  obtain ⟨qb, hqb⟩ : ∃ qb, qb = tk + 1 + 1 := ⟨_, rfl⟩
  obtain ⟨tb, htb⟩ : ∃ tb, tb = tk + 1 := ⟨_, rfl⟩
  rw [← hqb, ← htb] at H3
  rw [← hqb, ← htb]
  have HT2 : Hid (T2 tk qb tb = false) := Lib.hid (by have := H3.out.ne; simp [T2]; omega)
  have HTK := Lib.hid (And.intro htk (And.intro htb hqb))
  clear htk hqb htb
  refine (word_any H3.out.wds).mono ?_
  rintro e w4 ⟨rfl, hwt, hwc⟩
  obtain ⟨w0, rest, hwr⟩ := List.exists_cons_of_ne_nil (show ws ≠ [] by rw [HWS.out]; exact splitW_ne s)
  have H4 : Hid (PsAt w4 tk sb tb qb rest false q0) := Lib.hid (by
    have := H3.out.take hwc hwt
    rw [hwr] at this
    exact this)
  have C4 : Hid (Chg (fun j => j = tk ∨ j = qb) w4 w4) := Lib.hid (Chg.refl _ _)
  have HC34 : Hid (Chg (fun j => j = tk ∨ j = qb) w3 w4) := Lib.hid (hwc.mono (fun _ _ e => .inl e))
  have HW0 := Lib.hid hwr
  rw [show ws.headD ⟨#[]⟩ = w0 by rw [hwr]; rfl]
  clear hwt hwc hwr H3
  go_upto_block 0 with fail
  go_cut [13] (fun s13 wx => ∃ x, s13 = .string x ∧ ∃ bad l q, Hid (PsAt wx tk sb tb qb l bad q ∧ EndQ ws bad l q ∧ Chg (fun j => j = tk ∨ j = qb) w4 wx))
  case first =>
    rcases Classical.em (w0 = ⟨#[114, 97, 119]⟩) with h0 | h0
    · as_aux_lemma =>
      have hb0 : (w0.toList == (⟨#[114, 97, 119]⟩ : ByteArray).toList) = true := by rw [same_eqQ]; exact decide_eq_true h0
      have ct := cell_of_block H4.out.box 0
      simp only [List.getElem?_toArray, List.getElem?_cons_succ, List.getElem?_cons_zero] at ct
      go_wp2_with fail
      clear hb0
      clear ct
      refine (word_any H4.out.wds).mono ?_
      rintro e w5 ⟨he, htk, hc⟩
      obtain ⟨x5, rfl, hx5⟩ := word_name he
      have HX5 := Lib.hid hx5
      clear hx5
      have H5 := Lib.hid (H4.out.take hc htk)
      have C5 : Hid (Chg (fun j => j = tk ∨ j = qb) w4 w5) := Lib.hid (C4.out.trans (hc.mono (fun _ _ e => .inl e)) (fun _ _ e => e))
      clear htk hc
      have dq := cell_of_block H5.out.qry 2
      have zq := free_of_block H5.out.qry 2
      simp only [List.getElem?_toArray, List.getElem?_cons_succ, List.getElem?_cons_zero] at dq
      go_wp2_with fail
      clear dq zq
      generalize hwn : World.setCell w5 _ _ = w6
      have hcn : Chg (· = qb) w5 w6 := by rw [← hwn]; exact setCell_chg _ _ _ _
      have H6 := Lib.hid (H5.out.put hcn (by rw [← hwn]; exact H5.out.qry.set2 _))
      have C6 : Hid (Chg (fun j => j = tk ∨ j = qb) w4 w6) := Lib.hid (C5.out.trans (hcn.mono (fun _ _ e => .inr e)) (fun _ _ e => e))
      clear hcn hwn
      refine (span_any H6.out).mono ?_
      rintro e w7 ⟨rfl, fv, tv, hps, hfr, hto, hc⟩
      have H7 := Lib.hid hps
      have C7 : Hid (Chg (fun j => j = tk ∨ j = qb) w4 w7) := Lib.hid (C6.out.trans hc (fun _ _ e => e))
      have HFR := Lib.hid hfr
      have HTO := Lib.hid hto
      clear hps hfr hto hc
      go_wp2_with fail
      go_meet
      case rel => exact ⟨_, rfl, _, _, _, Lib.hid ⟨H7.out, by rw [HW0.out, h0, HX5.out]; exact end_raw HFR.out HTO.out, C7.out⟩⟩
    · rcases Classical.em (w0 = ⟨#[119, 105, 110, 100, 111, 119]⟩) with h1 | h1
      · as_aux_lemma =>
        have hb0 : (w0.toList == (⟨#[114, 97, 119]⟩ : ByteArray).toList) = false := by rw [same_eqQ]; exact decide_eq_false h0
        have hb1 : (w0.toList == (⟨#[119, 105, 110, 100, 111, 119]⟩ : ByteArray).toList) = true := by rw [same_eqQ]; exact decide_eq_true h1
        have ct := cell_of_block H4.out.box 0
        simp only [List.getElem?_toArray, List.getElem?_cons_succ, List.getElem?_cons_zero] at ct
        have f0 := cell_turned (T := T2 tk qb) ct HT2.out
        clear ct
        go_wp2_with fail
        refine wp_region_plan 10 (fun w' => ∃ z : Turned, w' = turned w4 (T2 tk qb) z.d z.f z.os) (.reads [0, 3, 5] (.one 1 (.one 2 (.one 4 (.one 6 (.one 7 (.one 8 (.one 9 (.one 10 .done))))))))) (by kernel_rfl) (by kernel_rfl) (fun _ _ dd _ _ hh => by cases dd <;> exact hh) ?_ ?_
        · exact turned_of_ext (Ext.drewN w4 1)
        refine wpPlan_reads ?_
        simp only [pickOps, List.getElem?_cons_succ, List.getElem?_cons_zero]
        repeat (go_big_quiet_step (fail))
        refine wpQuiet_nil ?_
        clear f0
        refine wpPlan_one ?_
        simp only [pickOps, List.getElem?_cons_succ, List.getElem?_cons_zero]
        obtain ⟨w5, hwd5⟩ : ∃ w5, w5 = w4.drewN 1 := ⟨_, rfl⟩
        have hx5 : Ext w4 w5 := by rw [hwd5]; exact Ext.drewN w4 1
        have H5 := Lib.hid (H4.out.ext hx5)
        have C5 : Hid (Chg (fun j => j = tk ∨ j = qb) w4 w5) := Lib.hid (C4.out.trans (Chg.of_ext hx5) (fun _ _ e => e))
        have R5 : Hid (Chg (fun j => j = tk ∨ j = qb) w4 w5) := Lib.hid (Chg.of_ext hx5)
        change wpList _ _ _ _ _ (w4.drewN 1)
        rw [← hwd5]
        clear hwd5 hx5
        go_wp2_with fail
        clear hb0 hb1
        refine (fns_any w5).mono ?_
        rintro e w6 ⟨mb, rfl, hwd, hx, hnew⟩
        have HMB : Hid (mb ≠ tk) := Lib.hid (by have := H5.out.wds.lt; omega)
        have HWD := Lib.hid hwd
        have H6 := Lib.hid (H5.out.ext hx)
        have C6 : Hid (Chg (fun j => j = tk ∨ j = qb) w4 w6) := Lib.hid (C5.out.trans (Chg.of_ext hx) (fun _ _ e => e))
        have R6 : Hid (Chg (fun j => j = tk ∨ j = qb) w4 w6) := Lib.hid (R5.out.trans (Chg.of_ext hx) (fun _ _ e => e))
        clear hwd hx hnew
        go_wp2_with fail
        refine thenX_mk (turned_of_chg (R6.out.mono (fun _ _ e => T2_of e))) (wpPlan_one ?_)
        simp only [pickOps, List.getElem?_cons_succ, List.getElem?_cons_zero]
        go_wp2_with fail
        refine (of_any H6.out.wds HWD.out HMB.out).mono ?_
        rintro e w7 ⟨n, rfl, hn, htk, hc⟩
        have H7 := Lib.hid (H6.out.take hc htk)
        have C7 : Hid (Chg (fun j => j = tk ∨ j = qb) w4 w7) := Lib.hid (C6.out.trans (hc.mono (fun _ _ e => .inl e)) (fun _ _ e => e))
        have R7 : Hid (Chg (fun j => j = tk ∨ j = qb) w4 w7) := Lib.hid (R6.out.trans (hc.mono (fun _ _ e => .inl e)) (fun _ _ e => e))
        have HN := Lib.hid hn
        clear htk hc hn
        clear HWD HMB
        go_wp2_with fail
        refine thenX_mk (turned_of_chg (R7.out.mono (fun _ _ e => T2_of e))) (wpPlan_one ?_)
        simp only [pickOps, List.getElem?_cons_succ, List.getElem?_cons_zero]
        go_wp2_with fail
        refine (word_any H7.out.wds).mono ?_
        rintro e w8 ⟨he, htk, hc⟩
        obtain ⟨x8, rfl, hx8⟩ := word_name he
        have HX8 := Lib.hid hx8
        clear hx8
        have H8 := Lib.hid (H7.out.take hc htk)
        have C8 : Hid (Chg (fun j => j = tk ∨ j = qb) w4 w8) := Lib.hid (C7.out.trans (hc.mono (fun _ _ e => .inl e)) (fun _ _ e => e))
        have R8 : Hid (Chg (fun j => j = tk ∨ j = qb) w4 w8) := Lib.hid (R7.out.trans (hc.mono (fun _ _ e => .inl e)) (fun _ _ e => e))
        clear htk hc
        go_wp2_with fail
        refine thenX_mk (turned_of_chg (R8.out.mono (fun _ _ e => T2_of e))) (wpPlan_one ?_)
        simp only [pickOps, List.getElem?_cons_succ, List.getElem?_cons_zero]
        have dq := cell_of_block H8.out.qry 0
        have zq := free_of_block H8.out.qry 0
        simp only [List.getElem?_toArray, List.getElem?_cons_succ, List.getElem?_cons_zero] at dq
        go_wp2_with fail
        clear dq zq
        generalize hwn : World.setCell w8 _ _ = w9
        have hcn : Chg (· = qb) w8 w9 := by rw [← hwn]; exact setCell_chg _ _ _ _
        have H9 := Lib.hid (H8.out.put hcn (by rw [← hwn]; exact H8.out.qry.set0 _))
        have C9 : Hid (Chg (fun j => j = tk ∨ j = qb) w4 w9) := Lib.hid (C8.out.trans (hcn.mono (fun _ _ e => .inr e)) (fun _ _ e => e))
        have R9 : Hid (Chg (fun j => j = tk ∨ j = qb) w4 w9) := Lib.hid (R8.out.trans (hcn.mono (fun _ _ e => .inr e)) (fun _ _ e => e))
        clear hcn hwn
        skip
        refine thenX_mk (turned_of_chg (R9.out.mono (fun _ _ e => T2_of e))) (wpPlan_one ?_)
        simp only [pickOps, List.getElem?_cons_succ, List.getElem?_cons_zero]
        go_wp2_with fail
        refine thenX_mk (turned_of_chg (R9.out.mono (fun _ _ e => T2_of e))) (wpPlan_one ?_)
        simp only [pickOps, List.getElem?_cons_succ, List.getElem?_cons_zero]
        have dq := cell_of_block H9.out.qry 1
        have zq := free_of_block H9.out.qry 1
        simp only [List.getElem?_toArray, List.getElem?_cons_succ, List.getElem?_cons_zero] at dq
        go_wp2_with fail
        clear dq zq
        generalize hwn : World.setCell w9 _ _ = w10
        have hcn : Chg (· = qb) w9 w10 := by rw [← hwn]; exact setCell_chg _ _ _ _
        have H10 := Lib.hid (H9.out.put hcn (by rw [← hwn]; exact H9.out.qry.set1 _))
        have C10 : Hid (Chg (fun j => j = tk ∨ j = qb) w4 w10) := Lib.hid (C9.out.trans (hcn.mono (fun _ _ e => .inr e)) (fun _ _ e => e))
        have R10 : Hid (Chg (fun j => j = tk ∨ j = qb) w4 w10) := Lib.hid (R9.out.trans (hcn.mono (fun _ _ e => .inr e)) (fun _ _ e => e))
        clear hcn hwn
        skip
        refine thenX_mk (turned_of_chg (R10.out.mono (fun _ _ e => T2_of e))) (wpPlan_one ?_)
        simp only [pickOps, List.getElem?_cons_succ, List.getElem?_cons_zero]
        go_wp2_with fail
        refine thenX_mk (turned_of_chg (R10.out.mono (fun _ _ e => T2_of e))) (wpPlan_one ?_)
        simp only [pickOps, List.getElem?_cons_succ, List.getElem?_cons_zero]
        have dq := cell_of_block H10.out.qry 2
        have zq := free_of_block H10.out.qry 2
        simp only [List.getElem?_toArray, List.getElem?_cons_succ, List.getElem?_cons_zero] at dq
        go_wp2_with fail
        clear dq zq
        generalize hwn : World.setCell w10 _ _ = w11
        have hcn : Chg (· = qb) w10 w11 := by rw [← hwn]; exact setCell_chg _ _ _ _
        have H11 := Lib.hid (H10.out.put hcn (by rw [← hwn]; exact H10.out.qry.set2 _))
        have C11 : Hid (Chg (fun j => j = tk ∨ j = qb) w4 w11) := Lib.hid (C10.out.trans (hcn.mono (fun _ _ e => .inr e)) (fun _ _ e => e))
        have R11 : Hid (Chg (fun j => j = tk ∨ j = qb) w4 w11) := Lib.hid (R10.out.trans (hcn.mono (fun _ _ e => .inr e)) (fun _ _ e => e))
        clear hcn hwn
        refine thenX_last (wpPlan_done ?_)
        go_wp2_with fail
        refine (span_any H11.out).mono ?_
        rintro e w12 ⟨rfl, fv, tv, hps, hfr, hto, hc⟩
        have H12 := Lib.hid hps
        have C12 : Hid (Chg (fun j => j = tk ∨ j = qb) w4 w12) := Lib.hid (C11.out.trans hc (fun _ _ e => e))
        have HFR := Lib.hid hfr
        have HTO := Lib.hid hto
        clear hps hfr hto hc
        have ct := cell_of_block H12.out.box 0
        simp only [List.getElem?_toArray, List.getElem?_cons_succ, List.getElem?_cons_zero] at ct
        have f0 := cell_turned (T := T2 tk qb) ct HT2.out
        clear ct
        go_wp2_with fail
        refine wp_region_plan 11 (fun w' => ∃ z : Turned, w' = turned w12 (T2 tk qb) z.d z.f z.os) (.reads [0, 2, 4] (.one 1 (.reads [6] (.one 3 (.one 5 (.one 7 (.one 8 (.one 9 (.one 10 (.one 11 .done)))))))))) (by kernel_rfl) (by kernel_rfl) (fun _ _ dd _ _ hh => by cases dd <;> exact hh) ?_ ?_
        · exact turned_of_ext (Ext.drewN w12 1)
        refine wpPlan_reads ?_
        simp only [pickOps, List.getElem?_cons_succ, List.getElem?_cons_zero]
        repeat (go_big_quiet_step (fail))
        refine wpQuiet_nil ?_
        clear f0
        refine wpPlan_one ?_
        simp only [pickOps, List.getElem?_cons_succ, List.getElem?_cons_zero]
        obtain ⟨w13, hwd13⟩ : ∃ w13, w13 = w12.drewN 1 := ⟨_, rfl⟩
        have hx13 : Ext w12 w13 := by rw [hwd13]; exact Ext.drewN w12 1
        have H13 := Lib.hid (H12.out.ext hx13)
        have C13 : Hid (Chg (fun j => j = tk ∨ j = qb) w4 w13) := Lib.hid (C12.out.trans (Chg.of_ext hx13) (fun _ _ e => e))
        have R13 : Hid (Chg (fun j => j = tk ∨ j = qb) w12 w13) := Lib.hid (Chg.of_ext hx13)
        change wpList _ _ _ _ _ (w12.drewN 1)
        rw [← hwd13]
        clear hwd13 hx13
        go_wp2_with fail
        refine (number_any H13.out.wds H13.out.lib H13.out.notk).mono ?_
        rintro e w14 ⟨b, rfl, hb, htk, hc⟩
        have H14 := Lib.hid (H13.out.take hc htk)
        have C14 : Hid (Chg (fun j => j = tk ∨ j = qb) w4 w14) := Lib.hid (C13.out.trans (hc.mono (fun _ _ e => .inl e)) (fun _ _ e => e))
        have R14 : Hid (Chg (fun j => j = tk ∨ j = qb) w12 w14) := Lib.hid (R13.out.trans (hc.mono (fun _ _ e => .inl e)) (fun _ _ e => e))
        have HB := Lib.hid hb
        clear htk hc hb
        go_wp2_with fail
        refine thenX_mk (turned_of_chg (R14.out.mono (fun _ _ e => T2_of e))) (wpPlan_reads ?_)
        simp only [pickOps, List.getElem?_cons_succ, List.getElem?_cons_zero]
        repeat (go_big_quiet_step (fail))
        refine wpQuiet_nil (wpPlan_one ?_)
        simp only [pickOps, List.getElem?_cons_succ, List.getElem?_cons_zero]
        go_wp2_with fail
        refine (number_any H14.out.wds H14.out.lib H14.out.notk).mono ?_
        rintro e w15 ⟨c2, rfl, hc2, htk, hc⟩
        have H15 := Lib.hid (H14.out.take hc htk)
        have C15 : Hid (Chg (fun j => j = tk ∨ j = qb) w4 w15) := Lib.hid (C14.out.trans (hc.mono (fun _ _ e => .inl e)) (fun _ _ e => e))
        have R15 : Hid (Chg (fun j => j = tk ∨ j = qb) w12 w15) := Lib.hid (R14.out.trans (hc.mono (fun _ _ e => .inl e)) (fun _ _ e => e))
        have HC2 := Lib.hid hc2
        clear htk hc hc2
        go_wp2_with fail
        refine thenX_mk (turned_of_chg (R15.out.mono (fun _ _ e => T2_of e))) (wpPlan_one ?_)
        simp only [pickOps, List.getElem?_cons_succ, List.getElem?_cons_zero]
        go_wp2_with fail
        refine (number_any H15.out.wds H15.out.lib H15.out.notk).mono ?_
        rintro e w16 ⟨d2, rfl, hd2, htk, hc⟩
        have H16 := Lib.hid (H15.out.take hc htk)
        have C16 : Hid (Chg (fun j => j = tk ∨ j = qb) w4 w16) := Lib.hid (C15.out.trans (hc.mono (fun _ _ e => .inl e)) (fun _ _ e => e))
        have R16 : Hid (Chg (fun j => j = tk ∨ j = qb) w12 w16) := Lib.hid (R15.out.trans (hc.mono (fun _ _ e => .inl e)) (fun _ _ e => e))
        have HD2 := Lib.hid hd2
        clear htk hc hd2
        go_wp2_with fail
        refine thenX_mk (turned_of_chg (R16.out.mono (fun _ _ e => T2_of e))) (wpPlan_one ?_)
        simp only [pickOps, List.getElem?_cons_succ, List.getElem?_cons_zero]
        have dq := cell_of_block H16.out.qry 6
        have zq := free_of_block H16.out.qry 6
        simp only [List.getElem?_toArray, List.getElem?_cons_succ, List.getElem?_cons_zero] at dq
        go_wp2_with fail
        clear dq zq
        generalize hwn : World.setCell w16 _ _ = w17
        have hcn : Chg (· = qb) w16 w17 := by rw [← hwn]; exact setCell_chg _ _ _ _
        have H17 := Lib.hid (H16.out.put hcn (by rw [← hwn]; exact H16.out.qry.set6 _))
        have C17 : Hid (Chg (fun j => j = tk ∨ j = qb) w4 w17) := Lib.hid (C16.out.trans (hcn.mono (fun _ _ e => .inr e)) (fun _ _ e => e))
        have R17 : Hid (Chg (fun j => j = tk ∨ j = qb) w12 w17) := Lib.hid (R16.out.trans (hcn.mono (fun _ _ e => .inr e)) (fun _ _ e => e))
        clear hcn hwn
        skip
        refine thenX_mk (turned_of_chg (R17.out.mono (fun _ _ e => T2_of e))) (wpPlan_one ?_)
        simp only [pickOps, List.getElem?_cons_succ, List.getElem?_cons_zero]
        go_wp2_with fail
        refine thenX_mk (turned_of_chg (R17.out.mono (fun _ _ e => T2_of e))) (wpPlan_one ?_)
        simp only [pickOps, List.getElem?_cons_succ, List.getElem?_cons_zero]
        have dq := cell_of_block H17.out.qry 7
        have zq := free_of_block H17.out.qry 7
        simp only [List.getElem?_toArray, List.getElem?_cons_succ, List.getElem?_cons_zero] at dq
        go_wp2_with fail
        clear dq zq
        generalize hwn : World.setCell w17 _ _ = w18
        have hcn : Chg (· = qb) w17 w18 := by rw [← hwn]; exact setCell_chg _ _ _ _
        have H18 := Lib.hid (H17.out.put hcn (by rw [← hwn]; exact H17.out.qry.set7 _))
        have C18 : Hid (Chg (fun j => j = tk ∨ j = qb) w4 w18) := Lib.hid (C17.out.trans (hcn.mono (fun _ _ e => .inr e)) (fun _ _ e => e))
        have R18 : Hid (Chg (fun j => j = tk ∨ j = qb) w12 w18) := Lib.hid (R17.out.trans (hcn.mono (fun _ _ e => .inr e)) (fun _ _ e => e))
        clear hcn hwn
        skip
        refine thenX_mk (turned_of_chg (R18.out.mono (fun _ _ e => T2_of e))) (wpPlan_one ?_)
        simp only [pickOps, List.getElem?_cons_succ, List.getElem?_cons_zero]
        go_wp2_with fail
        refine thenX_mk (turned_of_chg (R18.out.mono (fun _ _ e => T2_of e))) (wpPlan_one ?_)
        simp only [pickOps, List.getElem?_cons_succ, List.getElem?_cons_zero]
        have dq := cell_of_block H18.out.qry 8
        have zq := free_of_block H18.out.qry 8
        simp only [List.getElem?_toArray, List.getElem?_cons_succ, List.getElem?_cons_zero] at dq
        go_wp2_with fail
        clear dq zq
        generalize hwn : World.setCell w18 _ _ = w19
        have hcn : Chg (· = qb) w18 w19 := by rw [← hwn]; exact setCell_chg _ _ _ _
        have H19 := Lib.hid (H18.out.put hcn (by rw [← hwn]; exact H18.out.qry.set8 _))
        have C19 : Hid (Chg (fun j => j = tk ∨ j = qb) w4 w19) := Lib.hid (C18.out.trans (hcn.mono (fun _ _ e => .inr e)) (fun _ _ e => e))
        have R19 : Hid (Chg (fun j => j = tk ∨ j = qb) w12 w19) := Lib.hid (R18.out.trans (hcn.mono (fun _ _ e => .inr e)) (fun _ _ e => e))
        clear hcn hwn
        refine thenX_last (wpPlan_done ?_)
        have ct := cell_of_block H19.out.box 0
        simp only [List.getElem?_toArray, List.getElem?_cons_succ, List.getElem?_cons_zero] at ct
        have f0 := cell_turned (T := T2 tk qb) ct HT2.out
        clear ct
        go_wp2_with fail
        refine wp_region_plan 4 (fun w' => ∃ z : Turned, w' = turned w19 (T2 tk qb) z.d z.f z.os) (.reads [0] (.one 1 (.one 2 (.one 3 (.one 4 .done))))) (by kernel_rfl) (by kernel_rfl) (fun _ _ dd _ _ hh => by cases dd <;> exact hh) ?_ ?_
        · exact turned_of_ext (Ext.drewN w19 1)
        refine wpPlan_reads ?_
        simp only [pickOps, List.getElem?_cons_succ, List.getElem?_cons_zero]
        repeat (go_big_quiet_step (fail))
        refine wpQuiet_nil ?_
        clear f0
        refine wpPlan_one ?_
        simp only [pickOps, List.getElem?_cons_succ, List.getElem?_cons_zero]
        obtain ⟨w20, hwd20⟩ : ∃ w20, w20 = w19.drewN 1 := ⟨_, rfl⟩
        have hx20 : Ext w19 w20 := by rw [hwd20]; exact Ext.drewN w19 1
        have H20 := Lib.hid (H19.out.ext hx20)
        have C20 : Hid (Chg (fun j => j = tk ∨ j = qb) w4 w20) := Lib.hid (C19.out.trans (Chg.of_ext hx20) (fun _ _ e => e))
        have R20 : Hid (Chg (fun j => j = tk ∨ j = qb) w19 w20) := Lib.hid (Chg.of_ext hx20)
        change wpList _ _ _ _ _ (w19.drewN 1)
        rw [← hwd20]
        clear hwd20 hx20
        go_wp2_with fail
        refine (fills_any w20).mono ?_
        rintro e w21 ⟨mb, rfl, hwd, hx, hnew⟩
        have HMB : Hid (mb ≠ tk) := Lib.hid (by have := H20.out.wds.lt; omega)
        have HWD := Lib.hid hwd
        have H21 := Lib.hid (H20.out.ext hx)
        have C21 : Hid (Chg (fun j => j = tk ∨ j = qb) w4 w21) := Lib.hid (C20.out.trans (Chg.of_ext hx) (fun _ _ e => e))
        have R21 : Hid (Chg (fun j => j = tk ∨ j = qb) w19 w21) := Lib.hid (R20.out.trans (Chg.of_ext hx) (fun _ _ e => e))
        clear hwd hx hnew
        go_wp2_with fail
        refine thenX_mk (turned_of_chg (R21.out.mono (fun _ _ e => T2_of e))) (wpPlan_one ?_)
        simp only [pickOps, List.getElem?_cons_succ, List.getElem?_cons_zero]
        go_wp2_with fail
        refine (of_any H21.out.wds HWD.out HMB.out).mono ?_
        rintro e w22 ⟨z, rfl, hz, htk, hc⟩
        have H22 := Lib.hid (H21.out.take hc htk)
        have C22 : Hid (Chg (fun j => j = tk ∨ j = qb) w4 w22) := Lib.hid (C21.out.trans (hc.mono (fun _ _ e => .inl e)) (fun _ _ e => e))
        have R22 : Hid (Chg (fun j => j = tk ∨ j = qb) w19 w22) := Lib.hid (R21.out.trans (hc.mono (fun _ _ e => .inl e)) (fun _ _ e => e))
        have HZ := Lib.hid hz
        clear htk hc hz
        clear HWD HMB
        go_wp2_with fail
        refine thenX_mk (turned_of_chg (R22.out.mono (fun _ _ e => T2_of e))) (wpPlan_one ?_)
        simp only [pickOps, List.getElem?_cons_succ, List.getElem?_cons_zero]
        go_wp2_with fail
        refine thenX_mk (turned_of_chg (R22.out.mono (fun _ _ e => T2_of e))) (wpPlan_one ?_)
        simp only [pickOps, List.getElem?_cons_succ, List.getElem?_cons_zero]
        have dq := cell_of_block H22.out.qry 11
        have zq := free_of_block H22.out.qry 11
        simp only [List.getElem?_toArray, List.getElem?_cons_succ, List.getElem?_cons_zero] at dq
        go_wp2_with fail
        clear dq zq
        generalize hwn : World.setCell w22 _ _ = w23
        have hcn : Chg (· = qb) w22 w23 := by rw [← hwn]; exact setCell_chg _ _ _ _
        have H23 := Lib.hid (H22.out.put hcn (by rw [← hwn]; exact H22.out.qry.set11 _))
        have C23 : Hid (Chg (fun j => j = tk ∨ j = qb) w4 w23) := Lib.hid (C22.out.trans (hcn.mono (fun _ _ e => .inr e)) (fun _ _ e => e))
        have R23 : Hid (Chg (fun j => j = tk ∨ j = qb) w19 w23) := Lib.hid (R22.out.trans (hcn.mono (fun _ _ e => .inr e)) (fun _ _ e => e))
        clear hcn hwn
        refine thenX_last (wpPlan_done ?_)
        go_wp2_with fail
        go_meet
        case rel => exact ⟨_, rfl, _, _, _, Lib.hid ⟨H23.out, by rw [HW0.out, h1, HX8.out]; exact end_win HN.out HFR.out HTO.out HB.out HC2.out HD2.out HZ.out, C23.out⟩⟩
      · rcases Classical.em (w0 = ⟨#[115, 101, 115, 115, 105, 111, 110]⟩) with h2 | h2
        · as_aux_lemma =>
          have hb0 : (w0.toList == (⟨#[114, 97, 119]⟩ : ByteArray).toList) = false := by rw [same_eqQ]; exact decide_eq_false h0
          have hb1 : (w0.toList == (⟨#[119, 105, 110, 100, 111, 119]⟩ : ByteArray).toList) = false := by rw [same_eqQ]; exact decide_eq_false h1
          have hb2 : (w0.toList == (⟨#[115, 101, 115, 115, 105, 111, 110]⟩ : ByteArray).toList) = true := by rw [same_eqQ]; exact decide_eq_true h2
          have ct := cell_of_block H4.out.box 0
          simp only [List.getElem?_toArray, List.getElem?_cons_succ, List.getElem?_cons_zero] at ct
          have f0 := cell_turned (T := T2 tk qb) ct HT2.out
          clear ct
          go_wp2_with fail
          refine wp_region_plan 10 (fun w' => ∃ z : Turned, w' = turned w4 (T2 tk qb) z.d z.f z.os) (.reads [0, 3, 5] (.one 1 (.one 2 (.one 4 (.one 6 (.one 7 (.one 8 (.one 9 (.one 10 .done))))))))) (by kernel_rfl) (by kernel_rfl) (fun _ _ dd _ _ hh => by cases dd <;> exact hh) ?_ ?_
          · exact turned_of_ext (Ext.drewN w4 1)
          refine wpPlan_reads ?_
          simp only [pickOps, List.getElem?_cons_succ, List.getElem?_cons_zero]
          repeat (go_big_quiet_step (fail))
          refine wpQuiet_nil ?_
          clear f0
          refine wpPlan_one ?_
          simp only [pickOps, List.getElem?_cons_succ, List.getElem?_cons_zero]
          obtain ⟨w5, hwd5⟩ : ∃ w5, w5 = w4.drewN 1 := ⟨_, rfl⟩
          have hx5 : Ext w4 w5 := by rw [hwd5]; exact Ext.drewN w4 1
          have H5 := Lib.hid (H4.out.ext hx5)
          have C5 : Hid (Chg (fun j => j = tk ∨ j = qb) w4 w5) := Lib.hid (C4.out.trans (Chg.of_ext hx5) (fun _ _ e => e))
          have R5 : Hid (Chg (fun j => j = tk ∨ j = qb) w4 w5) := Lib.hid (Chg.of_ext hx5)
          change wpList _ _ _ _ _ (w4.drewN 1)
          rw [← hwd5]
          clear hwd5 hx5
          go_wp2_with fail
          clear hb0 hb1 hb2
          refine (fns_any w5).mono ?_
          rintro e w6 ⟨mb, rfl, hwd, hx, hnew⟩
          have HMB : Hid (mb ≠ tk) := Lib.hid (by have := H5.out.wds.lt; omega)
          have HWD := Lib.hid hwd
          have H6 := Lib.hid (H5.out.ext hx)
          have C6 : Hid (Chg (fun j => j = tk ∨ j = qb) w4 w6) := Lib.hid (C5.out.trans (Chg.of_ext hx) (fun _ _ e => e))
          have R6 : Hid (Chg (fun j => j = tk ∨ j = qb) w4 w6) := Lib.hid (R5.out.trans (Chg.of_ext hx) (fun _ _ e => e))
          clear hwd hx hnew
          go_wp2_with fail
          refine thenX_mk (turned_of_chg (R6.out.mono (fun _ _ e => T2_of e))) (wpPlan_one ?_)
          simp only [pickOps, List.getElem?_cons_succ, List.getElem?_cons_zero]
          go_wp2_with fail
          refine (of_any H6.out.wds HWD.out HMB.out).mono ?_
          rintro e w7 ⟨n, rfl, hn, htk, hc⟩
          have H7 := Lib.hid (H6.out.take hc htk)
          have C7 : Hid (Chg (fun j => j = tk ∨ j = qb) w4 w7) := Lib.hid (C6.out.trans (hc.mono (fun _ _ e => .inl e)) (fun _ _ e => e))
          have R7 : Hid (Chg (fun j => j = tk ∨ j = qb) w4 w7) := Lib.hid (R6.out.trans (hc.mono (fun _ _ e => .inl e)) (fun _ _ e => e))
          have HN := Lib.hid hn
          clear htk hc hn
          clear HWD HMB
          go_wp2_with fail
          refine thenX_mk (turned_of_chg (R7.out.mono (fun _ _ e => T2_of e))) (wpPlan_one ?_)
          simp only [pickOps, List.getElem?_cons_succ, List.getElem?_cons_zero]
          go_wp2_with fail
          refine (word_any H7.out.wds).mono ?_
          rintro e w8 ⟨he, htk, hc⟩
          obtain ⟨x8, rfl, hx8⟩ := word_name he
          have HX8 := Lib.hid hx8
          clear hx8
          have H8 := Lib.hid (H7.out.take hc htk)
          have C8 : Hid (Chg (fun j => j = tk ∨ j = qb) w4 w8) := Lib.hid (C7.out.trans (hc.mono (fun _ _ e => .inl e)) (fun _ _ e => e))
          have R8 : Hid (Chg (fun j => j = tk ∨ j = qb) w4 w8) := Lib.hid (R7.out.trans (hc.mono (fun _ _ e => .inl e)) (fun _ _ e => e))
          clear htk hc
          go_wp2_with fail
          refine thenX_mk (turned_of_chg (R8.out.mono (fun _ _ e => T2_of e))) (wpPlan_one ?_)
          simp only [pickOps, List.getElem?_cons_succ, List.getElem?_cons_zero]
          have dq := cell_of_block H8.out.qry 0
          have zq := free_of_block H8.out.qry 0
          simp only [List.getElem?_toArray, List.getElem?_cons_succ, List.getElem?_cons_zero] at dq
          go_wp2_with fail
          clear dq zq
          generalize hwn : World.setCell w8 _ _ = w9
          have hcn : Chg (· = qb) w8 w9 := by rw [← hwn]; exact setCell_chg _ _ _ _
          have H9 := Lib.hid (H8.out.put hcn (by rw [← hwn]; exact H8.out.qry.set0 _))
          have C9 : Hid (Chg (fun j => j = tk ∨ j = qb) w4 w9) := Lib.hid (C8.out.trans (hcn.mono (fun _ _ e => .inr e)) (fun _ _ e => e))
          have R9 : Hid (Chg (fun j => j = tk ∨ j = qb) w4 w9) := Lib.hid (R8.out.trans (hcn.mono (fun _ _ e => .inr e)) (fun _ _ e => e))
          clear hcn hwn
          skip
          refine thenX_mk (turned_of_chg (R9.out.mono (fun _ _ e => T2_of e))) (wpPlan_one ?_)
          simp only [pickOps, List.getElem?_cons_succ, List.getElem?_cons_zero]
          go_wp2_with fail
          refine thenX_mk (turned_of_chg (R9.out.mono (fun _ _ e => T2_of e))) (wpPlan_one ?_)
          simp only [pickOps, List.getElem?_cons_succ, List.getElem?_cons_zero]
          have dq := cell_of_block H9.out.qry 1
          have zq := free_of_block H9.out.qry 1
          simp only [List.getElem?_toArray, List.getElem?_cons_succ, List.getElem?_cons_zero] at dq
          go_wp2_with fail
          clear dq zq
          generalize hwn : World.setCell w9 _ _ = w10
          have hcn : Chg (· = qb) w9 w10 := by rw [← hwn]; exact setCell_chg _ _ _ _
          have H10 := Lib.hid (H9.out.put hcn (by rw [← hwn]; exact H9.out.qry.set1 _))
          have C10 : Hid (Chg (fun j => j = tk ∨ j = qb) w4 w10) := Lib.hid (C9.out.trans (hcn.mono (fun _ _ e => .inr e)) (fun _ _ e => e))
          have R10 : Hid (Chg (fun j => j = tk ∨ j = qb) w4 w10) := Lib.hid (R9.out.trans (hcn.mono (fun _ _ e => .inr e)) (fun _ _ e => e))
          clear hcn hwn
          skip
          refine thenX_mk (turned_of_chg (R10.out.mono (fun _ _ e => T2_of e))) (wpPlan_one ?_)
          simp only [pickOps, List.getElem?_cons_succ, List.getElem?_cons_zero]
          go_wp2_with fail
          refine thenX_mk (turned_of_chg (R10.out.mono (fun _ _ e => T2_of e))) (wpPlan_one ?_)
          simp only [pickOps, List.getElem?_cons_succ, List.getElem?_cons_zero]
          have dq := cell_of_block H10.out.qry 2
          have zq := free_of_block H10.out.qry 2
          simp only [List.getElem?_toArray, List.getElem?_cons_succ, List.getElem?_cons_zero] at dq
          go_wp2_with fail
          clear dq zq
          generalize hwn : World.setCell w10 _ _ = w11
          have hcn : Chg (· = qb) w10 w11 := by rw [← hwn]; exact setCell_chg _ _ _ _
          have H11 := Lib.hid (H10.out.put hcn (by rw [← hwn]; exact H10.out.qry.set2 _))
          have C11 : Hid (Chg (fun j => j = tk ∨ j = qb) w4 w11) := Lib.hid (C10.out.trans (hcn.mono (fun _ _ e => .inr e)) (fun _ _ e => e))
          have R11 : Hid (Chg (fun j => j = tk ∨ j = qb) w4 w11) := Lib.hid (R10.out.trans (hcn.mono (fun _ _ e => .inr e)) (fun _ _ e => e))
          clear hcn hwn
          refine thenX_last (wpPlan_done ?_)
          go_wp2_with fail
          refine (span_any H11.out).mono ?_
          rintro e w12 ⟨rfl, fv, tv, hps, hfr, hto, hc⟩
          have H12 := Lib.hid hps
          have C12 : Hid (Chg (fun j => j = tk ∨ j = qb) w4 w12) := Lib.hid (C11.out.trans hc (fun _ _ e => e))
          have HFR := Lib.hid hfr
          have HTO := Lib.hid hto
          clear hps hfr hto hc
          have ct := cell_of_block H12.out.box 0
          simp only [List.getElem?_toArray, List.getElem?_cons_succ, List.getElem?_cons_zero] at ct
          go_wp2_with fail
          clear ct
          refine (number_any H12.out.wds H12.out.lib H12.out.notk).mono ?_
          rintro e w13 ⟨g, rfl, hg, htk, hc⟩
          have H13 := Lib.hid (H12.out.take hc htk)
          have C13 : Hid (Chg (fun j => j = tk ∨ j = qb) w4 w13) := Lib.hid (C12.out.trans (hc.mono (fun _ _ e => .inl e)) (fun _ _ e => e))
          have HG := Lib.hid hg
          clear htk hc hg
          have dq := cell_of_block H13.out.qry 9
          have zq := free_of_block H13.out.qry 9
          simp only [List.getElem?_toArray, List.getElem?_cons_succ, List.getElem?_cons_zero] at dq
          go_wp2_with fail
          clear dq zq
          generalize hwn : World.setCell w13 _ _ = w14
          have hcn : Chg (· = qb) w13 w14 := by rw [← hwn]; exact setCell_chg _ _ _ _
          have H14 := Lib.hid (H13.out.put hcn (by rw [← hwn]; exact H13.out.qry.set9 _))
          have C14 : Hid (Chg (fun j => j = tk ∨ j = qb) w4 w14) := Lib.hid (C13.out.trans (hcn.mono (fun _ _ e => .inr e)) (fun _ _ e => e))
          clear hcn hwn
          go_wp2_with fail
          go_meet
          case rel => exact ⟨_, rfl, _, _, _, Lib.hid ⟨H14.out, by rw [HW0.out, h2, HX8.out]; exact end_ses HN.out HFR.out HTO.out HG.out, C14.out⟩⟩
        · rcases Classical.em (w0 = ⟨#[97, 115, 111, 102]⟩) with h3 | h3
          · as_aux_lemma =>
            have hb0 : (w0.toList == (⟨#[114, 97, 119]⟩ : ByteArray).toList) = false := by rw [same_eqQ]; exact decide_eq_false h0
            have hb1 : (w0.toList == (⟨#[119, 105, 110, 100, 111, 119]⟩ : ByteArray).toList) = false := by rw [same_eqQ]; exact decide_eq_false h1
            have hb2 : (w0.toList == (⟨#[115, 101, 115, 115, 105, 111, 110]⟩ : ByteArray).toList) = false := by rw [same_eqQ]; exact decide_eq_false h2
            have hb3 : (w0.toList == (⟨#[97, 115, 111, 102]⟩ : ByteArray).toList) = true := by rw [same_eqQ]; exact decide_eq_true h3
            have ct := cell_of_block H4.out.box 0
            simp only [List.getElem?_toArray, List.getElem?_cons_succ, List.getElem?_cons_zero] at ct
            have f0 := cell_turned (T := T2 tk qb) ct HT2.out
            clear ct
            go_wp2_with fail
            refine wp_region_plan 9 (fun w' => ∃ z : Turned, w' = turned w4 (T2 tk qb) z.d z.f z.os) (.reads [0, 2, 4] (.one 1 (.one 3 (.one 5 (.one 6 (.one 7 (.one 8 (.one 9 .done)))))))) (by kernel_rfl) (by kernel_rfl) (fun _ _ dd _ _ hh => by cases dd <;> exact hh) ?_ ?_
            · exact turned_of_ext (Ext.drewN w4 1)
            refine wpPlan_reads ?_
            simp only [pickOps, List.getElem?_cons_succ, List.getElem?_cons_zero]
            repeat (go_big_quiet_step (fail))
            refine wpQuiet_nil ?_
            clear f0
            refine wpPlan_one ?_
            simp only [pickOps, List.getElem?_cons_succ, List.getElem?_cons_zero]
            obtain ⟨w5, hwd5⟩ : ∃ w5, w5 = w4.drewN 1 := ⟨_, rfl⟩
            have hx5 : Ext w4 w5 := by rw [hwd5]; exact Ext.drewN w4 1
            have H5 := Lib.hid (H4.out.ext hx5)
            have C5 : Hid (Chg (fun j => j = tk ∨ j = qb) w4 w5) := Lib.hid (C4.out.trans (Chg.of_ext hx5) (fun _ _ e => e))
            have R5 : Hid (Chg (fun j => j = tk ∨ j = qb) w4 w5) := Lib.hid (Chg.of_ext hx5)
            change wpList _ _ _ _ _ (w4.drewN 1)
            rw [← hwd5]
            clear hwd5 hx5
            go_wp2_with fail
            clear hb0 hb1 hb2 hb3
            refine (word_any H5.out.wds).mono ?_
            rintro e w6 ⟨he, htk, hc⟩
            obtain ⟨x6, rfl, hx6⟩ := word_name he
            have HX6 := Lib.hid hx6
            clear hx6
            have H6 := Lib.hid (H5.out.take hc htk)
            have C6 : Hid (Chg (fun j => j = tk ∨ j = qb) w4 w6) := Lib.hid (C5.out.trans (hc.mono (fun _ _ e => .inl e)) (fun _ _ e => e))
            have R6 : Hid (Chg (fun j => j = tk ∨ j = qb) w4 w6) := Lib.hid (R5.out.trans (hc.mono (fun _ _ e => .inl e)) (fun _ _ e => e))
            clear htk hc
            go_wp2_with fail
            refine thenX_mk (turned_of_chg (R6.out.mono (fun _ _ e => T2_of e))) (wpPlan_one ?_)
            simp only [pickOps, List.getElem?_cons_succ, List.getElem?_cons_zero]
            go_wp2_with fail
            refine (word_any H6.out.wds).mono ?_
            rintro e w7 ⟨he, htk, hc⟩
            obtain ⟨x7, rfl, hx7⟩ := word_name he
            have HX7 := Lib.hid hx7
            clear hx7
            have H7 := Lib.hid (H6.out.take hc htk)
            have C7 : Hid (Chg (fun j => j = tk ∨ j = qb) w4 w7) := Lib.hid (C6.out.trans (hc.mono (fun _ _ e => .inl e)) (fun _ _ e => e))
            have R7 : Hid (Chg (fun j => j = tk ∨ j = qb) w4 w7) := Lib.hid (R6.out.trans (hc.mono (fun _ _ e => .inl e)) (fun _ _ e => e))
            clear htk hc
            go_wp2_with fail
            refine thenX_mk (turned_of_chg (R7.out.mono (fun _ _ e => T2_of e))) (wpPlan_one ?_)
            simp only [pickOps, List.getElem?_cons_succ, List.getElem?_cons_zero]
            have dq := cell_of_block H7.out.qry 0
            have zq := free_of_block H7.out.qry 0
            simp only [List.getElem?_toArray, List.getElem?_cons_succ, List.getElem?_cons_zero] at dq
            go_wp2_with fail
            clear dq zq
            generalize hwn : World.setCell w7 _ _ = w8
            have hcn : Chg (· = qb) w7 w8 := by rw [← hwn]; exact setCell_chg _ _ _ _
            have H8 := Lib.hid (H7.out.put hcn (by rw [← hwn]; exact H7.out.qry.set0 _))
            have C8 : Hid (Chg (fun j => j = tk ∨ j = qb) w4 w8) := Lib.hid (C7.out.trans (hcn.mono (fun _ _ e => .inr e)) (fun _ _ e => e))
            have R8 : Hid (Chg (fun j => j = tk ∨ j = qb) w4 w8) := Lib.hid (R7.out.trans (hcn.mono (fun _ _ e => .inr e)) (fun _ _ e => e))
            clear hcn hwn
            skip
            refine thenX_mk (turned_of_chg (R8.out.mono (fun _ _ e => T2_of e))) (wpPlan_one ?_)
            simp only [pickOps, List.getElem?_cons_succ, List.getElem?_cons_zero]
            go_wp2_with fail
            refine thenX_mk (turned_of_chg (R8.out.mono (fun _ _ e => T2_of e))) (wpPlan_one ?_)
            simp only [pickOps, List.getElem?_cons_succ, List.getElem?_cons_zero]
            have dq := cell_of_block H8.out.qry 2
            have zq := free_of_block H8.out.qry 2
            simp only [List.getElem?_toArray, List.getElem?_cons_succ, List.getElem?_cons_zero] at dq
            go_wp2_with fail
            clear dq zq
            generalize hwn : World.setCell w8 _ _ = w9
            have hcn : Chg (· = qb) w8 w9 := by rw [← hwn]; exact setCell_chg _ _ _ _
            have H9 := Lib.hid (H8.out.put hcn (by rw [← hwn]; exact H8.out.qry.set2 _))
            have C9 : Hid (Chg (fun j => j = tk ∨ j = qb) w4 w9) := Lib.hid (C8.out.trans (hcn.mono (fun _ _ e => .inr e)) (fun _ _ e => e))
            have R9 : Hid (Chg (fun j => j = tk ∨ j = qb) w4 w9) := Lib.hid (R8.out.trans (hcn.mono (fun _ _ e => .inr e)) (fun _ _ e => e))
            clear hcn hwn
            skip
            refine thenX_mk (turned_of_chg (R9.out.mono (fun _ _ e => T2_of e))) (wpPlan_one ?_)
            simp only [pickOps, List.getElem?_cons_succ, List.getElem?_cons_zero]
            go_wp2_with fail
            refine thenX_mk (turned_of_chg (R9.out.mono (fun _ _ e => T2_of e))) (wpPlan_one ?_)
            simp only [pickOps, List.getElem?_cons_succ, List.getElem?_cons_zero]
            have dq := cell_of_block H9.out.qry 3
            have zq := free_of_block H9.out.qry 3
            simp only [List.getElem?_toArray, List.getElem?_cons_succ, List.getElem?_cons_zero] at dq
            go_wp2_with fail
            clear dq zq
            generalize hwn : World.setCell w9 _ _ = w10
            have hcn : Chg (· = qb) w9 w10 := by rw [← hwn]; exact setCell_chg _ _ _ _
            have H10 := Lib.hid (H9.out.put hcn (by rw [← hwn]; exact H9.out.qry.set3 _))
            have C10 : Hid (Chg (fun j => j = tk ∨ j = qb) w4 w10) := Lib.hid (C9.out.trans (hcn.mono (fun _ _ e => .inr e)) (fun _ _ e => e))
            have R10 : Hid (Chg (fun j => j = tk ∨ j = qb) w4 w10) := Lib.hid (R9.out.trans (hcn.mono (fun _ _ e => .inr e)) (fun _ _ e => e))
            clear hcn hwn
            refine thenX_last (wpPlan_done ?_)
            go_wp2_with fail
            refine (span_any H10.out).mono ?_
            rintro e w11 ⟨rfl, fv, tv, hps, hfr, hto, hc⟩
            have H11 := Lib.hid hps
            have C11 : Hid (Chg (fun j => j = tk ∨ j = qb) w4 w11) := Lib.hid (C10.out.trans hc (fun _ _ e => e))
            have HFR := Lib.hid hfr
            have HTO := Lib.hid hto
            clear hps hfr hto hc
            have ct := cell_of_block H11.out.box 0
            simp only [List.getElem?_toArray, List.getElem?_cons_succ, List.getElem?_cons_zero] at ct
            go_wp2_with fail
            clear ct
            refine (number_any H11.out.wds H11.out.lib H11.out.notk).mono ?_
            rintro e w12 ⟨g, rfl, hg, htk, hc⟩
            have H12 := Lib.hid (H11.out.take hc htk)
            have C12 : Hid (Chg (fun j => j = tk ∨ j = qb) w4 w12) := Lib.hid (C11.out.trans (hc.mono (fun _ _ e => .inl e)) (fun _ _ e => e))
            have HG := Lib.hid hg
            clear htk hc hg
            have dq := cell_of_block H12.out.qry 10
            have zq := free_of_block H12.out.qry 10
            simp only [List.getElem?_toArray, List.getElem?_cons_succ, List.getElem?_cons_zero] at dq
            go_wp2_with fail
            clear dq zq
            generalize hwn : World.setCell w12 _ _ = w13
            have hcn : Chg (· = qb) w12 w13 := by rw [← hwn]; exact setCell_chg _ _ _ _
            have H13 := Lib.hid (H12.out.put hcn (by rw [← hwn]; exact H12.out.qry.set10 _))
            have C13 : Hid (Chg (fun j => j = tk ∨ j = qb) w4 w13) := Lib.hid (C12.out.trans (hcn.mono (fun _ _ e => .inr e)) (fun _ _ e => e))
            clear hcn hwn
            go_wp2_with fail
            go_meet
            case rel => exact ⟨_, rfl, _, _, _, Lib.hid ⟨H13.out, by rw [HW0.out, h3, HX6.out, HX7.out]; exact end_asof HFR.out HTO.out HG.out, C13.out⟩⟩
          · have hb0 : (w0.toList == [114, 97, 119]) = false := by have e := same_eqQ w0 ⟨#[114, 97, 119]⟩; rw [show (⟨#[114, 97, 119]⟩ : ByteArray).toList = [114, 97, 119] by simp [ByteArray.toList_eq]] at e; rw [e]; exact decide_eq_false h0
            have hb1 : (w0.toList == [119, 105, 110, 100, 111, 119]) = false := by have e := same_eqQ w0 ⟨#[119, 105, 110, 100, 111, 119]⟩; rw [show (⟨#[119, 105, 110, 100, 111, 119]⟩ : ByteArray).toList = [119, 105, 110, 100, 111, 119] by simp [ByteArray.toList_eq]] at e; rw [e]; exact decide_eq_false h1
            have hb2 : (w0.toList == [115, 101, 115, 115, 105, 111, 110]) = false := by have e := same_eqQ w0 ⟨#[115, 101, 115, 115, 105, 111, 110]⟩; rw [show (⟨#[115, 101, 115, 115, 105, 111, 110]⟩ : ByteArray).toList = [115, 101, 115, 115, 105, 111, 110] by simp [ByteArray.toList_eq]] at e; rw [e]; exact decide_eq_false h2
            have hb3 : (w0.toList == [97, 115, 111, 102]) = false := by have e := same_eqQ w0 ⟨#[97, 115, 111, 102]⟩; rw [show (⟨#[97, 115, 111, 102]⟩ : ByteArray).toList = [97, 115, 111, 102] by simp [ByteArray.toList_eq]] at e; rw [e]; exact decide_eq_false h3
            have ct := cell_of_block H4.out.box 0
            simp only [List.getElem?_toArray, List.getElem?_cons_succ, List.getElem?_cons_zero] at ct
            obtain ⟨at0, ac0, hbk, -⟩ := H4.out.wds.ex
            have d1 := cell_of_block hbk 1
            have z1 := free_of_block hbk 1
            simp only [List.getElem?_toArray, List.getElem?_cons_succ, List.getElem?_cons_zero] at d1
            clear hbk
            go_wp2_with fail
            clear d1 z1 ct
            clear hb0 hb1 hb2 hb3
            generalize hwn : World.setCell w4 _ _ = w5
            have hcn : Chg (· = tk) w4 w5 := by rw [← hwn]; exact setCell_chg _ _ _ _
            have H5 := Lib.hid (H4.out.take hcn (by rw [← hwn]; exact H4.out.wds.flag))
            have C5 : Hid (Chg (fun j => j = tk ∨ j = qb) w4 w5) := Lib.hid (hcn.mono (fun _ _ e => .inl e))
            clear hcn hwn
            go_meet
            case rel => exact ⟨w0, rfl, _, _, _, Lib.hid ⟨H5.out, by rw [HW0.out]; exact end_none h0 h1 h2 h3 _ _, C5.out⟩⟩
  case rest =>
    obtain ⟨x13, rfl, bad, l, q, HH⟩ := hcut
    have hrbs := HRB.out
    have htks := HTK.out
    have hs1 := HX1.out.size
    have hs2 := HX2.out.size
    have hlt1 := block_lt HR1.out
    have HRC : Hid (QAt wc rb q0) := Lib.hid (((HR1.out.ext (HX2.out.trans HE3.out)).chg HC34.out (by omega)).chg HH.out.2.2 (by omega))
    have HEC : Hid (Ext w wc) := Lib.hid ((((Chg.of_ext (HX1.out.trans (HX2.out.trans HE3.out))).trans HC34.out (fun _ _ e => e)).trans HH.out.2.2 (fun _ _ e => e)).ext (fun i hi e => by omega))
    have HGE : Hid (w.heap.size ≤ rb) := Lib.hid (by omega)
    have HWSZ : Hid (∀ x ∈ ws, x.size < 4294967281) := Lib.hid (fun x hx => by have := split_len (by rw [← HWS.out]; exact hx); have := hhs.out; omega)
    clear hrbs htks hs1 hs2 hlt1
    have ct := cell_of_block HH.out.1.box 0
    simp only [List.getElem?_toArray, List.getElem?_cons_succ, List.getElem?_cons_zero] at ct
    obtain ⟨at1, ac1, hbk, -, -, -⟩ := HH.out.1.wds.ex
    have d0 := cell_of_block hbk 0
    have d1 := cell_of_block hbk 1
    simp only [List.getElem?_toArray, List.getElem?_cons_succ, List.getElem?_cons_zero] at d0 d1
    clear hbk
    have HARM := HRC.out
    rcases HH.out.2.1 with ⟨rfl, rfl, hq⟩ | ⟨hbl, hq⟩
    · have hsm := read_small hq 4294967281 (fun x hx => Nat.le_of_lt (HWSZ.out x hx))
      have HQ := Lib.hid hq
      have hm1 : q.ser.size ≤ maxLen := by unfold maxLen; omega
      have hm2 : q.oth.size ≤ maxLen := by unfold maxLen; omega
      have HM := Lib.hid (And.intro hm1 hm2)
      clear hq hsm hm1 hm2 HARM
      have e0 := cell_of_block HH.out.1.qry 0
      have e1 := cell_of_block HH.out.1.qry 1
      have e2 := cell_of_block HH.out.1.qry 2
      have e3 := cell_of_block HH.out.1.qry 3
      have e4 := cell_of_block HH.out.1.qry 4
      have e5 := cell_of_block HH.out.1.qry 5
      have e6 := cell_of_block HH.out.1.qry 6
      have e7 := cell_of_block HH.out.1.qry 7
      have e8 := cell_of_block HH.out.1.qry 8
      have e9 := cell_of_block HH.out.1.qry 9
      have e10 := cell_of_block HH.out.1.qry 10
      have e11 := cell_of_block HH.out.1.qry 11
      simp only [List.getElem?_toArray, List.getElem?_cons_succ, List.getElem?_cons_zero] at e0 e1 e2 e3 e4 e5 e6 e7 e8 e9 e10 e11
      simp only [List.length_nil] at d0
      go_wp2_with fail
      refine (check_any _ _ _ _ _ _ _ _ _ _ _ _ HM.out.1 HM.out.2 wc).mono ?_
      rintro e w8 ⟨rfl, hx8⟩
      have H8 : Hid (QAt w8 qb q) := Lib.hid (HH.out.1.qry.ext hx8)
      have HRC8 : Hid (QAt w8 rb q0) := Lib.hid (HRC.out.ext hx8)
      have HE8 := Lib.hid (HEC.out.trans hx8)
      clear e0 e1 e2 e3 e4 e5 e6 e7 e8 e9 e10 e11 ct d0 d1 hx8
      cases hk : q.ok with
      | true =>
        have hp : parseQ (splitW s) = some q := by unfold parseQ; rw [← HWS.out, HQ.out, Option.bind_some, if_pos hk]
        have HP := Lib.hid hp
        unfold Qy.ok at hk
        rw [hk, if_pos rfl]
        clear hk hp
        have e0 := cell_of_block H8.out 0
        have e1 := cell_of_block H8.out 1
        have e2 := cell_of_block H8.out 2
        have e3 := cell_of_block H8.out 3
        have e4 := cell_of_block H8.out 4
        have e5 := cell_of_block H8.out 5
        have e6 := cell_of_block H8.out 6
        have e7 := cell_of_block H8.out 7
        have e8 := cell_of_block H8.out 8
        have e9 := cell_of_block H8.out 9
        have e10 := cell_of_block H8.out 10
        have e11 := cell_of_block H8.out 11
        simp only [List.getElem?_toArray, List.getElem?_cons_succ, List.getElem?_cons_zero] at e0 e1 e2 e3 e4 e5 e6 e7 e8 e9 e10 e11
        go_wp2_with (first | (refine wpList_store_box rfl _ _ _ rfl _ _ _ _ rfl rfl HRC8.out rfl (by kernel_rfl) (by simp [Value.oneCell']) ?_; rintro w9 hb9 hc9; have HB9 := Lib.hid hb9; have HC9 := Lib.hid hc9; clear hb9 hc9))
        exact bodyPost_ret (results_box_tmp Tryd.results5 _ _ rfl HB9.out Tryd.underlying23 rfl (by kernel_rfl)) rfl ⟨by rw [HP.out]; rfl, ((Chg.of_ext HE8.out).trans HC9.out (fun _ _ e => e)).ext (fun i hi e => by have := HGE.out; omega)⟩
      | false =>
        have hp : parseQ (splitW s) = none := by unfold parseQ; rw [← HWS.out, HQ.out, Option.bind_some, if_neg (by rw [hk]; simp)]
        have HP := Lib.hid hp
        unfold Qy.ok at hk
        rw [hk, if_neg (by simp)]
        clear hk hp
        go_wp2_with (first | (refine wpList_store_box rfl _ _ _ rfl _ _ _ _ rfl rfl HRC8.out rfl (by kernel_rfl) (by simp [Value.oneCell']) ?_; rintro w9 hb9 hc9; have HB9 := Lib.hid hb9; have HC9 := Lib.hid hc9; clear hb9 hc9))
        exact bodyPost_ret (results_box_tmp Tryd.results5 _ _ rfl HB9.out Tryd.underlying23 rfl (by kernel_rfl)) rfl ⟨by rw [HP.out]; rfl, ((Chg.of_ext HE8.out).trans HC9.out (fun _ _ e => e)).ext (fun i hi e => by have := HGE.out; omega)⟩
    · have hp : parseQ (splitW s) = none := by unfold parseQ; rw [← HWS.out, hq]; rfl
      have HP := Lib.hid hp
      clear hq hp HARM
      cases bad with
      | true =>
        go_wp2_with (first | (refine wpList_store_box rfl _ _ _ rfl _ _ _ _ rfl rfl HRC.out rfl (by kernel_rfl) (by simp [Value.oneCell']) ?_; rintro w9 hb9 hc9; have HB9 := Lib.hid hb9; have HC9 := Lib.hid hc9; clear hb9 hc9))
        exact bodyPost_ret (results_box_tmp Tryd.results5 _ _ rfl HB9.out Tryd.underlying23 rfl (by kernel_rfl)) rfl ⟨by rw [HP.out]; rfl, ((Chg.of_ext HEC.out).trans HC9.out (fun _ _ e => e)).ext (fun i hi e => by have := HGE.out; omega)⟩
      | false =>
        have hln : l.length ≠ 0 := fun e => by
          rcases hbl with h | h
          · cases h
          · exact h (List.length_eq_zero_iff.1 e)
        have hpos : (0 : Int) < (l.length : Int) := by omega
        have hdp : decide ((0 : Int) < (l.length : Int)) = true := decide_eq_true hpos
        have hdn : decide (0 < l.length) = true := decide_eq_true (by omega)
        clear hbl
        go_wp2_with (first | (refine wpList_store_box rfl _ _ _ rfl _ _ _ _ rfl rfl HRC.out rfl (by kernel_rfl) (by simp [Value.oneCell']) ?_; rintro w9 hb9 hc9; have HB9 := Lib.hid hb9; have HC9 := Lib.hid hc9; clear hb9 hc9))
        exact bodyPost_ret (results_box_tmp Tryd.results5 _ _ rfl HB9.out Tryd.underlying23 rfl (by kernel_rfl)) rfl ⟨by rw [HP.out]; rfl, ((Chg.of_ext HEC.out).trans HC9.out (fun _ _ e => e)).ext (fun i hi e => by have := HGE.out; omega)⟩
end Go.Proofs.YtfndeocebpoeeaaDoor
