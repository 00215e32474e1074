/- QueryBack: the walk. -/
import Derived.Test.YtfndeocebpoeeaaDoorQby
import Derived.Test.YtfndeocebpoeeaaDoorQbz
namespace Go.Proofs.YtfndeocebpoeeaaDoor
open Go.RowKit Go.Sort Go.Lib

theorem text_asof : textQ ⟨3, 0, ⟨#[97]⟩, ⟨#[98]⟩, 0, 5, 0, 0, 0, 0, 0, 0⟩ = ⟨#[97, 115, 111, 102, 32, 97, 32, 98, 32, 48, 32, 53, 32, 48]⟩ ∧ errT ⟨3, 0, ⟨#[97]⟩, ⟨#[98]⟩, 0, 5, 0, 0, 0, 0, 0, 0⟩ = 0 := by
  have hk : Qy.ok ⟨3, 0, ⟨#[97]⟩, ⟨#[98]⟩, 0, 5, 0, 0, 0, 0, 0, 0⟩ = true := by decide +kernel
  unfold textQ errT
  rw [if_pos hk, if_pos hk]
  refine ⟨?_, rfl⟩
  decide +kernel
theorem text_q0 : textQ q0 = ⟨#[]⟩ ∧ errT q0 = 23 := by
  have hk : q0.ok = false := by decide +kernel
  unfold textQ errT
  rw [hk]
  exact ⟨rfl, rfl⟩
theorem parse_empty : gotQ (parseQ (splitW ⟨#[]⟩)) = q0.v ∧ errQ (parseQ (splitW ⟨#[]⟩)) = 23 := by
  have hs : splitW ⟨#[]⟩ = [⟨#[]⟩] := data_inj (by rw [splitW_data]; rfl)
  rw [hs]
  exact ⟨rfl, rfl⟩
theorem text_tiny {q : Qy} (h : q.ok = true) : q.text.size < 4294967281 := by
  have hw := words_len q
  have hx := ok_small h
  have hn := words_ne q
  show (Lib.join (q.words.map (·.data.toList)) [32]).length < _
  generalize q.words = l at *
  cases l with
  | nil => exact absurd rfl hn
  | cons x l =>
    have h1 : x.data.toList.length ≤ 64 := hx x List.mem_cons_self
    have := joinTail_small (l := l) (fun y hy => hx y (List.mem_cons_of_mem _ hy))
    simp only [List.length_cons] at hw
    rw [List.map_cons, Lib.join_cons, List.length_append]
    omega
theorem parse_small {s : ByteArray} {y : Qy} (h : parseQ (splitW s) = some y) (hs : s.size < 4294967281) : y.ser.size ≤ maxLen ∧ y.oth.size ≤ maxLen := by
  unfold parseQ at h
  obtain ⟨q', h1, h2⟩ := Option.bind_eq_some_iff.1 h
  split at h2
  · obtain rfl := Option.some.inj h2
    exact read_small h1 maxLen (fun x hx => by have := split_len hx; unfold maxLen; omega)
  · cases h2
theorem ne_qq (q : Qy) : ∀ W, (binOp .neq 23 q.v q.v).run Tryd.prog W = .ok (.bool false) W := fun W => by
  have h := neq_q q.op q.fn q.ser q.oth q.fr q.«to» q.wd q.st q.off q.gap q.tol q.fill q.fn q.oth q.wd q.st q.off q.gap q.tol q.fill W
  simp only [beq_self_eq_true, Bool.and_self, Bool.not_true] at h
  exact h
theorem eq_q0 : ∀ W, (binOp .eql 23 (.agg #[.int .i64 0, .int .i64 0, .string ⟨#[]⟩, .string ⟨#[]⟩, .int .i64 0, .int .i64 0, .int .i64 0, .int .i64 0, .int .i64 0, .int .i64 0, .int .i64 0, .int .i64 0]) (.agg #[.int .i64 0, .int .i64 0, .string ⟨#[]⟩, .string ⟨#[]⟩, .int .i64 0, .int .i64 0, .int .i64 0, .int .i64 0, .int .i64 0, .int .i64 0, .int .i64 0, .int .i64 0])).run Tryd.prog W = .ok (.bool true) W := fun W => by
  have hp : Tryd.prog.stoodInHeld 23 = false := by kernel_rfl
  have hu := Tryd.underlying23
  simp [go_sem, hp, hu]

set_option maxHeartbeats 16000000 in
set_option maxRecDepth 100000 in
theorem queryBack_any {w : World} (q : Qy) (s : ByteArray) (hl : HasLib w) (hs1 : q.ser.size ≤ maxLen) (hs2 : q.oth.size ≤ maxLen) (hs : s.size < 4294967281) :
    Calls Tryd.prog 3 #[q.v, .string s] w fun e w' => e = .returned (.bool true) ∧ Ext w w' := by
  have HL := Lib.hid hl
  have HS1 := Lib.hid hs1
  have HS2 := Lib.hid hs2
  have HS := Lib.hid hs
  clear hl hs1 hs2 hs
  unfold Qy.v qV
  go_enter Tryd.func3, Tryd.ntmps3
  go_wp2_with fail
  obtain ⟨qb, hqb⟩ : ∃ qb, qb = w.heap.size := ⟨_, rfl⟩
  rw [← hqb]
  generalize hW : World.alloc w _ = w1
  have HQ1 : Hid (QAt w1 qb q) := Lib.hid (by rw [← hW, hqb]; exact heap_alloc_new w _)
  have HX1 : Hid (Ext w w1) := Lib.hid (by rw [← hW]; exact (Ext.refl _).alloc _)
  clear hW hqb
  refine (text_any q (HL.out.ext HX1.out) HS1.out HS2.out).mono ?_
  rintro e w2 ⟨rfl, hx2⟩
  have HQ2 := Lib.hid (HQ1.out.ext hx2)
  have HX2 := Lib.hid (HX1.out.trans hx2)
  have HL2 := Lib.hid (HL.out.ext HX2.out)
  clear hx2 HQ1 HX1
  cases hk : q.ok with
  | true =>
    have HTQ : Hid (textQ q = q.text ∧ errT q = 0) := Lib.hid (by unfold textQ errT; rw [hk]; exact ⟨rfl, rfl⟩)
    have HPQ : Hid (gotQ (parseQ (splitW q.text)) = q.v ∧ errQ (parseQ (splitW q.text)) = 0) := Lib.hid (by rw [back_text hk]; exact ⟨rfl, rfl⟩)
    have HSZ : Hid (q.text.size < 4294967281) := Lib.hid (text_tiny hk)
    have HCK : Hid ((if checkB q.op q.fn q.ser q.oth q.fr q.«to» q.wd q.st q.off q.gap q.tol q.fill then (0 : Int) else 23) = 0) := Lib.hid (by unfold Qy.ok at hk; rw [hk]; rfl)
    clear hk
    rw [HTQ.out.1, HTQ.out.2]
    go_wp2_with fail
    refine (parse_any q.text HSZ.out HL2.out).mono ?_
    rintro e w3 ⟨rfl, hx⟩
    have HX3 := Lib.hid (HX2.out.trans hx)
    have HL3 := Lib.hid (HL2.out.ext hx)
    have HQ3 := Lib.hid (HQ2.out.ext hx)
    clear hx
    rw [HPQ.out.1, HPQ.out.2]
    clear HTQ HPQ HSZ
    unfold Qy.v qV
    go_upto_region 3 with fail
    obtain ⟨xb, hxb⟩ : ∃ xb, xb = w3.heap.size := ⟨_, rfl⟩
    rw [← hxb]
    generalize hn2 : World.alloc w3 _ = w4
    have HX4 : Hid (Ext w w4) := Lib.hid (by rw [← hn2]; exact HX3.out.trans ((Ext.refl _).alloc _))
    have HXB4 : Hid (QAt w4 xb q) := Lib.hid (by rw [← hn2, hxb]; exact heap_alloc_new w3 _)
    have HL4 : Hid (HasLib w4) := Lib.hid (by rw [← hn2]; exact HL3.out.ext ((Ext.refl _).alloc _))
    have HQ4 : Hid (QAt w4 qb q) := Lib.hid (by rw [← hn2]; exact HQ3.out.ext ((Ext.refl _).alloc _))
    clear hn2 hxb HX3 HL3 HQ3
    have y0 := cell_of_block HQ4.out 0
    have y1 := cell_of_block HQ4.out 1
    have y2 := cell_of_block HQ4.out 2
    have y3 := cell_of_block HQ4.out 3
    have y4 := cell_of_block HQ4.out 4
    have y5 := cell_of_block HQ4.out 5
    have y6 := cell_of_block HQ4.out 6
    have y7 := cell_of_block HQ4.out 7
    have y8 := cell_of_block HQ4.out 8
    have y9 := cell_of_block HQ4.out 9
    have y10 := cell_of_block HQ4.out 10
    have y11 := cell_of_block HQ4.out 11
    simp only [List.getElem?_toArray, List.getElem?_cons_succ, List.getElem?_cons_zero] at y0 y1 y2 y3 y4 y5 y6 y7 y8 y9 y10 y11
    go_wp2_with fail
    refine (check_any _ _ _ _ _ _ _ _ _ _ _ _ HS1.out HS2.out w4).mono ?_
    rintro e w5 ⟨rfl, hx⟩
    rw [HCK.out]
    have HX5 := Lib.hid (HX4.out.trans hx)
    have HXB5 := Lib.hid (HXB4.out.ext hx)
    have HL5 := Lib.hid (HL4.out.ext hx)
    have HQ5 := Lib.hid (HQ4.out.ext hx)
    clear hx
    clear y0 y1 y2 y3 y4 y5 y6 y7 y8 y9 y10 y11

    have y0 := cell_of_block HQ5.out 0
    have y1 := cell_of_block HQ5.out 1
    have y2 := cell_of_block HQ5.out 2
    have y3 := cell_of_block HQ5.out 3
    have y4 := cell_of_block HQ5.out 4
    have y5 := cell_of_block HQ5.out 5
    have y6 := cell_of_block HQ5.out 6
    have y7 := cell_of_block HQ5.out 7
    have y8 := cell_of_block HQ5.out 8
    have y9 := cell_of_block HQ5.out 9
    have y10 := cell_of_block HQ5.out 10
    have y11 := cell_of_block HQ5.out 11
    simp only [List.getElem?_toArray, List.getElem?_cons_succ, List.getElem?_cons_zero] at y0 y1 y2 y3 y4 y5 y6 y7 y8 y9 y10 y11
    have x0 := cell_of_block HXB5.out 0
    have x1 := cell_of_block HXB5.out 1
    have x2 := cell_of_block HXB5.out 2
    have x3 := cell_of_block HXB5.out 3
    have x4 := cell_of_block HXB5.out 4
    have x5 := cell_of_block HXB5.out 5
    have x6 := cell_of_block HXB5.out 6
    have x7 := cell_of_block HXB5.out 7
    have x8 := cell_of_block HXB5.out 8
    have x9 := cell_of_block HXB5.out 9
    have x10 := cell_of_block HXB5.out 10
    have x11 := cell_of_block HXB5.out 11
    simp only [List.getElem?_toArray, List.getElem?_cons_succ, List.getElem?_cons_zero] at x0 x1 x2 x3 x4 x5 x6 x7 x8 x9 x10 x11
    have hne := ne_qq q
    unfold Qy.v qV at hne
    have hgt : Tryd.prog.eqGuardType Tryd.prog.depth 23 = false := by kernel_rfl
    go_wp2_with fail
    refine (check_any _ _ _ _ _ _ _ _ _ _ _ _ HS1.out HS2.out w5).mono ?_
    rintro e w6 ⟨rfl, hx⟩
    rw [HCK.out]
    have HXN := Lib.hid (HX5.out.trans hx)
    have HLN := Lib.hid (HL5.out.ext hx)
    clear hx
    clear y0 y1 y2 y3 y4 y5 y6 y7 y8 y9 y10 y11 x0 x1 x2 x3 x4 x5 x6 x7 x8 x9 x10 x11
    clear hne hgt
    go_upto_region 5 with fail
    clear HL5 HX5 HQ5 HXB5 HX4 HL4 HXB4 HQ4
    go_wp2_with fail
    refine (parse_any s HS.out HLN.out).mono ?_
    rintro e n1 ⟨rfl, hx⟩
    have HLN1 := Lib.hid (HLN.out.ext hx)
    have HXN1 := Lib.hid (HXN.out.trans hx)
    clear hx
    cases hp : parseQ (splitW s) with
    | none =>
      clear hp
      rw [show gotQ none = qV 0 0 ⟨#[]⟩ ⟨#[]⟩ 0 0 0 0 0 0 0 0 from rfl, show errQ none = 23 from rfl]
      unfold qV
      go_upto_region 6 with fail
      obtain ⟨yb, hyb⟩ : ∃ yb, yb = n1.heap.size := ⟨_, rfl⟩
      rw [← hyb]
      generalize hn2 : World.alloc n1 _ = n2
      have HY2 : Hid (QAt n2 yb q0) := Lib.hid (by rw [← hn2, hyb]; exact heap_alloc_new n1 _)
      have HXN2 : Hid (Ext w n2) := Lib.hid (by rw [← hn2]; exact HXN1.out.trans ((Ext.refl _).alloc _))
      have HLN2 : Hid (HasLib n2) := Lib.hid (by rw [← hn2]; exact HLN1.out.ext ((Ext.refl _).alloc _))
      clear hn2 hyb
      have y0 := cell_of_block HY2.out 0
      have y1 := cell_of_block HY2.out 1
      have y2 := cell_of_block HY2.out 2
      have y3 := cell_of_block HY2.out 3
      have y4 := cell_of_block HY2.out 4
      have y5 := cell_of_block HY2.out 5
      have y6 := cell_of_block HY2.out 6
      have y7 := cell_of_block HY2.out 7
      have y8 := cell_of_block HY2.out 8
      have y9 := cell_of_block HY2.out 9
      have y10 := cell_of_block HY2.out 10
      have y11 := cell_of_block HY2.out 11
      simp only [List.getElem?_toArray, List.getElem?_cons_succ, List.getElem?_cons_zero] at y0 y1 y2 y3 y4 y5 y6 y7 y8 y9 y10 y11
      go_wp2_with fail
      refine (text_any q0 HLN2.out (Nat.zero_le _) (Nat.zero_le _)).mono ?_
      rintro e n3 ⟨rfl, hx⟩
      have HY3 := Lib.hid (HY2.out.ext hx)
      have HXN3 := Lib.hid (HXN2.out.trans hx)
      have HLN3 := Lib.hid (HLN2.out.ext hx)
      clear hx
      clear y0 y1 y2 y3 y4 y5 y6 y7 y8 y9 y10 y11
      rw [show textQ q0 = ⟨#[]⟩ from text_q0.1, show errT q0 = 23 from text_q0.2]
      go_wp2_with fail
      refine (text_any ⟨3, 0, ⟨#[97]⟩, ⟨#[98]⟩, 0, 5, 0, 0, 0, 0, 0, 0⟩ HLN3.out (by decide) (by decide)).mono ?_
      rintro e n4 ⟨rfl, hx⟩
      have HY4 := Lib.hid (HY3.out.ext hx)
      have HXN4 := Lib.hid (HXN3.out.trans hx)
      clear hx
      rw [text_asof.1, text_asof.2]
      have heq := eq_q0
      have hgt : Tryd.prog.eqGuardType Tryd.prog.depth 23 = false := by kernel_rfl
      have y0 := cell_of_block HY4.out 0
      have y1 := cell_of_block HY4.out 1
      have y2 := cell_of_block HY4.out 2
      have y3 := cell_of_block HY4.out 3
      have y4 := cell_of_block HY4.out 4
      have y5 := cell_of_block HY4.out 5
      have y6 := cell_of_block HY4.out 6
      have y7 := cell_of_block HY4.out 7
      have y8 := cell_of_block HY4.out 8
      have y9 := cell_of_block HY4.out 9
      have y10 := cell_of_block HY4.out 10
      have y11 := cell_of_block HY4.out 11
      simp only [List.getElem?_toArray, List.getElem?_cons_succ, List.getElem?_cons_zero] at y0 y1 y2 y3 y4 y5 y6 y7 y8 y9 y10 y11
      simp only [q0] at y0 y1 y2 y3 y4 y5 y6 y7 y8 y9 y10 y11
      go_wp2_with fail
      go_ret
      exact ⟨rfl, HXN4.out⟩
    | some y =>
      obtain ⟨hok, htx⟩ := back_read hp
      have hsm := parse_small hp HS.out
      rw [show gotQ (some y) = y.v from rfl, show errQ (some y) = 0 from rfl]
      have HOKY := Lib.hid hok
      have HTX := Lib.hid htx
      have HSMY := Lib.hid hsm
      clear hp hok htx hsm
      unfold Qy.v qV
      go_upto_region 6 with fail
      obtain ⟨yb, hyb⟩ : ∃ yb, yb = n1.heap.size := ⟨_, rfl⟩
      rw [← hyb]
      generalize hn2 : World.alloc n1 _ = n2
      have HY2 : Hid (QAt n2 yb y) := Lib.hid (by rw [← hn2, hyb]; exact heap_alloc_new n1 _)
      have HXN2 : Hid (Ext w n2) := Lib.hid (by rw [← hn2]; exact HXN1.out.trans ((Ext.refl _).alloc _))
      have HLN2 : Hid (HasLib n2) := Lib.hid (by rw [← hn2]; exact HLN1.out.ext ((Ext.refl _).alloc _))
      clear hn2 hyb
      have y0 := cell_of_block HY2.out 0
      have y1 := cell_of_block HY2.out 1
      have y2 := cell_of_block HY2.out 2
      have y3 := cell_of_block HY2.out 3
      have y4 := cell_of_block HY2.out 4
      have y5 := cell_of_block HY2.out 5
      have y6 := cell_of_block HY2.out 6
      have y7 := cell_of_block HY2.out 7
      have y8 := cell_of_block HY2.out 8
      have y9 := cell_of_block HY2.out 9
      have y10 := cell_of_block HY2.out 10
      have y11 := cell_of_block HY2.out 11
      simp only [List.getElem?_toArray, List.getElem?_cons_succ, List.getElem?_cons_zero] at y0 y1 y2 y3 y4 y5 y6 y7 y8 y9 y10 y11
      go_wp2_with fail
      refine (text_any y HLN2.out HSMY.out.1 HSMY.out.2).mono ?_
      rintro e n3 ⟨rfl, hx⟩
      have HY3 := Lib.hid (HY2.out.ext hx)
      have HXN3 := Lib.hid (HXN2.out.trans hx)
      have HLN3 := Lib.hid (HLN2.out.ext hx)
      clear hx
      clear y0 y1 y2 y3 y4 y5 y6 y7 y8 y9 y10 y11
      rw [show textQ y = s from by unfold textQ; rw [if_pos HOKY.out]; exact HTX.out, show errT y = 0 from by unfold errT; rw [if_pos HOKY.out]]
      go_wp2_with fail
      go_ret
      exact ⟨rfl, HXN3.out⟩
  | false =>
    have HTQ : Hid (textQ q = ⟨#[]⟩ ∧ errT q = 23) := Lib.hid (by unfold textQ errT; rw [hk]; exact ⟨rfl, rfl⟩)
    have HPQ : Hid (gotQ (parseQ (splitW ⟨#[]⟩)) = q0.v ∧ errQ (parseQ (splitW ⟨#[]⟩)) = 23) := Lib.hid parse_empty
    have HSZ : Hid ((⟨#[]⟩ : ByteArray).size < 4294967281) := Lib.hid (by decide)
    have HCK : Hid ((if checkB q.op q.fn q.ser q.oth q.fr q.«to» q.wd q.st q.off q.gap q.tol q.fill then (0 : Int) else 23) = 23) := Lib.hid (by unfold Qy.ok at hk; rw [hk]; rfl)
    clear hk
    rw [HTQ.out.1, HTQ.out.2]
    go_wp2_with fail
    refine (parse_any ⟨#[]⟩ HSZ.out HL2.out).mono ?_
    rintro e w3 ⟨rfl, hx⟩
    have HX3 := Lib.hid (HX2.out.trans hx)
    have HL3 := Lib.hid (HL2.out.ext hx)
    have HQ3 := Lib.hid (HQ2.out.ext hx)
    clear hx
    rw [HPQ.out.1, HPQ.out.2]
    clear HTQ HPQ HSZ
    unfold Qy.v qV
    go_upto_region 3 with fail
    obtain ⟨xb, hxb⟩ : ∃ xb, xb = w3.heap.size := ⟨_, rfl⟩
    rw [← hxb]
    generalize hn2 : World.alloc w3 _ = w4
    have HX4 : Hid (Ext w w4) := Lib.hid (by rw [← hn2]; exact HX3.out.trans ((Ext.refl _).alloc _))
    have HXB4 : Hid (QAt w4 xb q0) := Lib.hid (by rw [← hn2, hxb]; exact heap_alloc_new w3 _)
    have HL4 : Hid (HasLib w4) := Lib.hid (by rw [← hn2]; exact HL3.out.ext ((Ext.refl _).alloc _))
    have HQ4 : Hid (QAt w4 qb q) := Lib.hid (by rw [← hn2]; exact HQ3.out.ext ((Ext.refl _).alloc _))
    clear hn2 hxb HX3 HL3 HQ3
    have y0 := cell_of_block HQ4.out 0
    have y1 := cell_of_block HQ4.out 1
    have y2 := cell_of_block HQ4.out 2
    have y3 := cell_of_block HQ4.out 3
    have y4 := cell_of_block HQ4.out 4
    have y5 := cell_of_block HQ4.out 5
    have y6 := cell_of_block HQ4.out 6
    have y7 := cell_of_block HQ4.out 7
    have y8 := cell_of_block HQ4.out 8
    have y9 := cell_of_block HQ4.out 9
    have y10 := cell_of_block HQ4.out 10
    have y11 := cell_of_block HQ4.out 11
    simp only [List.getElem?_toArray, List.getElem?_cons_succ, List.getElem?_cons_zero] at y0 y1 y2 y3 y4 y5 y6 y7 y8 y9 y10 y11
    go_wp2_with fail
    refine (check_any _ _ _ _ _ _ _ _ _ _ _ _ HS1.out HS2.out w4).mono ?_
    rintro e w5 ⟨rfl, hx⟩
    rw [HCK.out]
    have HX5 := Lib.hid (HX4.out.trans hx)
    have HXB5 := Lib.hid (HXB4.out.ext hx)
    have HL5 := Lib.hid (HL4.out.ext hx)
    have HQ5 := Lib.hid (HQ4.out.ext hx)
    clear hx
    clear y0 y1 y2 y3 y4 y5 y6 y7 y8 y9 y10 y11

    have y0 := cell_of_block HQ5.out 0
    have y1 := cell_of_block HQ5.out 1
    have y2 := cell_of_block HQ5.out 2
    have y3 := cell_of_block HQ5.out 3
    have y4 := cell_of_block HQ5.out 4
    have y5 := cell_of_block HQ5.out 5
    have y6 := cell_of_block HQ5.out 6
    have y7 := cell_of_block HQ5.out 7
    have y8 := cell_of_block HQ5.out 8
    have y9 := cell_of_block HQ5.out 9
    have y10 := cell_of_block HQ5.out 10
    have y11 := cell_of_block HQ5.out 11
    simp only [List.getElem?_toArray, List.getElem?_cons_succ, List.getElem?_cons_zero] at y0 y1 y2 y3 y4 y5 y6 y7 y8 y9 y10 y11
    go_wp2_with fail
    refine (check_any _ _ _ _ _ _ _ _ _ _ _ _ HS1.out HS2.out w5).mono ?_
    rintro e w6 ⟨rfl, hx⟩
    rw [HCK.out]
    have HXN := Lib.hid (HX5.out.trans hx)
    have HLN := Lib.hid (HL5.out.ext hx)
    clear hx
    clear y0 y1 y2 y3 y4 y5 y6 y7 y8 y9 y10 y11
    go_upto_region 5 with fail
    clear HL5 HX5 HQ5 HXB5 HX4 HL4 HXB4 HQ4
    go_wp2_with fail
    refine (parse_any s HS.out HLN.out).mono ?_
    rintro e n1 ⟨rfl, hx⟩
    have HLN1 := Lib.hid (HLN.out.ext hx)
    have HXN1 := Lib.hid (HXN.out.trans hx)
    clear hx
    cases hp : parseQ (splitW s) with
    | none =>
      clear hp
      rw [show gotQ none = qV 0 0 ⟨#[]⟩ ⟨#[]⟩ 0 0 0 0 0 0 0 0 from rfl, show errQ none = 23 from rfl]
      unfold qV
      go_upto_region 6 with fail
      obtain ⟨yb, hyb⟩ : ∃ yb, yb = n1.heap.size := ⟨_, rfl⟩
      rw [← hyb]
      generalize hn2 : World.alloc n1 _ = n2
      have HY2 : Hid (QAt n2 yb q0) := Lib.hid (by rw [← hn2, hyb]; exact heap_alloc_new n1 _)
      have HXN2 : Hid (Ext w n2) := Lib.hid (by rw [← hn2]; exact HXN1.out.trans ((Ext.refl _).alloc _))
      have HLN2 : Hid (HasLib n2) := Lib.hid (by rw [← hn2]; exact HLN1.out.ext ((Ext.refl _).alloc _))
      clear hn2 hyb
      have y0 := cell_of_block HY2.out 0
      have y1 := cell_of_block HY2.out 1
      have y2 := cell_of_block HY2.out 2
      have y3 := cell_of_block HY2.out 3
      have y4 := cell_of_block HY2.out 4
      have y5 := cell_of_block HY2.out 5
      have y6 := cell_of_block HY2.out 6
      have y7 := cell_of_block HY2.out 7
      have y8 := cell_of_block HY2.out 8
      have y9 := cell_of_block HY2.out 9
      have y10 := cell_of_block HY2.out 10
      have y11 := cell_of_block HY2.out 11
      simp only [List.getElem?_toArray, List.getElem?_cons_succ, List.getElem?_cons_zero] at y0 y1 y2 y3 y4 y5 y6 y7 y8 y9 y10 y11
      go_wp2_with fail
      refine (text_any q0 HLN2.out (Nat.zero_le _) (Nat.zero_le _)).mono ?_
      rintro e n3 ⟨rfl, hx⟩
      have HY3 := Lib.hid (HY2.out.ext hx)
      have HXN3 := Lib.hid (HXN2.out.trans hx)
      have HLN3 := Lib.hid (HLN2.out.ext hx)
      clear hx
      clear y0 y1 y2 y3 y4 y5 y6 y7 y8 y9 y10 y11
      rw [show textQ q0 = ⟨#[]⟩ from text_q0.1, show errT q0 = 23 from text_q0.2]
      go_wp2_with fail
      refine (text_any ⟨3, 0, ⟨#[97]⟩, ⟨#[98]⟩, 0, 5, 0, 0, 0, 0, 0, 0⟩ HLN3.out (by decide) (by decide)).mono ?_
      rintro e n4 ⟨rfl, hx⟩
      have HY4 := Lib.hid (HY3.out.ext hx)
      have HXN4 := Lib.hid (HXN3.out.trans hx)
      clear hx
      rw [text_asof.1, text_asof.2]
      have heq := eq_q0
      have hgt : Tryd.prog.eqGuardType Tryd.prog.depth 23 = false := by kernel_rfl
      have y0 := cell_of_block HY4.out 0
      have y1 := cell_of_block HY4.out 1
      have y2 := cell_of_block HY4.out 2
      have y3 := cell_of_block HY4.out 3
      have y4 := cell_of_block HY4.out 4
      have y5 := cell_of_block HY4.out 5
      have y6 := cell_of_block HY4.out 6
      have y7 := cell_of_block HY4.out 7
      have y8 := cell_of_block HY4.out 8
      have y9 := cell_of_block HY4.out 9
      have y10 := cell_of_block HY4.out 10
      have y11 := cell_of_block HY4.out 11
      simp only [List.getElem?_toArray, List.getElem?_cons_succ, List.getElem?_cons_zero] at y0 y1 y2 y3 y4 y5 y6 y7 y8 y9 y10 y11
      simp only [q0] at y0 y1 y2 y3 y4 y5 y6 y7 y8 y9 y10 y11
      go_wp2_with fail
      go_ret
      exact ⟨rfl, HXN4.out⟩
    | some y =>
      obtain ⟨hok, htx⟩ := back_read hp
      have hsm := parse_small hp HS.out
      rw [show gotQ (some y) = y.v from rfl, show errQ (some y) = 0 from rfl]
      have HOKY := Lib.hid hok
      have HTX := Lib.hid htx
      have HSMY := Lib.hid hsm
      clear hp hok htx hsm
      unfold Qy.v qV
      go_upto_region 6 with fail
      obtain ⟨yb, hyb⟩ : ∃ yb, yb = n1.heap.size := ⟨_, rfl⟩
      rw [← hyb]
      generalize hn2 : World.alloc n1 _ = n2
      have HY2 : Hid (QAt n2 yb y) := Lib.hid (by rw [← hn2, hyb]; exact heap_alloc_new n1 _)
      have HXN2 : Hid (Ext w n2) := Lib.hid (by rw [← hn2]; exact HXN1.out.trans ((Ext.refl _).alloc _))
      have HLN2 : Hid (HasLib n2) := Lib.hid (by rw [← hn2]; exact HLN1.out.ext ((Ext.refl _).alloc _))
      clear hn2 hyb
      have y0 := cell_of_block HY2.out 0
      have y1 := cell_of_block HY2.out 1
      have y2 := cell_of_block HY2.out 2
      have y3 := cell_of_block HY2.out 3
      have y4 := cell_of_block HY2.out 4
      have y5 := cell_of_block HY2.out 5
      have y6 := cell_of_block HY2.out 6
      have y7 := cell_of_block HY2.out 7
      have y8 := cell_of_block HY2.out 8
      have y9 := cell_of_block HY2.out 9
      have y10 := cell_of_block HY2.out 10
      have y11 := cell_of_block HY2.out 11
      simp only [List.getElem?_toArray, List.getElem?_cons_succ, List.getElem?_cons_zero] at y0 y1 y2 y3 y4 y5 y6 y7 y8 y9 y10 y11
      go_wp2_with fail
      refine (text_any y HLN2.out HSMY.out.1 HSMY.out.2).mono ?_
      rintro e n3 ⟨rfl, hx⟩
      have HY3 := Lib.hid (HY2.out.ext hx)
      have HXN3 := Lib.hid (HXN2.out.trans hx)
      have HLN3 := Lib.hid (HLN2.out.ext hx)
      clear hx
      clear y0 y1 y2 y3 y4 y5 y6 y7 y8 y9 y10 y11
      rw [show textQ y = s from by unfold textQ; rw [if_pos HOKY.out]; exact HTX.out, show errT y = 0 from by unfold errT; rw [if_pos HOKY.out]]
      go_wp2_with fail
      go_ret
      exact ⟨rfl, HXN3.out⟩
end Go.Proofs.YtfndeocebpoeeaaDoor
