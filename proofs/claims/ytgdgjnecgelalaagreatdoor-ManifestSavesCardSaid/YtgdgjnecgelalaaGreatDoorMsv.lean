/- ManifestSaves: the walk. -/
import Derived.Test.YtgdgjnecgelalaaGreatDoorEt
import Derived.Test.YtgdgjnecgelalaaGreatDoorDiskN0
import Derived.Deep.DeepCutAuto
import Derived.Deep.CutBlock
namespace Go.Proofs.YtgdgjnecgelalaaGreatDoor
open Go.RowKit Go.Sort Go.Lib

theorem i64_and16383 (n : Int) : bits .and .i64 n 16383 = n % 16384 := by
  have h : (BitVec.ofInt 64 16383).toNat = 2 ^ 14 - 1 := by decide
  have key : (BitVec.ofInt 64 n &&& BitVec.ofInt 64 16383).toNat = (n % ((2 ^ 64 : Nat) : Int)).toNat % 2 ^ 14 := by
    rw [BitVec.toNat_and, BitVec.toNat_ofInt, h, Nat.and_two_pow_sub_one_eq_mod]
  show IntKind.i64.wrap ((BitVec.ofInt 64 n &&& BitVec.ofInt 64 16383).toNat : Nat) = n % 16384
  rw [key, IntKind.wrap_i64]
  omega
theorem loadS_fits (S : DiskS) : (loadS S).1.fl.length ≤ 512 ∧ (loadS S).1.ti.length ≤ 4 := by
  unfold loadS
  split
  · exact ⟨by decide, by decide⟩
  · rename_i f _
    cases h : staRd f.bytes with
    | none => exact ⟨by decide, by decide⟩
    | some s => exact staRd_fits (l := f.bytes) (by rw [h]; rfl)
/-- A state is saved on a new disk that has room for it. -/
theorem save_new {R : Int} {s : Sta} (hr : staR s = true) (hR : ((sealL 7 (staP s)).length : Int) ≤ R) (hb : (sealL 7 (staP s)).length ≤ 100000) : ∃ u ops, saveS (newDisk R) s = (0, ⟨[(fM, ⟨sealL 7 (staP s), (sealL 7 (staP s)).length, true⟩)], R, u, -1, ops⟩) := by
  generalize hbl : sealL 7 (staP s) = bl at *
  have hA : (newDisk R).append fN bl = (0, ⟨[(fN, ⟨bl, 0, false⟩)], R, (bl.length : Nat), -1, 1⟩) := by
    unfold DiskS.append DiskS.doing
    rw [show (newDisk R).left = -1 from rfl, stops_one (by omega)]
    simp only
    unfold DiskS.put
    rw [show aget (newDisk R).files fN = none from rfl]
    have h1 : ¬ ((newDisk R).room - (newDisk R).used < (bl.length : Int)) := by
      show ¬ (R - 0 < (bl.length : Int))
      omega
    have h2 : ¬ (512 ≤ (newDisk R).files.length ∨ 1048576 < bl.length) := by
      show ¬ (512 ≤ 0 ∨ 1048576 < bl.length)
      omega
    rw [if_neg h1]
    simp only
    rw [if_neg h2]
    simp [newDisk, DiskS.count, aput]
  unfold saveS
  rw [if_pos hr, show saveA (newDisk R) = (0, newDisk R) from rfl, hbl]
  unfold thenS
  simp only [if_true]
  rw [hA]
  simp only [if_true]
  have hY : (⟨[(fN, ⟨bl, 0, false⟩)], R, (bl.length : Nat), -1, 1⟩ : DiskS).sync fN = (0, ⟨[(fN, ⟨bl, bl.length, true⟩)], R, (bl.length : Nat), -1, 2⟩) := by
    unfold DiskS.sync DiskS.onFile DiskS.doing
    simp only
    rw [stops_one (by omega), show aget [(fN, (⟨bl, 0, false⟩ : FileS))] fN = some ⟨bl, 0, false⟩ from rfl]
    simp only [if_true]
    unfold DiskS.synced
    simp only
    rw [show aget [(fN, (⟨bl, 0, false⟩ : FileS))] fN = some ⟨bl, 0, false⟩ from rfl]
    rfl
  rw [hY]
  simp only [if_true]
  have hN : (⟨[(fN, ⟨bl, bl.length, true⟩)], R, (bl.length : Nat), -1, 2⟩ : DiskS).rename fN fM = (0, ⟨[(fM, ⟨bl, bl.length, true⟩)], R, (bl.length : Nat), -1, 3⟩) := by
    unfold DiskS.rename DiskS.onFile DiskS.doing
    simp only
    rw [stops_two (by omega), show aget [(fN, (⟨bl, bl.length, true⟩ : FileS))] fN = some ⟨bl, bl.length, true⟩ from rfl]
    simp only [if_true]
    unfold DiskS.renamed
    rw [if_neg fN_ne]
    simp only
    rw [show aget [(fN, (⟨bl, bl.length, true⟩ : FileS))] fN = some ⟨bl, bl.length, true⟩ from rfl]
    simp [DiskS.drop, aget, aput, adel, fM, fN, DiskS.count]
  exact ⟨_, _, hN⟩
def sta7 : Sta := ⟨0, 0, 7, ⟨false, 0, 0⟩, [], []⟩
theorem sta7_right : staR sta7 = true ∧ sta7.km.ok := ⟨by decide, ⟨by decide, by decide, by decide, by decide⟩⟩
theorem sta7_len : (sealL 7 (staP sta7)).length ≤ 100 := by
  rw [sealL_len]
  decide +kernel
theorem save_seven : ∃ S, saveS (newDisk 100) sta7 = (0, S) ∧ loadS S = (sta7, true, 0) := by
  obtain ⟨u, ops, h⟩ := save_new (R := 100) sta7_right.1 (by have := sta7_len; omega) (by have := sta7_len; omega)
  refine ⟨_, h, ?_⟩
  unfold loadS
  rw [show aget (⟨[(fM, ⟨sealL 7 (staP sta7), (sealL 7 (staP sta7)).length, true⟩)], 100, u, -1, ops⟩ : DiskS).files fM = some ⟨sealL 7 (staP sta7), (sealL 7 (staP sta7)).length, true⟩ from rfl]
  simp only
  rw [staRd_seal sta7_right.1 sta7_right.2 (by have := staP_len sta7_right.1 sta7_right.2; omega)]
  rfl

set_option maxHeartbeats 4000000 in
/-- Save on no disk. -/
theorem manSave_nil (w : World) (s : Sta) (fa ta : Option Addr) (fn fc tn tc : Nat) :
    Calls Tryz.prog 10 #[.pointer none, .agg (staC s fa fn fc ta tn tc)] w fun e w' => e = .returned (.int .i64 1) ∧ Ext w w' := by
  obtain ⟨x, r, q, ⟨mb, mt, mg⟩, fl, ti⟩ := s
  go_enter Tryz.func10, Tryz.ntmps10
  go_wp2_with fail
  generalize hW : (w.alloc _).alloc _ = W
  have HX : Hid (Ext w W) := Lib.hid (by rw [← hW]; exact ((Ext.refl w).alloc _).alloc _)
  clear hW
  refine (read_nobody (.inl rfl) fN).mono ?_
  rintro e w1 ⟨rfl, rfl⟩
  go_wp2_with fail
  go_ret
  exact ⟨rfl, HX.out⟩

/-- Both disks, in a round. -/
def SvR (w : World) (d rd j : Nat) (wr : World) : Prop := ∃ S B BR, PlI w d rd S S B BR wr ∧ DInv S j

set_option maxHeartbeats 16000000 in
set_option maxRecDepth 100000 in
theorem manSaves_any (w : World) (a : Option Addr) (n c : Nat) (l : List Sx) (hl : Src w 8 (.slice a n c) n (sxs l)) (hok : ∀ p ∈ l, p.Ok w) (hn : n ≤ 4611686018427387904) (cut room : Int) (hcut : -9223372036854775808 ≤ cut ∧ cut ≤ 9223372036854775807) (hg : HasET w) :
    Calls Tryz.prog 3 #[.slice a n c, .int .i64 cut, .int .i64 room] w fun e w' => e = .returned (.bool true) ∧ Ext w w' := by
  have HL := Lib.hid hl
  have HOK := Lib.hid hok
  have HG := Lib.hid hg
  have HCU := Lib.hid hcut
  clear hl hok hg hcut
  obtain ⟨m, hm, hm0, hm1⟩ : ∃ m : Int, room % 16384 = m ∧ 0 ≤ m ∧ m ≤ 1073741824 := ⟨_, rfl, by omega, by omega⟩
  have hrm : bits .and .i64 room 16383 = m := by rw [i64_and16383, hm]
  have HRM := Lib.hid hrm
  clear hm hrm
  go_enter Tryz.func3, Tryz.ntmps3
  go_wp2_with fail
  rw [HRM.out]
  refine (disk_new hm0 hm1 w).mono ?_
  rintro e w1 ⟨rfl, hd1, hx1⟩
  have HD1 := Lib.hid hd1
  have HX1 := Lib.hid hx1
  obtain ⟨d, hd0⟩ : ∃ d0, d0 = w.heap.size + 1 := ⟨_, rfl⟩
  rw [← hd0] at HD1 ⊢
  have HD0 := Lib.hid hd0
  clear hd1 hx1 hd0
  go_wp2_with fail
  rw [HRM.out]
  refine (rk_new hm0 hm1 w1).mono ?_
  rintro e w2 ⟨rfl, hr2, hx2⟩
  obtain ⟨rd, hrd0⟩ : ∃ rd0, rd0 = w1.heap.size := ⟨_, rfl⟩
  have hpl : ∃ B BR, PlI w d rd (newDisk m) (newDisk m) B BR w2 := by
    have h1 := HX1.out.size
    have h2 := HD1.out.lt
    have h3 := HD0.out
    refine ⟨_, _, ⟨HD1.out.ext hx2, by rw [hrd0]; exact hr2, fun b hb hr => ?_, fun b hb => ?_, fun b hb => ?_, HX1.out.trans hx2⟩⟩
    · have := h2 b hb; simp at hr; omega
    · simp at hb; omega
    · simp at hb; omega
  obtain ⟨B2, BR2, hpl⟩ := hpl
  have I2 := Lib.hid hpl
  rw [← hrd0]
  clear hr2 hx2 hrd0 HD1 HX1 HD0 hpl
  go_wp2_with fail
  refine (disk_cut I2.out.x cut).mono ?_
  rintro e w3 ⟨rfl, hto⟩
  obtain ⟨B3, hI3⟩ := I2.out.stepX hto
  have I3 := Lib.hid hI3
  clear hto hI3
  obtain ⟨hl1, y1, y2, hrdB⟩ := I3.out.y.left cut
  have HL1 := Lib.hid hl1
  have HRB := Lib.hid hrdB
  clear hl1 hrdB
  go_upto_if 43 with fail
  clear y1 y2
  have hc4 := setCell_chg w3 rd 1 (.int .i64 cut)
  generalize World.setCell _ _ _ = w4 at *
  have HC4 : Hid (Chg (· ∈ BR2) w3 w4) := Lib.hid (hc4.mono (fun i _ e => by rw [e]; exact HRB.out))
  clear hc4
  have hI4 := I3.out.stepY ⟨BR2, HL1.out, HC4.out, fun _ hb => .inl hb⟩
  obtain ⟨BR4, hI4⟩ := hI4
  have I4 := Lib.hid hI4
  clear hI4 HL1 HRB HC4 I3
  go_cut [9] (fun s9 wx => s9 = .pointer (some ⟨rd, 0, none⟩) ∧ Hid (SvR w d rd 0 wx))
  case first =>
    rcases Int.lt_or_le cut 0 with hlt | hge
    · obtain ⟨hl1, y1, y2, hrdB⟩ := I4.out.y.left (-1)
      have HL1 := Lib.hid hl1
      have HRB := Lib.hid hrdB
      clear hl1 hrdB
      go_wp2_with fail
      clear y1 y2
      have hc4 := setCell_chg w4 rd 1 (.int .i64 (-1))
      generalize World.setCell _ _ _ = w5 at *
      have HC5 : Hid (Chg (· ∈ BR4) w4 w5) := Lib.hid (hc4.mono (fun i _ e => by rw [e]; exact HRB.out))
      clear hc4
      have HP : Hid (SvR w d rd 0 w5) := Lib.hid (by
        obtain ⟨BR5, h5⟩ := I4.out.stepY ⟨BR4, HL1.out, HC5.out, fun _ hb => .inl hb⟩
        have e1 : (newDisk m).cut cut = newDisk m := by unfold DiskS.cut newDisk; simp only [DiskS.mk.injEq, true_and, and_true]; omega
        rw [e1] at h5
        exact ⟨_, _, _, h5, newDisk_inv hm0 hm1⟩)
      go_meet
      case rel => exact ⟨rfl, HP⟩
    · have hnl : ¬ cut < 0 := by omega
      have HP : Hid (SvR w d rd 0 w4) := Lib.hid (by
        have e1 : (newDisk m).cut cut = { newDisk m with left := cut } := by unfold DiskS.cut newDisk; simp only [DiskS.mk.injEq, true_and, and_true]; omega
        have h5 := I4.out
        rw [e1] at h5
        have h6 := (newDisk_inv hm0 hm1).cut HCU.out.2
        rw [e1] at h6
        exact ⟨_, _, _, h5, h6⟩)
      go_wp2_with fail
      go_meet
      case rel => exact ⟨rfl, HP⟩
  case rest =>
    obtain ⟨rfl, HP⟩ := hcut
    clear I4 I2 HRM HCU hm0 hm1
    go_wp2_with fail
    go_loopw [11, 12, 13, 14, 15, 16, 17] (fun s11 s12 s13 s14 s15 s16 s17 wr => ∃ i : Nat, s11 = .int .i64 i ∧ i ≤ n ∧ i ≤ 10 ∧ Hid (SvR w d rd (4 * i) wr)) (fun s11 _ _ _ _ _ _ _ => n - (RowKit.intOf s11).toNat)
    case atStart => exact ⟨0, rfl, by omega, by omega, HP⟩
    case round =>
      clear HP
      obtain ⟨i, rfl, hi, hi10, HP⟩ := hrel
      rcases Classical.em (i < n ∧ i < 10) with hlt | hno
      · obtain ⟨hlt, hlt10⟩ := hlt
        obtain ⟨S, B, BR, hI, hinv⟩ := HP.out
        have I := Lib.hid hI
        have HINV := Lib.hid hinv
        clear hI hinv HP
        obtain ⟨qb, qo, p, rfl, hq, hcs⟩ := sxs_src HL.out hlt
        have HQ := Lib.hid (HOK.out p (List.mem_of_getElem? hq))
        have HC : Hid (∀ W, Ext w W → ∀ j u, p.cells[j]? = some u → W.cell? ⟨qb, qo + (i * 8 + j), none⟩ = some u) := Lib.hid (fun W hx j u hu => by
          have := hcs j u hu
          rw [hx.cell (World.block_lt_of_cell? w _ this)]; exact this)
        have HQB : Hid (qb < w.heap.size) := Lib.hid (World.block_lt_of_cell? w _ (hcs 0 _ rfl))
        clear hq hcs
        obtain ⟨⟨x, r, q, ⟨mb, mt, mg⟩, fl, ti⟩, fa, fn, fc, ta, tn, tc⟩ := p
        have q0 := HC.out wr I.out.ext 0 _ rfl
        have q1 := HC.out wr I.out.ext 1 _ rfl
        have q2 := HC.out wr I.out.ext 2 _ rfl
        have q3 := HC.out wr I.out.ext 3 _ rfl
        have q4 := HC.out wr I.out.ext 4 _ rfl
        have q5 := HC.out wr I.out.ext 5 _ rfl
        have q6 := HC.out wr I.out.ext 6 _ rfl
        have q7 := HC.out wr I.out.ext 7 _ rfl
        rw [Nat.add_zero] at q0
        rw [← Nat.add_assoc] at q1 q2 q3 q4 q5 q6 q7
        go_wp2_with fail
        refine (few_any wr ⟨x, r, q, ⟨mb, mt, mg⟩, fl, ti⟩ fa ta fn fc tn tc (HQ.out.ext I.out.ext)).mono ?_
        rintro e w3 ⟨b3, rfl, hx, hfew⟩
        replace I := Lib.hid (I.out.next hx)
        clear hx q0 q1 q2 q3 q4 q5 q6 q7
        cases b3
        · go_wp2_with fail
          go_ret
          exact ⟨rfl, I.out.ext⟩
        · have HF := Lib.hid (hfew rfl)
          clear hfew
          obtain ⟨T, hT⟩ : ∃ T : Nat → Bool, T = fun b => decide (b ∈ B ∨ b ∈ BR) := ⟨_, rfl⟩
          have HT := Lib.hid hT
          have hTq : T qb = false := by
            rw [hT]
            simp only [decide_eq_false_iff_not, not_or]
            exact ⟨fun h => by have := I.out.bx qb h; have := HQB.out; omega, fun h => by have := I.out.by' qb h; have := HQB.out; omega⟩
          clear hT
          go_upto_if 92 with fail
          go_cut [11, 92] (fun s11 s92 wx => s11 = .int .i64 (i : Int) ∧ s92 = .bool false ∧ Hid (SvR w d rd (4 * (i + 1)) wx))
          case first =>
            have g1 : ∀ (d : Nat) (f : Nat → Obj) (os : Array Obj), (Instr.loadAt 40 (.pointer (some ⟨qb, qo + i * 8, none⟩))).run Tryz.prog (turned w3 T d f os) = .ok (.agg #[.int .i64 x, .int .i64 r, .int .i64 q, .bool mb, .int .i64 mt, .int .i64 mg, .slice fa fn fc, .slice ta tn tc]) (turned w3 T d f os) := fun d f os => by
              have h1 := run_loadAt_mid (P := Tryz.prog) (turned w3 T d f os) qb (qo + i * 8) 40 (Sx.cells ⟨⟨x, r, q, ⟨mb, mt, mg⟩, fl, ti⟩, fa, fn, fc, ta, tn, tc⟩) _ (fun j u hu => by
                have := HC.out w3 I.out.ext j u hu
                rw [← Nat.add_assoc] at this
                exact cell_turned this hTq d f os) Tryz.underlying40 rfl sta_info
              exact h1
            go_wp2_with fail
            refine wp_region_plan 29 (fun w' => ∃ z : Turned, w' = turned w3 T z.d z.f z.os) (.reads [0, 1, 2, 3, 4, 6, 7, 8, 9, 10] (.one 5 (.one 11 (.one 12 (.reads [13, 14, 15, 17, 18, 19] (.two 16 (.one 20 (.reads [21, 22, 23, 24, 26] (.one 25 (.one 27 (.reads [28] (.one 29 .done)))))) 20 (.one 16 (.reads [21, 22, 23, 24, 26] (.one 25 (.one 27 (.reads [28] (.one 29 .done)))))))))))) (by kernel_rfl) (by kernel_rfl) (fun _ _ dd _ _ hh => by cases dd <;> exact hh) ?_ ?_
            · exact turned_of_ext (Ext.drewN w3 1)
            refine wpPlan_reads ?_
            simp only [pickOps, List.getElem?_cons_succ, List.getElem?_cons_zero]
            repeat (first | (go_big_quiet_want; refine mq_load _ _ rfl _ _ rfl (fun w hw => by obtain ⟨z, rfl⟩ := hw; exact g1 z.d z.f z.os) ?_; go_big_quiet_on; simp only [Act.put, List.setIfInBounds_toArray, List.set_cons_succ, List.set_cons_zero]) | (go_big_quiet_step (fail)))
            refine wpQuiet_nil ?_
            clear g1
            refine wpPlan_one ?_
            simp only [pickOps, List.getElem?_cons_succ, List.getElem?_cons_zero]
            have I4 := Lib.hid (I.out.next (Ext.drewN w3 1))
            have hz1 : fn ≤ 4096 := by have := HF.out; omega
            have hz2 : tn ≤ 4096 := by have := HF.out; omega
            go_wp2_with fail
            refine (manSave_any (by omega) HINV.out I4.out.x ⟨x, r, q, ⟨mb, mt, mg⟩, fl, ti⟩ fa ta fn fc tn tc (HQ.out.ext I4.out.ext) (HG.out.ext I4.out.ext)).mono ?_
            rintro e w5 ⟨rfl, hto⟩
            have HIN2 := Lib.hid (HINV.out.save ⟨x, r, q, ⟨mb, mt, mg⟩, fl, ti⟩)
            have HRS := Lib.hid (fun W B' (hr : RkAt W rd S B') (hx : Ext w W) ga gc ha hc hs => ref18Save_any (w := W) (by omega : 4 * i ≤ 900000) HINV.out hr ⟨x, r, q, ⟨mb, mt, mg⟩, fl, ti⟩ ga ha fn gc tn hc hs)
            generalize saveS S ⟨x, r, q, ⟨mb, mt, mg⟩, fl, ti⟩ = R at *
            obtain ⟨z, S2⟩ := R
            simp only at HIN2 HRS hto ⊢
            obtain ⟨B5, hI5⟩ := I4.out.stepX hto
            have HC5 : Hid (Chg (fun k => T k = true) w3 w5) := Lib.hid (by obtain ⟨_, _, hc, _⟩ := hto; exact ((Chg.of_ext (S := (· ∈ B)) (Ext.drewN w3 1)).trans hc (fun _ _ e => e)).mono (fun i _ e => by rw [HT.out]; simpa using .inl e))
            clear I4 hto
            have I5 := Lib.hid hI5
            clear hI5
            go_wp2_with fail
            refine thenX_mk (turned_of_chg HC5.out) (wpPlan_one ?_)
            simp only [pickOps, List.getElem?_cons_succ, List.getElem?_cons_zero]
            go_wp2_with fail
            refine (manOwn_any w5 ⟨x, r, q, ⟨mb, mt, mg⟩, fl, ti⟩ fa ta fn fc tn tc (HQ.out.ext I5.out.ext) hz1 hz2).mono ?_
            rintro e w6 ⟨oa, oc, pa, pc, rfl, hx, hin⟩
            have I6 := Lib.hid (I5.out.next hx)
            have HOI := Lib.hid hin
            have HC6 : Hid (Chg (fun k => T k = true) w3 w6) := Lib.hid (HC5.out.trans (Chg.of_ext (S := fun _ => False) hx) (fun _ _ e => e.elim))
            clear hx hin HC5 I5
            go_wp2_with fail
            refine thenX_mk (turned_of_chg HC6.out) (wpPlan_one ?_)
            simp only [pickOps, List.getElem?_cons_succ, List.getElem?_cons_zero]
            go_wp2_with fail
            refine (HRS.out w6 BR I6.out.y I6.out.ext oa oc pa pc HOI.out).mono ?_
            rintro e w7 ⟨rfl, hto⟩
            obtain ⟨BR7, hI7⟩ := I6.out.stepY hto
            have HC7 : Hid (Chg (fun k => T k = true) w3 w7) := Lib.hid (by obtain ⟨_, _, hc, _⟩ := hto; exact HC6.out.trans (hc.mono (fun i _ e => by rw [HT.out]; simpa using .inr e)) (fun _ _ e => e))
            have I7 := Lib.hid hI7
            clear hto hI7 HC6 I6 HOI HRS
            have hzz : (z != z) = false := bne_self_eq_false _
            have hoo : (S2.ops != S2.ops) = false := bne_self_eq_false _
            have huu : (S2.used != S2.used) = false := bne_self_eq_false _
            go_wp2_with fail
            refine thenX_mk (turned_of_chg HC7.out) (wpPlan_reads ?_)
            simp only [pickOps, List.getElem?_cons_succ, List.getElem?_cons_zero]
            repeat (go_big_quiet_step (fail))
            refine wpQuiet_nil ?_
            have c20 := rkAt_ops I7.out.y
            have HSV : Hid (SvR w d rd (4 * (i + 1)) w7) := Lib.hid ⟨_, _, _, I7.out, HIN2.out⟩
            refine wpPlan_two ?_ ?_
            · simp only [pickOps, List.getElem?_cons_succ, List.getElem?_cons_zero]
              go_wp2_with fail
              refine (disk_ops I7.out.x).mono ?_
              rintro e w8 ⟨rfl, rfl⟩
              go_wp2_with fail
              refine thenX_mk (turned_of_chg HC7.out) (wpPlan_one ?_)
              simp only [pickOps, List.getElem?_cons_succ, List.getElem?_cons_zero]
              go_wp2_with fail
              refine thenX_mk (turned_of_chg HC7.out) (wpPlan_reads ?_)
              simp only [pickOps, List.getElem?_cons_succ, List.getElem?_cons_zero]
              repeat (go_big_quiet_step (fail))
              refine wpQuiet_nil ?_
              refine wpPlan_one ?_
              simp only [pickOps, List.getElem?_cons_succ, List.getElem?_cons_zero]
              go_wp2_with fail
              refine (disk_used I7.out.x).mono ?_
              rintro e w8 ⟨rfl, rfl⟩
              go_wp2_with fail
              refine thenX_mk (turned_of_chg HC7.out) (wpPlan_one ?_)
              simp only [pickOps, List.getElem?_cons_succ, List.getElem?_cons_zero]
              go_wp2_with fail
              refine (rkAt_used HIN2.out.ok I7.out.y).mono ?_
              rintro e w8 ⟨rfl, rfl⟩
              go_wp2_with fail
              refine thenX_mk (turned_of_chg HC7.out) (wpPlan_reads ?_)
              simp only [pickOps, List.getElem?_cons_succ, List.getElem?_cons_zero]
              repeat (go_big_quiet_step (fail))
              refine wpQuiet_nil ?_
              refine wpPlan_one ?_
              simp only [pickOps, List.getElem?_cons_succ, List.getElem?_cons_zero]
              go_wp2_with fail
              refine thenX_last (wpPlan_done ?_)
              go_wp2_with fail
              go_meet
              case rel => exact ⟨rfl, rfl, HSV⟩
            · simp only [pickOps, List.getElem?_cons_succ, List.getElem?_cons_zero]
              go_wp2_with fail
              refine thenX_mk (turned_of_chg HC7.out) (wpPlan_one ?_)
              simp only [pickOps, List.getElem?_cons_succ, List.getElem?_cons_zero]
              go_wp2_with fail
              refine (disk_ops I7.out.x).mono ?_
              rintro e w8 ⟨rfl, rfl⟩
              go_wp2_with fail
              refine thenX_mk (turned_of_chg HC7.out) (wpPlan_reads ?_)
              simp only [pickOps, List.getElem?_cons_succ, List.getElem?_cons_zero]
              repeat (go_big_quiet_step (fail))
              refine wpQuiet_nil ?_
              refine wpPlan_one ?_
              simp only [pickOps, List.getElem?_cons_succ, List.getElem?_cons_zero]
              go_wp2_with fail
              refine (disk_used I7.out.x).mono ?_
              rintro e w8 ⟨rfl, rfl⟩
              go_wp2_with fail
              refine thenX_mk (turned_of_chg HC7.out) (wpPlan_one ?_)
              simp only [pickOps, List.getElem?_cons_succ, List.getElem?_cons_zero]
              go_wp2_with fail
              refine (rkAt_used HIN2.out.ok I7.out.y).mono ?_
              rintro e w8 ⟨rfl, rfl⟩
              go_wp2_with fail
              refine thenX_mk (turned_of_chg HC7.out) (wpPlan_reads ?_)
              simp only [pickOps, List.getElem?_cons_succ, List.getElem?_cons_zero]
              repeat (go_big_quiet_step (fail))
              refine wpQuiet_nil ?_
              refine wpPlan_one ?_
              simp only [pickOps, List.getElem?_cons_succ, List.getElem?_cons_zero]
              go_wp2_with fail
              refine thenX_last (wpPlan_done ?_)
              go_wp2_with fail
              go_meet
              case rel => exact ⟨rfl, rfl, HSV⟩
          case rest =>
            obtain ⟨rfl, rfl, HP⟩ := hcut
            clear HT hTq HQ HC HF HINV I HQB
            obtain ⟨S, B, BR, hI, hinv⟩ := HP.out
            have I := Lib.hid hI
            have HINV := Lib.hid hinv
            clear hI hinv
            have HLX := Lib.hid (manLoad_any HINV.out.ok I.out.x (HG.out.ext I.out.ext))
            have HLY := Lib.hid (fun W (hx : Ext wc W) => ref18Load_any HINV.out.ok (I.out.y.ext hx) (HG.out.ext (I.out.ext.trans hx)))
            have HFIT := Lib.hid (loadS_fits S)
            generalize loadS S = LD at *
            obtain ⟨⟨zx, zr, zq, ⟨zb, zt, zg⟩, zfl, zti⟩, LI, LK⟩ := LD
            go_wp2_with fail
            refine HLX.out.mono ?_
            rintro e w6 ⟨za, zn, zc, ya, yn, yc, rfl, hx, hin⟩
            have HZ6 := Lib.hid hin
            have HX6 := Lib.hid hx
            clear hx hin HLX
            have HZN : Hid (zn ≤ 512 ∧ yn ≤ 4 ∧ zfl.length = zn ∧ zti.length = yn) := Lib.hid (by
              have h1 := fls_src_len HZ6.out.fl
              have h2 := trs_src_len HZ6.out.ti
              have h3 := HFIT.out
              simp only at h1 h2 h3
              omega)
            simp only
            go_upto_region 17 with fail
            obtain ⟨b9, hb9⟩ : ∃ k, k = w6.heap.size := ⟨_, rfl⟩
            rw [← hb9]
            generalize hW : w6.alloc _ = w7
            have hx7 : Ext w6 w7 := by rw [← hW]; exact (Ext.refl w6).alloc _
            have HB9 : Hid (w7.heap[b9]? = some (.cells #[.int .i64 zx, .int .i64 zr, .int .i64 zq, .bool zb, .int .i64 zt, .int .i64 zg, .slice za zn zc, .slice ya yn yc] 40 (0, 0))) := Lib.hid (by rw [← hW, hb9]; exact heap_alloc_new w6 _)
            have HX7 := Lib.hid (HX6.out.trans hx7)
            have HZ7 := Lib.hid (HZ6.out.ext hx7)
            clear hW hb9 hx7 HX6 HZ6
            go_wp2_with fail
            refine (HLY.out w7 HX7.out).mono ?_
            rintro e w8 ⟨va, vn, vc, ua, un, uc, rfl, hx, hin⟩
            have HV8 := Lib.hid hin
            have HX8 := Lib.hid (HX7.out.trans hx)
            have HZ8 := Lib.hid (HZ7.out.ext hx)
            have HB98 := Lib.hid (hx.keep HB9.out)
            clear hx hin HX7 HZ7 HB9 HLY
            obtain ⟨rfl, rfl⟩ : vn = zn ∧ un = yn := by
              have h1 := fls_src_len HV8.out.fl
              have h2 := trs_src_len HV8.out.ti
              have h3 := HZN.out
              simp only at h1 h2
              omega
            simp only
            go_upto_region 18 with fail
            obtain ⟨b11, hb11⟩ : ∃ k, k = w8.heap.size := ⟨_, rfl⟩
            rw [← hb11]
            generalize hW : w8.alloc _ = w9
            have hx9 : Ext w8 w9 := by rw [← hW]; exact (Ext.refl w8).alloc _
            have HB11 : Hid (w9.heap[b11]? = some (.cells #[.int .i64 zx, .int .i64 zr, .int .i64 zq, .bool zb, .int .i64 zt, .int .i64 zg, .slice va vn vc, .slice ua un uc] 47 (0, 0))) := Lib.hid (by rw [← hW, hb11]; exact heap_alloc_new w8 _)
            have HX9 := Lib.hid (HX8.out.trans hx9)
            have HZ9 := Lib.hid (HZ8.out.ext hx9)
            have HV9 := Lib.hid (HV8.out.ext hx9)
            have HB99 := Lib.hid (hx9.keep HB98.out)
            clear hW hb11 hx9 HX8 HZ8 HV8 HB98
            have g2 : ∀ (d : Nat) (f : Nat → Obj) (os : Array Obj), (Instr.loadAt 40 (.pointer (some ⟨b9, 0, none⟩))).run Tryz.prog (turned w9 (fun _ => false) d f os) = .ok (.agg #[.int .i64 zx, .int .i64 zr, .int .i64 zq, .bool zb, .int .i64 zt, .int .i64 zg, .slice za vn zc, .slice ya un yc]) (turned w9 (fun _ => false) d f os) := fun d f os => load_box_turned HB99.out rfl Tryz.underlying40 rfl sta_info d f os
            have g3 : ∀ (d : Nat) (f : Nat → Obj) (os : Array Obj), (Instr.loadAt 47 (.pointer (some ⟨b11, 0, none⟩))).run Tryz.prog (turned w9 (fun _ => false) d f os) = .ok (.agg #[.int .i64 zx, .int .i64 zr, .int .i64 zq, .bool zb, .int .i64 zt, .int .i64 zg, .slice va vn vc, .slice ua un uc]) (turned w9 (fun _ => false) d f os) := fun d f os => load_box_turned HB11.out rfl Tryz.underlying47 rfl rsta_info d f os
            have hii : (LI != LI) = false := bne_self_eq_false _
            have hkk : (LK != LK) = false := bne_self_eq_false _
            go_wp2_with fail
            refine wp_region_plan 14 (fun w' => ∃ z : Turned, w' = turned w9 (fun _ => false) z.d z.f z.os) (.reads [0, 2] (.one 1 (.one 3 (.reads [4, 5, 6, 7, 8, 9, 10, 11, 12, 13] (.one 14 .done))))) (by kernel_rfl) (by kernel_rfl) (fun _ _ dd _ _ hh => by cases dd <;> exact hh) ?_ ?_
            · exact turned_of_ext (Ext.drewN w9 1)
            refine wpPlan_reads ?_
            simp only [pickOps, List.getElem?_cons_succ, List.getElem?_cons_zero]
            repeat (first | (go_big_quiet_want; refine mq_load _ _ rfl _ _ rfl (fun w hw => by obtain ⟨z, rfl⟩ := hw; exact g2 z.d z.f z.os) ?_; go_big_quiet_on; simp only [Act.put, List.setIfInBounds_toArray, List.set_cons_succ, List.set_cons_zero]) | (go_big_quiet_want; refine mq_load _ _ rfl _ _ rfl (fun w hw => by obtain ⟨z, rfl⟩ := hw; exact g3 z.d z.f z.os) ?_; go_big_quiet_on; simp only [Act.put, List.setIfInBounds_toArray, List.set_cons_succ, List.set_cons_zero]) | (go_big_quiet_step (fail)))
            refine wpQuiet_nil ?_
            clear g2 g3
            refine wpPlan_one ?_
            simp only [pickOps, List.getElem?_cons_succ, List.getElem?_cons_zero]
            have hz1 : vn ≤ 4096 := by have := HZN.out; omega
            have hz2 : un ≤ 4096 := by have := HZN.out; omega
            go_wp2_with fail
            refine (manOwn_any _ ⟨zx, zr, zq, ⟨zb, zt, zg⟩, zfl, zti⟩ za ya vn zc un yc (HZ9.out.ext (Ext.drewN w9 1)) hz1 hz2).mono ?_
            rintro e w11 ⟨oa, oc, pa, pc, rfl, hx, hin⟩
            have HXE := Lib.hid ((Ext.drewN w9 1).trans hx)
            have HOI := Lib.hid hin
            clear hx hin
            go_wp2_with fail
            refine thenX_mk (turned_of_ext HXE.out) (wpPlan_one ?_)
            simp only [pickOps, List.getElem?_cons_succ, List.getElem?_cons_zero]
            go_wp2_with fail
            refine (ref18Same_any w11 ⟨zx, zr, zq, ⟨zb, zt, zg⟩, zfl, zti⟩ oa pa va ua vn oc un pc vc uc HOI.out (HV9.out.ext HXE.out)).mono ?_
            rintro e w12 ⟨rfl, hx⟩
            have HXF := Lib.hid (HX9.out.trans (HXE.out.trans hx))
            have HXG := Lib.hid (HXE.out.trans hx)
            clear hx
            go_wp2_with fail
            refine thenX_mk (turned_of_ext HXG.out) (wpPlan_reads ?_)
            simp only [pickOps, List.getElem?_cons_succ, List.getElem?_cons_zero]
            repeat (go_big_quiet_step (fail))
            refine wpQuiet_nil ?_
            refine wpPlan_one ?_
            simp only [pickOps, List.getElem?_cons_succ, List.getElem?_cons_zero]
            go_wp2_with fail
            refine thenX_last (wpPlan_done ?_)
            have HSV : Hid (SvR w d rd (4 * (i + 1)) w12) := Lib.hid ⟨S, B, BR, I.out.next HXF.out, HINV.out⟩
            go_wp2_with fail
            go_roundw
            case rel => exact ⟨i + 1, by go_num, by omega, by omega, HSV⟩
            case measure => simp [RowKit.intOf]; omega
      · have hst : ¬ (i : Int) < (n : Int) ∨ ((i : Int) < (n : Int) ∧ ¬ (i : Int) < 10) := by omega
        clear hno
        have HX : Hid (Ext w wr) := Lib.hid (by obtain ⟨_, _, _, hI, _⟩ := HP.out; exact hI.ext)
        obtain ⟨S7, hs7, hl7⟩ := save_seven
        have HS7 := Lib.hid hs7
        have HL7 := Lib.hid hl7
        clear HP hs7 hl7
        rcases hst with hst | ⟨hst, hst2⟩
        all_goals
          go_wp2_with fail
          refine (disk_new (by omega) (by omega) wr).mono ?_
          rintro e w3 ⟨rfl, hd3, hx3⟩
          have HD3 := Lib.hid hd3
          have HX3 := Lib.hid (HX.out.trans hx3)
          have HBW : Hid (∀ b ∈ [wr.heap.size + 1, wr.heap.size], w.heap.size ≤ b) := Lib.hid (fun b hb => by have := HX.out.size; simp at hb; omega)
          obtain ⟨d7, hd7⟩ : ∃ d0, d0 = wr.heap.size + 1 := ⟨_, rfl⟩
          rw [← hd7] at HD3 HBW ⊢
          clear hd3 hx3 hd7 HX
          go_wp2_with fail
          refine (manSave_any (by omega) (newDisk_inv (by omega) (by omega)) HD3.out sta7 none none 0 0 0 0 ⟨.inl ⟨rfl, rfl, rfl⟩, .inl ⟨rfl, rfl, rfl⟩, sta7_right.2, by decide, by decide⟩ (HG.out.ext HX3.out)).mono ?_
          rintro e w4 ⟨rfl, hto⟩
          have hin := (newDisk_inv (room := 100) (by omega) (by omega)).save sta7
          rw [HS7.out] at hto hin ⊢
          have HIN := Lib.hid hin
          obtain ⟨B4, h1, h2, h3⟩ := hto
          have HD4 := Lib.hid h1
          have HX4 : Hid (Ext w w4) := Lib.hid (((Chg.of_ext (S := (· ∈ [d7, wr.heap.size])) HX3.out).trans h2 (fun _ _ e => e)).ext (fun i hi e => by have := HBW.out i e; omega))
          clear h1 h2 h3 hin HD3 HX3 HBW
          go_wp2_with fail
          refine (manLoad_any HIN.out.ok HD4.out (HG.out.ext HX4.out)).mono ?_
          rw [HL7.out]
          rintro e w5 ⟨za, zn, zc, ya, yn, yc, rfl, hx, hin⟩
          have HX5 := Lib.hid (HX4.out.trans hx)
          clear hx hin HD4 HX4
          go_upto_region 24 with fail
          obtain ⟨b9, hb9⟩ : ∃ k, k = w5.heap.size := ⟨_, rfl⟩
          rw [← hb9]
          generalize hW : w5.alloc _ = w6
          have HX6 : Hid (Ext w w6) := Lib.hid (by rw [← hW]; exact HX5.out.alloc _)
          have hb : w6.heap[b9]? = some (.cells (staC sta7 za zn zc ya yn yc) 40 (0, 0)) := by rw [← hW, hb9]; exact heap_alloc_new w5 _
          have f2 : w6.cell? ⟨b9, 2, none⟩ = some (.int .i64 7) := by rw [cell_of_block hb 2]; rfl
          clear hW hb9 hb HX5
          go_wp2_with fail
          clear f2
          refine (manSave_nil _ ⟨0, 0, 0, ⟨false, 0, 0⟩, [], []⟩ none none 0 0 0 0).mono ?_
          rintro e w7 ⟨rfl, hx⟩
          have HXE := Lib.hid hx
          clear hx
          go_wp2_with fail
          go_ret
          exact ⟨rfl, HX6.out.trans HXE.out⟩
end Go.Proofs.YtgdgjnecgelalaaGreatDoor
