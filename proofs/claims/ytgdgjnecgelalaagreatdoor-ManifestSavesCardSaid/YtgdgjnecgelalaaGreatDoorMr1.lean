/- tidemillref18.Right. -/
import Derived.Test.YtgdgjnecgelalaaGreatDoorMfd
namespace Go.Proofs.YtgdgjnecgelalaaGreatDoor
open Go.RowKit Go.Sort Go.Lib

theorem all_take_stop {α : Type} {f : α → Bool} {l : List α} {k : Nat} {p : α} (hp : l[k]? = some p) (h : f p = false) : l.all f = false := by
  rw [List.all_eq_false]
  exact ⟨p, List.mem_of_getElem? hp, by simp [h]⟩
theorem all_take_next {α : Type} {f : α → Bool} {l : List α} {k : Nat} {p : α} (hp : l[k]? = some p) (h : f p = true) (ht : (l.take k).all f = true) : (l.take (k + 1)).all f = true := by
  rw [List.take_add_one, hp, List.all_append, ht]
  simp [h]

set_option maxHeartbeats 16000000 in
set_option maxRecDepth 100000 in
theorem ref18Right_any (w : World) (s : Sta) (fa ta : Option Addr) (fn fc tn tc : Nat) (hs : StIn w s fa fn fc ta tn tc) :
    Calls Tryz.prog 56 #[.agg (staC s fa fn fc ta tn tc)] w fun e w' => e = .returned (.bool (staR s)) ∧ Ext w w' := by
  have HS := Lib.hid hs
  have HFN := Lib.hid (fls_src_len hs.fl)
  have HTN := Lib.hid (trs_src_len hs.ti)
  have hf := hs.fn63
  have ht := hs.tn63
  have HFF := Lib.hid hs.fl
  have HTT := Lib.hid hs.ti
  obtain ⟨x, r, q, ⟨b, t, g⟩, fl, ti⟩ := s
  simp only at HFN HTN HFF HTT
  obtain ⟨B, hB⟩ : ∃ B, B = staB ⟨x, r, q, ⟨b, t, g⟩, fl, ti⟩ := ⟨_, rfl⟩
  have HB : Hid (B = (mkR ⟨b, t, g⟩ && (z60 x && (z60 r && z60 q)) && decide (fn ≤ 512) && decide (tn ≤ 4))) := Lib.hid (by rw [hB]; simp [staB, HFN.out, HTN.out])
  have HR : Hid (staR ⟨x, r, q, ⟨b, t, g⟩, fl, ti⟩ = (B && fl.all flR && ti.all trR)) := Lib.hid (by rw [hB]; rfl)
  generalize staR ⟨x, r, q, ⟨b, t, g⟩, fl, ti⟩ = R at *
  have H1 := Lib.hid (fun w => ref18in_any x 0 1152921504606846976 w)
  have H2 := Lib.hid (fun w => ref18in_any r 0 1152921504606846976 w)
  have H3 := Lib.hid (fun w => ref18in_any q 0 1152921504606846976 w)
  have H4 := Lib.hid (fun w => ref17Right_any ⟨b, t, g⟩ w)
  have e1 : inB x 0 1152921504606846976 = z60 x := rfl
  have e2 : inB r 0 1152921504606846976 = z60 r := rfl
  have e3 : inB q 0 1152921504606846976 = z60 q := rfl
  rw [e1] at H1
  rw [e2] at H2
  rw [e3] at H3
  generalize z60 x = A1 at *
  generalize z60 r = A2 at *
  generalize z60 q = A3 at *
  generalize mkR ⟨b, t, g⟩ = A4 at *
  clear hs hB e1 e2 e3 HS
  go_enter Tryz.func56, Tryz.ntmps56
  go_upto_region 1 with fail
  generalize hW : World.alloc _ _ = W
  have HX0 : Hid (Ext w W) := Lib.hid (by subst hW; exact (Ext.refl w).alloc _)
  have HBX : Hid (W.heap[w.heap.size]? = some (.cells #[.int .i64 x, .int .i64 r, .int .i64 q, .bool b, .int .i64 t, .int .i64 g, .slice fa fn fc, .slice ta tn tc] 47 (0, 0))) := Lib.hid (by subst hW; exact heap_alloc_new w _)
  clear hW
  go_cut [40] (fun s40 wx => s40 = .bool (!B) ∧ Hid (Ext W wx))
  case first =>
    have c0 := cell_of_block HBX.out 0
    have c1 := cell_of_block HBX.out 1
    have c2 := cell_of_block HBX.out 2
    have c3 := cell_of_block HBX.out 3
    have c4 := cell_of_block HBX.out 4
    have c5 := cell_of_block HBX.out 5
    have c6 := cell_of_block HBX.out 6
    have c7 := cell_of_block HBX.out 7
    clear HR
    go_wp2_with fail
    refine (H1.out _).mono ?_
    rintro e w' ⟨rfl, rfl⟩
    cases A1
    · have HZ : Hid (B = false) := Lib.hid (by rw [HB.out]; simp)
      clear HB
      go_wp2_with fail
      go_meet
      case rel => rw [HZ.out]; exact ⟨rfl, Lib.hid (Ext.refl _)⟩
    go_wp2_with fail
    refine (H2.out _).mono ?_
    rintro e w' ⟨rfl, rfl⟩
    cases A2
    · have HZ : Hid (B = false) := Lib.hid (by rw [HB.out]; simp)
      clear HB
      go_wp2_with fail
      go_meet
      case rel => rw [HZ.out]; exact ⟨rfl, Lib.hid (Ext.refl _)⟩
    go_wp2_with fail
    refine (H3.out _).mono ?_
    rintro e w' ⟨rfl, rfl⟩
    cases A3
    · have HZ : Hid (B = false) := Lib.hid (by rw [HB.out]; simp)
      clear HB
      go_wp2_with fail
      go_meet
      case rel => rw [HZ.out]; exact ⟨rfl, Lib.hid (Ext.refl _)⟩
    go_wp2_with fail
    refine (H4.out _).mono ?_
    rintro e w' ⟨rfl, hx⟩
    have HE := Lib.hid hx
    have HBY := Lib.hid (hx.keep HBX.out)
    clear c0 c1 c2 c3 c4 c5 c6 c7 hx
    have c6 := cell_of_block HBY.out 6
    have c7 := cell_of_block HBY.out 7
    cases A4
    · have HZ : Hid (B = false) := Lib.hid (by rw [HB.out]; simp)
      clear HB
      go_wp2_with fail
      go_meet
      case rel => rw [HZ.out]; exact ⟨rfl, HE⟩
    by_cases h5 : (512 : Int) < (fn : Int)
    · have HZ : Hid (B = false) := Lib.hid (by rw [HB.out]; simp; omega)
      clear HB
      go_wp2_with fail
      go_meet
      case rel => rw [HZ.out]; exact ⟨rfl, HE⟩
    · have HZ : Hid (B = !decide ((4 : Int) < (tn : Int))) := Lib.hid (by
        rw [HB.out]
        have h5' : fn ≤ 512 := by omega
        by_cases h6 : tn ≤ 4
        · have e6 : ¬ (4 : Int) < (tn : Int) := by omega
          simp [h5', h6, e6]
        · have e6 : (4 : Int) < (tn : Int) := by omega
          simp [h6, e6])
      clear HB
      go_wp2_with fail
      go_meet
      case rel =>
        rw [HZ.out, Bool.not_not, show decide ((512 : Int) < (fn : Int)) = false by simp; omega]
        exact ⟨rfl, HE⟩
  case rest =>
    obtain ⟨rfl, HE0⟩ := hcut
    have HBX := Lib.hid (HE0.out.keep HBX.out)
    have HX := Lib.hid (HX0.out.trans HE0.out)
    clear HE0 HX0 H1 H2 H3 H4 HB
    cases B
    · have HZ : Hid (R = false) := Lib.hid (by rw [HR.out]; simp)
      go_wp2_with fail
      go_ret
      rw [HZ.out]
      exact ⟨rfl, HX.out⟩
    · go_upto_block 0 with fail
      go_cut [3] (fun _ wx => Hid (fl.all flR = true) ∧ Hid (Ext wc wx))
      case first =>
        go_wp2_with fail
        go_loopw [3] (fun i wr => ∃ k : Nat, k ≤ fn ∧ i = .int .i64 k ∧ Hid ((fl.take k).all flR = true) ∧ Hid (Ext wc wr)) (fun i _ => fn - (RowKit.intOf i).toNat)
        case atStart => exact ⟨0, by omega, rfl, Lib.hid (by simp), Lib.hid (Ext.refl _)⟩
        case round =>
          obtain ⟨k, hk, rfl, HO, HE⟩ := hrel
          have HBY := Lib.hid (HE.out.keep HBX.out)
          have c6 := cell_of_block HBY.out 6
          by_cases hlt : k < fn
          · obtain ⟨fb, fo, p, rfl, hp, p0, p1, p2, p3⟩ := fls_src (HFF.out.ext (HX.out.trans HE.out)) hlt
            have HP := Lib.hid hp
            have HSTOP : Hid (flR p = false → R = false) := Lib.hid (fun h => by rw [HR.out, all_take_stop hp h]; simp)
            have HNEXT : Hid (flR p = true → (fl.take (k + 1)).all flR = true) := Lib.hid (fun h => all_take_next hp h HO.out)
            have HF : Hid (flR p = (nmB p.nm && tmB p.a && tmB p.b && decide (p.a ≤ p.b) && decide (0 < p.k) && z60 p.k)) := Lib.hid rfl
            have HN := Lib.hid (fun w => ref18name_any p.nm w)
            have HI := Lib.hid (fun w => ref18in_any p.k 1 1152921504606846976 w)
            have HI2 : Hid (inB p.k 1 1152921504606846976 = (decide (0 < p.k) && z60 p.k)) := Lib.hid (by
              unfold z60 inB
              by_cases h1 : 1 ≤ p.k
              · have e1 : 0 < p.k := by omega
                have e2 : 0 ≤ p.k := by omega
                simp [h1, e1, e2]
              · have e1 : ¬ 0 < p.k := by omega
                simp [h1, e1])
            clear hp HP HO
            generalize nmB p.nm = N at *
            go_wp2_with fail
            refine (HN.out _).mono ?_
            rintro e w' ⟨rfl, rfl⟩
            cases N
            · have HZ : Hid (R = false) := Lib.hid (HSTOP.out (by rw [HF.out]; simp))
              clear HF HSTOP HNEXT
              go_wp2_with fail
              go_ret
              rw [HZ.out]
              exact ⟨rfl, (HX.out.trans HE.out).alloc _⟩
            by_cases h1 : p.b < p.a
            · have HZ : Hid (R = false) := Lib.hid (HSTOP.out (by rw [HF.out]; simp; omega))
              clear HF HSTOP HNEXT
              go_wp2_with fail
              go_ret
              rw [HZ.out]
              exact ⟨rfl, (HX.out.trans HE.out).alloc _⟩
            by_cases h2 : p.a < -1152921504606846976
            · have HZ : Hid (R = false) := Lib.hid (HSTOP.out (by rw [HF.out]; simp [tmB]; omega))
              clear HF HSTOP HNEXT
              go_wp2_with fail
              go_ret
              rw [HZ.out]
              exact ⟨rfl, (HX.out.trans HE.out).alloc _⟩
            by_cases h3 : 1152921504606846976 < p.b
            · have HZ : Hid (R = false) := Lib.hid (HSTOP.out (by rw [HF.out]; simp [tmB]; omega))
              clear HF HSTOP HNEXT
              go_wp2_with fail
              go_ret
              rw [HZ.out]
              exact ⟨rfl, (HX.out.trans HE.out).alloc _⟩
            have HF2 : Hid (flR p = inB p.k 1 1152921504606846976) := Lib.hid (by
              rw [HF.out, HI2.out]
              have e1 : tmB p.a = true := by simp [tmB]; omega
              have e2 : tmB p.b = true := by simp [tmB]; omega
              have e3 : decide (p.a ≤ p.b) = true := by simp; omega
              rw [e1, e2, e3]
              simp)
            clear HF HI2
            go_wp2_with fail
            refine (HI.out _).mono ?_
            rintro e w' ⟨rfl, rfl⟩
            rw [HF2.out] at HSTOP HNEXT
            clear HF2
            generalize inB p.k 1 1152921504606846976 = I at *
            cases I
            · have HZ : Hid (R = false) := Lib.hid (HSTOP.out rfl)
              clear HSTOP HNEXT
              go_wp2_with fail
              go_ret
              rw [HZ.out]
              exact ⟨rfl, (HX.out.trans HE.out).alloc _⟩
            · have HZ := Lib.hid (HNEXT.out rfl)
              clear HSTOP HNEXT
              go_wp2_with fail
              go_roundw
              case rel =>
                (repeat apply Exists.intro)
                refine ⟨?rl, ?eqs⟩
                case eqs => (repeat (first | rfl | refine ⟨rfl, ?_⟩))
                case rl => exact ⟨k + 1, by omega, by go_num, HZ, Lib.hid (HE.out.alloc _)⟩
              case measure => simp [RowKit.intOf]; omega
          · obtain rfl : k = fn := by omega
            have HZ : Hid (fl.all flR = true) := Lib.hid (by
              have h := HO.out
              rw [List.take_of_length_le (by rw [HFN.out]; exact Nat.le_refl _)] at h
              exact h)
            clear HO
            go_wp2_with fail
            go_meet
            case rel => exact ⟨HZ, HE⟩
      case rest =>
        obtain ⟨HA, HE0⟩ := hcut
        have HR2 : Hid (R = ti.all trR) := Lib.hid (by rw [HR.out, HA.out]; simp)
        have HBX := Lib.hid (HE0.out.keep HBX.out)
        have HX := Lib.hid (HX.out.trans HE0.out)
        clear HA HE0 HR HFF HFN
        go_wp2_with fail
        go_loopw [5] (fun i wr => ∃ k : Nat, k ≤ tn ∧ i = .int .i64 k ∧ Hid ((ti.take k).all trR = true) ∧ Hid (Ext wc wr)) (fun i _ => tn - (RowKit.intOf i).toNat)
        case atStart => exact ⟨0, by omega, rfl, Lib.hid (by simp), Lib.hid (Ext.refl _)⟩
        case round =>
          obtain ⟨k, hk, rfl, HO, HE⟩ := hrel
          have HBY := Lib.hid (HE.out.keep HBX.out)
          have c7 := cell_of_block HBY.out 7
          by_cases hlt : k < tn
          · obtain ⟨fb, fo, p, rfl, hp, p0, p1, p2, p3, p4⟩ := trs_src (HTT.out.ext (HX.out.trans HE.out)) hlt
            have HSTOP : Hid (trR p = false → R = false) := Lib.hid (fun h => by rw [HR2.out, all_take_stop hp h])
            have HNEXT : Hid (trR p = true → (ti.take (k + 1)).all trR = true) := Lib.hid (fun h => all_take_next hp h HO.out)
            have HF : Hid (trR p = ((decide (1 ≤ p.w) && decide (p.w ≤ 1099511627776) && decide (0 ≤ p.o) && decide (p.o < p.w)) && (if p.m then nmB p.f && tmB p.u else decide (p.u = 0) && decide (p.f.size = 0)))) := Lib.hid rfl
            have HI1 := Lib.hid (fun w => ref18in_any p.w 1 1099511627776 w)
            have HI2 := Lib.hid (fun w => ref18in_any p.o 0 (p.w - 1) w)
            have HN := Lib.hid (fun w => ref18name_any p.f w)
            have HI3 := Lib.hid (fun w => ref18in_any p.u (-1152921504606846976) 1152921504606846976 w)
            rw [show inB p.u (-1152921504606846976) 1152921504606846976 = tmB p.u from rfl] at HI3
            clear hp HO
            obtain ⟨pw, po, pu, pm, pf⟩ := p
            simp only at *
            go_wp2_with fail
            refine (HI1.out _).mono ?_
            rintro e w' ⟨rfl, rfl⟩
            by_cases h1 : 1 ≤ pw ∧ pw ≤ 1099511627776
            case neg =>
              have HZ : Hid (R = false) := Lib.hid (HSTOP.out (by rw [HF.out]; simp; omega))
              have e1 : inB pw 1 1099511627776 = false := by simp [inB]; omega
              rw [e1]
              clear HF HSTOP HNEXT h1 e1
              go_wp2_with fail
              go_ret
              rw [HZ.out]
              exact ⟨rfl, (HX.out.trans HE.out).alloc _⟩
            obtain ⟨h1, h2⟩ := h1
            have e1 : inB pw 1 1099511627776 = true := by simp [inB]; omega
            rw [e1]
            clear e1
            go_wp2_with fail
            refine (HI2.out _).mono ?_
            rintro e w' ⟨rfl, rfl⟩
            by_cases h3 : 0 ≤ po ∧ po < pw
            case neg =>
              have HZ : Hid (R = false) := Lib.hid (HSTOP.out (by rw [HF.out]; simp; omega))
              have e1 : inB po 0 (pw - 1) = false := by simp [inB]; omega
              rw [e1]
              clear HF HSTOP HNEXT h3 e1
              go_wp2_with fail
              go_ret
              rw [HZ.out]
              exact ⟨rfl, (HX.out.trans HE.out).alloc _⟩
            obtain ⟨h3, h4⟩ := h3
            have e1 : inB po 0 (pw - 1) = true := by simp [inB]; omega
            rw [e1]
            clear e1
            have HF2 : Hid (trR ⟨pw, po, pu, pm, pf⟩ = if pm then nmB pf && tmB pu else decide (pu = 0) && decide (pf.size = 0)) := Lib.hid (by
              rw [HF.out]
              have e1 : (decide (1 ≤ pw) && decide (pw ≤ 1099511627776) && decide (0 ≤ po) && decide (po < pw)) = true := by simp; omega
              rw [e1, Bool.true_and])
            clear HF
            cases pm
            · have HF3 : Hid (trR ⟨pw, po, pu, false, pf⟩ = (decide (pu = 0) && decide (pf.size = 0))) := Lib.hid (by rw [HF2.out]; simp)
              clear HF2
              by_cases h5 : pf.toList = []
              · have hie : pf.toList.isEmpty = true := by simp [h5]
                have hsz := (toList_nil pf).mp h5
                by_cases h6 : pu = 0
                · have HZ := Lib.hid (HNEXT.out (by rw [HF3.out]; simp [h6, hsz]))
                  clear HF3 HSTOP HNEXT hsz
                  subst h6
                  go_wp2_with fail
                  go_roundw
                  case rel =>
                    (repeat apply Exists.intro)
                    refine ⟨?rl, ?eqs⟩
                    case eqs => (repeat (first | rfl | refine ⟨rfl, ?_⟩))
                    case rl => exact ⟨k + 1, by omega, by go_num, HZ, Lib.hid (HE.out.alloc _)⟩
                  case measure => simp [RowKit.intOf]; omega
                · have HZ : Hid (R = false) := Lib.hid (HSTOP.out (by rw [HF3.out]; simp [h6]))
                  have h6e : (pu == 0) = false := by simp [h6]
                  have h6n : (pu != 0) = true := by simp [h6]
                  clear HF3 HSTOP HNEXT hsz h6
                  go_wp2_with fail
                  go_ret
                  rw [HZ.out]
                  exact ⟨rfl, (HX.out.trans HE.out).alloc _⟩
              · have hs : Hid (¬ pf.size = 0) := Lib.hid (fun h => h5 ((toList_nil pf).mpr h))
                have hie : pf.toList.isEmpty = false := by simpa using h5
                have HZ : Hid (R = false) := Lib.hid (HSTOP.out (by rw [HF3.out]; have := hs.out; simp [this]))
                clear HF3 HSTOP HNEXT
                go_wp2_with fail
                go_ret
                rw [HZ.out]
                exact ⟨rfl, (HX.out.trans HE.out).alloc _⟩
            · have HF3 : Hid (trR ⟨pw, po, pu, true, pf⟩ = (nmB pf && tmB pu)) := Lib.hid (by rw [HF2.out]; simp)
              clear HF2
              generalize nmB pf = N at *
              generalize tmB pu = U at *
              go_wp2_with fail
              refine (HN.out _).mono ?_
              rintro e w' ⟨rfl, rfl⟩
              cases N
              · have HZ : Hid (R = false) := Lib.hid (HSTOP.out (by rw [HF3.out]; simp))
                clear HF3 HSTOP HNEXT
                go_wp2_with fail
                go_ret
                rw [HZ.out]
                exact ⟨rfl, (HX.out.trans HE.out).alloc _⟩
              go_wp2_with fail
              refine (HI3.out _).mono ?_
              rintro e w' ⟨rfl, rfl⟩
              cases U
              · have HZ : Hid (R = false) := Lib.hid (HSTOP.out (by rw [HF3.out]; simp))
                clear HF3 HSTOP HNEXT
                go_wp2_with fail
                go_ret
                rw [HZ.out]
                exact ⟨rfl, (HX.out.trans HE.out).alloc _⟩
              · have HZ := Lib.hid (HNEXT.out (by rw [HF3.out]; simp))
                clear HF3 HSTOP HNEXT
                go_wp2_with fail
                go_roundw
                case rel =>
                  (repeat apply Exists.intro)
                  refine ⟨?rl, ?eqs⟩
                  case eqs => (repeat (first | rfl | refine ⟨rfl, ?_⟩))
                  case rl => exact ⟨k + 1, by omega, by go_num, HZ, Lib.hid (HE.out.alloc _)⟩
                case measure => simp [RowKit.intOf]; omega
          · obtain rfl : k = tn := by omega
            have HZ : Hid (R = true) := Lib.hid (by
              have h := HO.out
              rw [List.take_of_length_le (by rw [HTN.out]; exact Nat.le_refl _)] at h
              rw [HR2.out]
              exact h)
            clear HO
            go_wp2_with fail
            go_ret
            rw [HZ.out]
            exact ⟨rfl, HX.out.trans HE.out⟩
end Go.Proofs.YtgdgjnecgelalaaGreatDoor
