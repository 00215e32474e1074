/- (manifest.State).right. -/
import Derived.Test.YtgdgjnecgelalaaGreatDoorMka
import Derived.Deep.CutBlock
namespace Go.Proofs.YtgdgjnecgelalaaGreatDoor
open Go.RowKit Go.Sort Go.Lib

structure Sta where
  x : Int
  r : Int
  q : Int
  km : Mk
  fl : List Fl
  ti : List Tr
/-- A state's cells. -/
abbrev staC (s : Sta) (fa : Option Addr) (fn fc : Nat) (ta : Option Addr) (tn tc : Nat) : Array Value := #[.int .i64 s.x, .int .i64 s.r, .int .i64 s.q, .bool s.km.s, .int .i64 s.km.t, .int .i64 s.km.g, .slice fa fn fc, .slice ta tn tc]
structure StIn (w : World) (s : Sta) (fa : Option Addr) (fn fc : Nat) (ta : Option Addr) (tn tc : Nat) : Prop where
  fl : Src w 4 (.slice fa fn fc) fn (fls s.fl)
  ti : Src w 5 (.slice ta tn tc) tn (trs s.ti)
  ok : s.km.ok
  fn63 : fn < 4611686018427387904
  tn63 : tn < 4611686018427387904
theorem StIn.ext {w w' : World} {s : Sta} {fa ta : Option Addr} {fn fc tn tc : Nat} (h : StIn w s fa fn fc ta tn tc) (hx : Ext w w') : StIn w' s fa fn fc ta tn tc := ⟨h.fl.ext hx, h.ti.ext hx, h.ok, h.fn63, h.tn63⟩
def staB (s : Sta) : Bool := mkR s.km && (z60 s.x && (z60 s.r && z60 s.q)) && decide (s.fl.length ≤ 512) && decide (s.ti.length ≤ 4)
def staR (s : Sta) : Bool := staB s && s.fl.all flR && s.ti.all trR

theorem src_z3 {W : World} {b : Nat} {x y z : Int} {t : TypeId} {fr : Nat × Nat} (h : W.heap[b]? = some (.cells #[.int .i64 x, .int .i64 y, .int .i64 z] t fr)) : Src W 1 (.slice (some ⟨b, 0, none⟩) 3 3) 3 (zints [x, y, z]) := by
  refine .inr ⟨_, _, rfl, rfl, fun j u hj => ?_, fun u hu => by simp [zints] at hu; rcases hu with rfl | rfl | rfl <;> rfl⟩
  rw [Go.WideShapes.add_plain, Nat.zero_add, cell_of_block h]
  simpa [zints] using hj
theorem markP_len {m : Mk} (hm : m.ok) : (markP m).length ≤ 30 := by
  have h1 := varP_10 (u64n_lt m.g)
  have h2 := varP_10 (i64_zig hm.t0 hm.t1)
  have h3 : (varP 1).length ≤ 10 := varP_10 (by decide)
  have h4 : (varP 0).length ≤ 10 := varP_10 (by decide)
  unfold markP
  rw [List.length_append]
  split
  · rw [List.length_append]; omega
  · omega
theorem Buf.sl {w0 w : World} {l : List UInt8} {n c : Nat} {a : Option Addr} (h : Buf w0 l n a c w) (hn : n < 4611686018427387904) : SlB w a n c l := ⟨h.src, h.le, hn⟩

set_option maxHeartbeats 16000000 in
set_option maxRecDepth 100000 in
theorem staRight_any (w : World) (s : Sta) (fa ta : Option Addr) (fn fc tn tc : Nat) (hs : StIn w s fa fn fc ta tn tc) (hg : HasET w) :
    Calls Tryz.prog 39 #[.agg (staC s fa fn fc ta tn tc)] w fun e w' => e = .returned (.bool (staR s)) ∧ Ext w w' := by
  have HS := Lib.hid hs
  have HG := Lib.hid hg
  have HFN := Lib.hid (fls_src_len hs.fl)
  have HTN := Lib.hid (trs_src_len hs.ti)
  have hb := mark_back s.km hs.ok
  have hok := hs.ok
  obtain ⟨x, r, q, ⟨b, t, g⟩, fl, ti⟩ := s
  simp only at hb hok HFN HTN
  have HOK := Lib.hid hok
  obtain ⟨B, hB⟩ : ∃ B, B = staB ⟨x, r, q, ⟨b, t, g⟩, fl, ti⟩ := ⟨_, rfl⟩
  have HB : Hid (B = (mkR ⟨b, t, g⟩ && allZ [x, r, q] && decide (fn ≤ 512) && decide (tn ≤ 4))) := Lib.hid (by rw [hB]; simp [staB, allZ, HFN.out, HTN.out])
  have HR : Hid (staR ⟨x, r, q, ⟨b, t, g⟩, fl, ti⟩ = (B && fl.all flR && ti.all trR)) := Lib.hid (by rw [hB]; rfl)
  generalize staR ⟨x, r, q, ⟨b, t, g⟩, fl, ti⟩ = R at *
  obtain ⟨l, hl⟩ : ∃ l, l = markP ⟨b, t, g⟩ := ⟨_, rfl⟩
  have hl30 : l.length ≤ 30 := by rw [hl]; exact markP_len hok
  rw [← hl] at hb
  obtain ⟨⟨b2, t2, g2⟩, k2, z2, hr⟩ : ∃ m k z, markR l = (m, k, z) := ⟨_, _, _, rfl⟩
  rw [hr] at hb
  simp only at hb
  have HL := Lib.hid hl
  have HRR := Lib.hid hr
  have HBK := Lib.hid hb
  obtain ⟨cm, hcm⟩ : ∃ c, c = mkR ⟨b, t, g⟩ := ⟨_, rfl⟩
  obtain ⟨cz, hcz⟩ : ∃ c, c = allZ [x, r, q] := ⟨_, rfl⟩
  rw [← hcm, ← hcz] at HB
  have HCM := Lib.hid hcm
  have HCZ := Lib.hid hcz
  clear hs hg hb hok hB hl hr hcm hcz
  go_enter Tryz.func39, Tryz.ntmps39
  go_wp2_with fail
  generalize hW : World.alloc _ _ = W
  have HX0 : Hid (Ext w W) := Lib.hid (by subst hW; exact (Ext.refl w).alloc _)
  have HBX : Hid (W.heap[w.heap.size]? = some (.cells #[.int .i64 x, .int .i64 r, .int .i64 q, .bool b, .int .i64 t, .int .i64 g, .slice fa fn fc, .slice ta tn tc] 40 (0, 0))) := Lib.hid (by subst hW; exact heap_alloc_new w _)
  clear hW
  have HB0 : Hid (Buf w [] 0 none 0 W) := Lib.hid ((Buf.nil w).ext HX0.out)
  refine (waterPut_b ⟨b, t, g⟩ HOK.out HB0.out (by decide)).mono ?_
  rintro e w1 ⟨a1, c1, n1, rfl, hB1, hx1, hn1, -⟩
  have HBX := Lib.hid (hx1.keep HBX.out)
  have HX := Lib.hid (HX0.out.trans hx1)
  rw [List.nil_append, ← HL.out] at hB1
  have HB1 := Lib.hid hB1
  clear hB1 hx1
  go_wp2_with fail
  refine (waterRead_any w1 a1 n1 c1 l (HB1.out.sl (by omega)) (HG.out.ext HX.out)).mono ?_
  rw [HRR.out]
  rintro e w2 ⟨rfl, hx2⟩
  have HBX := Lib.hid (hx2.keep HBX.out)
  have HX := Lib.hid (HX.out.trans hx2)
  clear hx2
  go_upto_region 2 with fail
  obtain ⟨d, hd⟩ : ∃ d, d = w2.heap.size := ⟨_, rfl⟩
  have HB3 : Hid ((w2.alloc (.cells #[.bool b2, .int .i64 t2, .int .i64 g2] 36 (0, 0))).heap[d]? = some (.cells #[.bool b2, .int .i64 t2, .int .i64 g2] 36 (0, 0))) := Lib.hid (by rw [hd]; exact heap_alloc_new w2 _)
  have hx3 := (Ext.refl w2).alloc (.cells #[.bool b2, .int .i64 t2, .int .i64 g2] 36 (0, 0))
  rw [← hd]
  clear hd
  generalize w2.alloc _ = w3 at *
  have HBX := Lib.hid (hx3.keep HBX.out)
  have HX := Lib.hid (HX.out.trans hx3)
  clear hx3
  go_cut [6] (fun s6 wx => s6 = .bool B ∧ Hid (Ext w3 wx))
  case first =>
    have hcm : Hid (cm = true ↔ z2 = 0 ∧ (⟨b2, t2, g2⟩ : Mk) = ⟨b, t, g⟩) := Lib.hid (by rw [HCM.out]; exact HBK.out.symm)
    have H0 := Lib.hid (fun (w : World) (b : Nat) (h : w.heap[b]? = some (Obj.cells #[.int .i64 x, .int .i64 r, .int .i64 q] 3 (0, 0))) => from0_any w _ 3 3 [x, r, q] (src_z3 h) (by decide))
    rw [← HCZ.out] at H0
    clear HX HCM HCZ HBK HRR HL HOK HR HB0 HX0
    have c0 := cell_of_block HBX.out 0
    have c1 := cell_of_block HBX.out 1
    have c2 := cell_of_block HBX.out 2
    have c3 := cell_of_block HBX.out 3
    have c4 := cell_of_block HBX.out 4
    have c5 := cell_of_block HBX.out 5
    have c6 := cell_of_block HBX.out 6
    have c7 := cell_of_block HBX.out 7
    have d0 := cell_of_block HB3.out 0
    have d1 := cell_of_block HB3.out 1
    have d2 := cell_of_block HB3.out 2
    clear HB3
    by_cases hz : z2 = 0
    · subst hz
      by_cases h1 : b2 = b
      · subst h1
        by_cases h2 : t2 = t
        · subst h2
          by_cases h3 : g2 = g
          · subst h3
            have hc : Hid (cm = true) := Lib.hid (hcm.out.mpr ⟨rfl, rfl⟩)
            rw [hc.out, Bool.true_and] at HB
            clear hcm hc
            cases cz
            · as_aux_lemma =>
                have hR : Hid (B = false) := Lib.hid (by rw [HB.out]; simp)
                clear HB
                go_wp2_with fail
                refine (H0.out _ _ (heap_alloc_new w3 _)).mono ?_
                rintro e w' ⟨rfl, rfl⟩
                generalize hW4 : World.alloc w3 _ = w4
                have HX4 : Hid (Ext w3 w4) := Lib.hid (by subst hW4; exact (Ext.refl w3).alloc _)
                have HBX := Lib.hid (HX4.out.keep HBX.out)
                clear hW4 c6 c7
                have c6 := cell_of_block HBX.out 6
                have c7 := cell_of_block HBX.out 7
                go_wp2_with fail
                go_meet
                exact ⟨by rw [hR.out] <;> (simp; omega), HX4⟩
            · by_cases hf : (fn : Int) ≤ 512
              · by_cases ht : (tn : Int) ≤ 4
                · as_aux_lemma =>
                    have hR : Hid (B = true) := Lib.hid (by rw [HB.out]; simp; omega)
                    clear HB
                    go_wp2_with fail
                    refine (H0.out _ _ (heap_alloc_new w3 _)).mono ?_
                    rintro e w' ⟨rfl, rfl⟩
                    generalize hW4 : World.alloc w3 _ = w4
                    have HX4 : Hid (Ext w3 w4) := Lib.hid (by subst hW4; exact (Ext.refl w3).alloc _)
                    have HBX := Lib.hid (HX4.out.keep HBX.out)
                    clear hW4 c6 c7
                    have c6 := cell_of_block HBX.out 6
                    have c7 := cell_of_block HBX.out 7
                    go_wp2_with fail
                    go_meet
                    exact ⟨by rw [hR.out] <;> (simp; omega), HX4⟩
                · as_aux_lemma =>
                    have hR : Hid (B = false) := Lib.hid (by rw [HB.out]; simp; omega)
                    clear HB
                    go_wp2_with fail
                    refine (H0.out _ _ (heap_alloc_new w3 _)).mono ?_
                    rintro e w' ⟨rfl, rfl⟩
                    generalize hW4 : World.alloc w3 _ = w4
                    have HX4 : Hid (Ext w3 w4) := Lib.hid (by subst hW4; exact (Ext.refl w3).alloc _)
                    have HBX := Lib.hid (HX4.out.keep HBX.out)
                    clear hW4 c6 c7
                    have c6 := cell_of_block HBX.out 6
                    have c7 := cell_of_block HBX.out 7
                    go_wp2_with fail
                    go_meet
                    exact ⟨by rw [hR.out] <;> (simp; omega), HX4⟩
              · as_aux_lemma =>
                  have hR : Hid (B = false) := Lib.hid (by rw [HB.out]; simp; omega)
                  clear HB
                  go_wp2_with fail
                  refine (H0.out _ _ (heap_alloc_new w3 _)).mono ?_
                  rintro e w' ⟨rfl, rfl⟩
                  generalize hW4 : World.alloc w3 _ = w4
                  have HX4 : Hid (Ext w3 w4) := Lib.hid (by subst hW4; exact (Ext.refl w3).alloc _)
                  have HBX := Lib.hid (HX4.out.keep HBX.out)
                  clear hW4 c6 c7
                  have c6 := cell_of_block HBX.out 6
                  have c7 := cell_of_block HBX.out 7
                  go_wp2_with fail
                  go_meet
                  exact ⟨by rw [hR.out] <;> (simp; omega), HX4⟩
          · have hc : Hid (cm = false) := Lib.hid (by cases cm with | false => rfl | true => exact absurd (hcm.out.mp rfl) (by rintro ⟨e1, e2⟩; simp at e2; omega))
            rw [hc.out] at HB
            clear hcm hc
            have he : (g2 == g) = false := by simp [h3]
            as_aux_lemma =>
                have hR : Hid (B = false) := Lib.hid (by rw [HB.out]; simp)
                clear HB
                go_wp2_with fail
                go_meet
                exact ⟨by rw [hR.out] <;> (simp; omega), Lib.hid (Ext.refl _)⟩
        · have hc : Hid (cm = false) := Lib.hid (by cases cm with | false => rfl | true => exact absurd (hcm.out.mp rfl) (by rintro ⟨e1, e2⟩; simp at e2; omega))
          rw [hc.out] at HB
          clear hcm hc
          have he : (t2 == t) = false := by simp [h2]
          as_aux_lemma =>
              have hR : Hid (B = false) := Lib.hid (by rw [HB.out]; simp)
              clear HB
              go_wp2_with fail
              go_meet
              exact ⟨by rw [hR.out] <;> (simp; omega), Lib.hid (Ext.refl _)⟩
      · have hc : Hid (cm = false) := Lib.hid (by cases cm with | false => rfl | true => exact absurd (hcm.out.mp rfl) (by rintro ⟨e1, e2⟩; simp at e2; exact h1 e2.1))
        rw [hc.out] at HB
        clear hcm hc
        have he : (b2 == b) = false := by simp [h1]
        as_aux_lemma =>
            have hR : Hid (B = false) := Lib.hid (by rw [HB.out]; simp)
            clear HB
            go_wp2_with fail
            go_meet
            exact ⟨by rw [hR.out] <;> (simp; omega), Lib.hid (Ext.refl _)⟩
    · have hc : Hid (cm = false) := Lib.hid (by cases cm with | false => rfl | true => exact absurd (hcm.out.mp rfl) (by rintro ⟨e1, e2⟩; simp at e2; exact hz e1))
      rw [hc.out] at HB
      clear hcm hc
      have he : (z2 == 0) = false := by simp [hz]
      as_aux_lemma =>
          have hR : Hid (B = false) := Lib.hid (by rw [HB.out]; simp)
          clear HB
          go_wp2_with fail
          go_meet
          exact ⟨by rw [hR.out] <;> (simp; omega), Lib.hid (Ext.refl _)⟩
  case rest =>
    obtain ⟨rfl, hcx⟩ := hcut
    have HBX := Lib.hid (hcx.out.keep HBX.out)
    have HX := Lib.hid (HX.out.trans hcx.out)
    have HSC := Lib.hid (HS.out.ext HX.out)
    have HFF := Lib.hid HSC.out.fl
    have HTT := Lib.hid HSC.out.ti
    have hfn := HSC.out.fn63
    have htn := HSC.out.tn63
    simp only at HFF HTT
    clear hcx HSC HS HG HL HRR HBK HCM HCZ HB HX0 HB0 HB1 HB3 HOK hl30 hn1
    go_upto_block 0 with fail
    go_cut [6] (fun s6 wx => s6 = .bool (B && fl.all flR) ∧ Hid (Ext wc wx))
    case first =>
      have c6 := cell_of_block HBX.out 6
      clear HR HTT
      go_wp2_with fail
      go_loopw [7, 6] (fun si so wr => ∃ (k : Nat) (o : Bool), k ≤ fn ∧ si = .int .i64 k ∧ so = .bool o ∧ Hid (o = (B && (fl.take k).all flR)) ∧ Hid (Ext wc wr)) (fun si _ _ => fn - (RowKit.intOf si).toNat)
      case atStart => exact ⟨0, B, by omega, rfl, rfl, Lib.hid (by simp), Lib.hid (Ext.refl _)⟩
      case round =>
        obtain ⟨k, o, hk, rfl, rfl, HO, HE⟩ := hrel
        have HBY := Lib.hid (HE.out.keep HBX.out)
        clear c6
        have c6 := cell_of_block HBY.out 6
        cases o
        · have hR : Hid ((B && fl.all flR) = false) := Lib.hid (by
            have h := HO.out.symm
            cases B with
            | false => rfl
            | true =>
              rw [Bool.true_and] at h ⊢
              rw [List.all_eq_false] at h ⊢
              obtain ⟨y, hy, hy2⟩ := h
              exact ⟨y, List.mem_of_mem_take hy, hy2⟩)
          clear HO
          go_wp2_with fail
          go_meet
          exact ⟨by rw [hR.out], HE⟩
        · by_cases hlt : k < fn
          · obtain ⟨fb, fo, p, rfl, hp, p0, p1, p2, p3⟩ := fls_src (HFF.out.ext HE.out) hlt
            have HK : Hid (∀ o' : Bool, o' = flR p → o' = (B && (fl.take (k + 1)).all flR)) := Lib.hid (fun o' e => by
              have h := HO.out
              have hB : B = true := by cases B with | false => simp at h | true => rfl
              rw [hB, Bool.true_and] at h ⊢
              rw [List.take_add_one, hp, List.all_append, ← h, e]
              simp)
            have HP := Lib.hid (fun w => fileRight_any p w)
            obtain ⟨o', ho'⟩ : ∃ o', o' = flR p := ⟨_, rfl⟩
            rw [← ho'] at HP
            have HK2 := Lib.hid (HK.out o' ho')
            clear ho' HK HO hp
            go_wp2_with fail
            refine (HP.out _).mono ?_
            rintro e w' ⟨rfl, hx⟩
            have HE2 := Lib.hid (HE.out.trans hx)
            clear hx
            go_wp2_with fail
            go_roundw
            case rel => exact ⟨k + 1, o', by omega, by go_num, rfl, HK2, HE2⟩
            case measure => simp [RowKit.intOf]; omega
          · obtain rfl : k = fn := by omega
            have hR : Hid ((B && fl.all flR) = true) := Lib.hid (by
              have h := HO.out
              rw [List.take_of_length_le (by rw [HFN.out]; exact Nat.le_refl _)] at h
              exact h.symm)
            clear HO
            go_wp2_with fail
            go_meet
            exact ⟨by rw [hR.out], HE⟩
    case rest =>
      obtain ⟨rfl, hcx⟩ := hcut
      have HBX := Lib.hid (hcx.out.keep HBX.out)
      have HX := Lib.hid (HX.out.trans hcx.out)
      have HTT := Lib.hid (HTT.out.ext hcx.out)
      obtain ⟨B2, hB2⟩ : ∃ B2, B2 = (B && fl.all flR) := ⟨_, rfl⟩
      rw [← hB2] at HR ⊢
      clear hcx HFF hB2
      go_upto_block 2 with fail
      have c7 := cell_of_block HBX.out 7
      go_wp2_with fail
      have HXW := Lib.hid HX.out
      go_loopw [8, 6] (fun si so wr => ∃ (k : Nat) (o : Bool), k ≤ tn ∧ si = .int .i64 k ∧ so = .bool o ∧ Hid (o = (B2 && (ti.take k).all trR)) ∧ Hid (Ext wc wr)) (fun si _ _ => tn - (RowKit.intOf si).toNat)
      case atStart => exact ⟨0, B2, by omega, rfl, rfl, Lib.hid (by simp), Lib.hid (Ext.refl _)⟩
      case round =>
        obtain ⟨k, o, hk, rfl, rfl, HO, HE⟩ := hrel
        have HBY := Lib.hid (HE.out.keep HBX.out)
        clear c7
        have c7 := cell_of_block HBY.out 7
        cases o
        · have hR : Hid (R = false) := Lib.hid (by
            rw [HR.out]
            have h := HO.out.symm
            cases B2 with
            | false => rfl
            | true =>
              rw [Bool.true_and] at h ⊢
              rw [List.all_eq_false] at h ⊢
              obtain ⟨y, hy, hy2⟩ := h
              exact ⟨y, List.mem_of_mem_take hy, hy2⟩)
          clear HO
          go_wp2_with fail
          go_ret
          rw [hR.out]
          exact ⟨rfl, HX.out.trans HE.out⟩
        · by_cases hlt : k < tn
          · obtain ⟨fb, fo, p, rfl, hp, p0, p1, p2, p3, p4⟩ := trs_src (HTT.out.ext HE.out) hlt
            have HK : Hid (∀ o' : Bool, o' = trR p → o' = (B2 && (ti.take (k + 1)).all trR)) := Lib.hid (fun o' e => by
              have h := HO.out
              have hB : B2 = true := by cases B2 with | false => simp at h | true => rfl
              rw [hB, Bool.true_and] at h ⊢
              rw [List.take_add_one, hp, List.all_append, ← h, e]
              simp)
            have HP := Lib.hid (fun w => tierRight_any p w)
            obtain ⟨o', ho'⟩ : ∃ o', o' = trR p := ⟨_, rfl⟩
            rw [← ho'] at HP
            have HK2 := Lib.hid (HK.out o' ho')
            clear ho' HK HO hp
            go_wp2_with fail
            refine (HP.out _).mono ?_
            rintro e w' ⟨rfl, hx⟩
            have HE2 := Lib.hid (HE.out.trans hx)
            clear hx
            go_wp2_with fail
            go_roundw
            case rel => exact ⟨k + 1, o', by omega, by go_num, rfl, HK2, HE2⟩
            case measure => simp [RowKit.intOf]; omega
          · obtain rfl : k = tn := by omega
            have hR : Hid (R = true) := Lib.hid (by
              rw [HR.out]
              have h := HO.out
              rw [List.take_of_length_le (by rw [HTN.out]; exact Nat.le_refl _)] at h
              exact h.symm)
            clear HO
            go_wp2_with fail
            go_ret
            rw [hR.out]
            exact ⟨rfl, HX.out.trans HE.out⟩
end Go.Proofs.YtgdgjnecgelalaaGreatDoor
