/- BucketsFit: the law's walk. -/
import Derived.Test.YthnpchfcafaiiaaFit
import Derived.Test.YthnpchfcafaiiaaMsk
import Derived.Test.YthnpchfcafaiiaaSlp
import Derived.Deep.DeepCutAuto
namespace Go.Proofs.Ythnpchfcafaiiaa
open Go.RowKit Go.Lib Go.Sort

/-- The kind of the windows, in its block. -/
structure KdAt (w0 : World) (kb : Nat) (W S O : Int) (wx : World) : Prop where
  blk : wx.heap[kb]? = some (.cells #[.int .i64 W, .int .i64 S, .int .i64 O] 24 (0, 0))
  ext : Ext w0 wx
theorem KdAt.cells {w0 wx : World} {kb : Nat} {W S O : Int} (h : KdAt w0 kb W S O wx) : wx.cell? ⟨kb, 0, none⟩ = some (.int .i64 W) ∧ wx.cell? ⟨kb, 1, none⟩ = some (.int .i64 S) ∧ wx.cell? ⟨kb, 2, none⟩ = some (.int .i64 O) :=
  ⟨by have := cell_of_block h.blk 0; simpa using this, by have := cell_of_block h.blk 1; simpa using this, by have := cell_of_block h.blk 2; simpa using this⟩
theorem KdAt.mono {w0 wx wy : World} {kb : Nat} {W S O : Int} (h : KdAt w0 kb W S O wx) (hx : Ext wx wy) : KdAt w0 kb W S O wy :=
  ⟨(hx.block (block_lt h.blk)).trans h.blk, h.ext.trans hx⟩
theorem one_len : (gatL 1 1 0 [⟨5, 0, 0⟩]).length = 1 := by decide

theorem kinds_of {wi pp ss o : Nat} {W S O : Int} (h1 : 1 ≤ wi) (h2 : wi ≤ 16) (hp1 : 1 ≤ pp) (hp2 : pp ≤ 8) (hs1 : 1 ≤ ss) (hs2 : ss ≤ 8) (hW : W = (wi : Int) * pp) (hS : S = (wi : Int) * ss ∨ S = W) (hSW : S ≤ W) (hO : O = ((wi : Int) * o) % S) : Kinds wi W S O := by
  have e1 : (wi : Int) * 1 ≤ (wi : Int) * pp := Int.mul_le_mul_of_nonneg_left (by omega) (by omega)
  have e2 : (wi : Int) * pp ≤ 16 * 8 := Int.mul_le_mul (by omega) (by omega) (by omega) (by omega)
  have e3 : (wi : Int) * 1 ≤ (wi : Int) * ss := Int.mul_le_mul_of_nonneg_left (by omega) (by omega)
  have e4 : (wi : Int) * pp ≤ (wi : Int) * 8 := Int.mul_le_mul_of_nonneg_left (by omega) (by omega)
  have hS1 : (wi : Int) ≤ S := by rcases hS with h | h <;> omega
  have mW : W % (wi : Int) = 0 := by rw [hW]; exact Int.mul_emod_right _ _
  have mS : S % (wi : Int) = 0 := by
    rcases hS with h | h
    · rw [h]; exact Int.mul_emod_right _ _
    · rw [h]; exact mW
  have o1 : 0 ≤ O := by rw [hO]; exact Int.emod_nonneg _ (by omega)
  have o2 : O < S := by rw [hO]; exact Int.emod_lt_of_pos _ (by omega)
  refine ⟨by omega, by omega, ?_, mW, mS, ?_⟩
  · unfold windowB
    simp only [Bool.and_eq_true, decide_eq_true_eq]
    omega
  · rw [hO]
    exact (Int.emod_emod_of_dvd _ (Int.dvd_of_emod_eq_zero mS)).trans (Int.mul_emod_right _ _)

set_option maxHeartbeats 8000000 in
set_option maxRecDepth 100000 in
theorem fit_walk (w : World) (a : Option Addr) (n c : Nat) (l : List Pt) (width y0 y1 y2 : Int) (hl : Src w 3 (.slice a n c) n (pts l)) (hn : n < 4611686018427387904) (hnc : n ≤ c) (hfit : ∀ p ∈ l, p.fits) :
    Calls Try.prog 4 #[.slice a n c, .int .i64 width, .agg #[.int .i64 y0, .int .i64 y1, .int .i64 y2]] w fun e w' => e = .returned (.bool true) ∧ Ext w w' := by
  have HL := Lib.hid hl
  have HF := Lib.hid hfit
  clear hl hfit
  go_enter Try.func4, Try.ntmps4
  go_upto_if 19 with fail
  go_cut [0] (fun s0 wx => ∃ (n' : Nat) (l' : List Pt), s0 = .slice a n' c ∧ Hid (Src w 3 (.slice a n' c) n' (pts l') ∧ n' ≤ 60 ∧ ∀ p ∈ l', p.fits) ∧ wx = w.alloc (.cells #[.int .i64 y0, .int .i64 y1, .int .i64 y2] 38 (0, 0)))
  case first =>
    rcases Nat.lt_or_ge 60 n with h | h
    · have h1 : 60 ≤ c := by omega
      go_wp2_with fail
      go_meet
      exact ⟨60, l.take 60, rfl, Lib.hid ⟨psrc_fit HL.out (by omega) (by omega), by omega, fun p hp => HF.out p (List.mem_of_mem_take hp)⟩, rfl⟩
    · have h1 : ¬ 60 < n := by omega
      go_wp2_with fail
      go_meet
      exact ⟨n, l, rfl, Lib.hid ⟨HL.out, h, HF.out⟩, rfl⟩
  case rest =>
    obtain ⟨n1, l1, rfl, C1, rfl⟩ := hcut
    clear HL HF hnc hn
    have HB00 := Lib.hid (heap_alloc_new w (.cells #[.int .i64 y0, .int .i64 y1, .int .i64 y2] 38 (0, 0)))
    have HX0 : Hid (Ext w (w.alloc (.cells #[.int .i64 y0, .int .i64 y1, .int .i64 y2] 38 (0, 0)))) := Lib.hid ((Ext.refl w).alloc _)
    obtain ⟨bx, hbx⟩ : ∃ bx, bx = w.heap.size := ⟨_, rfl⟩
    rw [← hbx] at HB00 ⊢
    clear hbx
    generalize w.alloc (.cells #[.int .i64 y0, .int .i64 y1, .int .i64 y2] 38 (0, 0)) = w0 at *
    have hn1 : n1 ≤ 60 := C1.out.2.1
    go_wp2_with fail
    go_loopw [6, 7] (fun s6 s7 wr => ∃ k : Nat, k ≤ n1 ∧ s6 = .bool false ∧ s7 = .int .i64 k ∧ Hid (Ext w0 wr) ∧ Hid (∀ (i : Nat) (p : Pt), i < k → l1[i]? = some p → -1152921504606846912 ≤ p.t ∧ p.t ≤ 1152921504606846912)) (fun _ i _ => n1 - (RowKit.intOf i).toNat)
    case atStart => exact ⟨0, by omega, rfl, rfl, Lib.hid (Ext.refl _), Lib.hid (fun i p hi => by omega)⟩
    case round =>
      obtain ⟨k, hk, rfl, rfl, HWR, HT⟩ := hrel
      have HX1 := Lib.hid (HX0.out.trans HWR.out)
      by_cases hlt : k < n1
      · obtain ⟨b, so, p, rfl, hp, c0, c1, c2⟩ := pts_src (C1.out.1.ext HX1.out) hlt
        have HP := Lib.hid hp
        clear hp c1 c2
        obtain ⟨pt, pv, ps⟩ := p
        simp only at c0
        rcases Int.lt_or_le 1152921504606846912 pt with h1 | h1
        · have hd1 : decide (1152921504606846912 < pt) = true := decide_eq_true h1
          clear h1
          go_wp2_with fail
          go_ret
          exact ⟨rfl, HX1.out⟩
        · have hd1 : decide (1152921504606846912 < pt) = false := by simp; omega
          rcases Int.lt_or_le pt (-1152921504606846912) with h2 | h2
          · have hd2 : decide (pt < -1152921504606846912) = true := decide_eq_true h2
            clear h1 h2
            go_wp2_with fail
            go_ret
            exact ⟨rfl, HX1.out⟩
          · have hd2 : decide (pt < -1152921504606846912) = false := by simp; omega
            have HTT := Lib.hid (And.intro h1 h2)
            clear h1 h2
            go_wp2_with fail
            refine ⟨⟨k + 1, by omega, rfl, by go_num, Lib.hid HWR.out, Lib.hid (fun i p hi hip => ?_)⟩, by simp [RowKit.intOf]; omega⟩
            rcases Nat.lt_or_ge i k with h | h
            · exact HT.out i p h hip
            · obtain rfl : i = k := by omega
              rw [HP.out] at hip
              cases hip
              exact ⟨HTT.out.2, HTT.out.1⟩
      · obtain rfl : k = n1 := by omega
        have HTL : Hid (∀ p ∈ l1, -1152921504606846912 ≤ p.t ∧ p.t ≤ 1152921504606846912) := Lib.hid (fun p hp => by
          obtain ⟨i, hi, e⟩ := List.getElem_of_mem hp
          have hl := src_len C1.out.1
          exact HT.out i p (by omega) (List.getElem?_eq_some_iff.2 ⟨hi, e⟩))
        clear HT hlt hk
        have HB0 := Lib.hid ((HWR.out.block (block_lt HB00.out)).trans HB00.out)
        have hb1 := i64_and15 width
        obtain ⟨p15, hp15, hp15'⟩ : ∃ p15 : Nat, width % 16 = (p15 : Int) ∧ p15 ≤ 15 := ⟨(width % 16).toNat, by omega, by omega⟩
        rw [hp15] at hb1
        have e0 := i64_and7 y0
        obtain ⟨a7, ha7, ha7'⟩ : ∃ a7 : Nat, y0 % 8 = (a7 : Int) ∧ a7 ≤ 7 := ⟨(y0 % 8).toNat, by omega, by omega⟩
        rw [ha7] at e0
        have e1 := i64_and7 y1
        obtain ⟨b7, hb7, hb7'⟩ : ∃ b7 : Nat, y1 % 8 = (b7 : Int) ∧ b7 ≤ 7 := ⟨(y1 % 8).toNat, by omega, by omega⟩
        rw [hb7] at e1
        have e2 := i64_and7 y2
        obtain ⟨o7, ho7, ho7'⟩ : ∃ o7 : Nat, y2 % 8 = (o7 : Int) ∧ o7 ≤ 7 := ⟨(y2 % 8).toNat, by omega, by omega⟩
        rw [ho7] at e2
        clear hp15 ha7 hb7 ho7
        have x0 : wr.cell? ⟨bx, 0, none⟩ = some (.int .i64 y0) := by have := cell_of_block HB0.out 0; simpa using this
        have x1 : wr.cell? ⟨bx, 1, none⟩ = some (.int .i64 y1) := by have := cell_of_block HB0.out 1; simpa using this
        have x2 : wr.cell? ⟨bx, 2, none⟩ = some (.int .i64 y2) := by have := cell_of_block HB0.out 2; simpa using this
        go_upto_region 9 with fail
        obtain ⟨wi, hwi, hwi1, hwi16⟩ : ∃ wi : Nat, 1 + (p15 : Int) = (wi : Int) ∧ 1 ≤ wi ∧ wi ≤ 16 := ⟨p15 + 1, by omega, by omega, by omega⟩
        rw [hwi]
        clear hwi hb1 hp15'
        obtain ⟨W, hW⟩ : ∃ W : Int, W = (wi : Int) * (1 + (a7 : Int)) := ⟨_, rfl⟩
        obtain ⟨S0, hS0⟩ : ∃ S0 : Int, S0 = (wi : Int) * (1 + (b7 : Int)) := ⟨_, rfl⟩
        obtain ⟨O0, hO0⟩ : ∃ O0 : Int, O0 = (wi : Int) * (o7 : Int) := ⟨_, rfl⟩
        have bW : 1 ≤ W ∧ W ≤ 128 := by
          have h1 : (wi : Int) * 1 ≤ (wi : Int) * (1 + (a7 : Int)) := Int.mul_le_mul_of_nonneg_left (by omega) (by omega)
          have h2 : (wi : Int) * (1 + (a7 : Int)) ≤ 16 * 8 := Int.mul_le_mul (by omega) (by omega) (by omega) (by omega)
          omega
        have bS : 1 ≤ S0 ∧ S0 ≤ 128 := by
          have h1 : (wi : Int) * 1 ≤ (wi : Int) * (1 + (b7 : Int)) := Int.mul_le_mul_of_nonneg_left (by omega) (by omega)
          have h2 : (wi : Int) * (1 + (b7 : Int)) ≤ 16 * 8 := Int.mul_le_mul (by omega) (by omega) (by omega) (by omega)
          omega
        have bO : 0 ≤ O0 ∧ O0 ≤ 112 := by
          have h1 : 0 ≤ (wi : Int) * (o7 : Int) := Int.mul_nonneg (by omega) (by omega)
          have h2 : (wi : Int) * (o7 : Int) ≤ 16 * 7 := Int.mul_le_mul (by omega) (by omega) (by omega) (by omega)
          omega
        have wW : IntKind.i64.wrap ((wi : Int) * (1 + (a7 : Int))) = W := by rw [← hW]; exact IntWalk.i64_in _ (by omega)
        have wW' : wrap64 ((wi : Int) * (1 + (a7 : Int))) = W := by rw [← hW]; exact IntWalk.wrap64_in _ (by omega)
        have wS : IntKind.i64.wrap ((wi : Int) * (1 + (b7 : Int))) = S0 := by rw [← hS0]; exact IntWalk.i64_in _ (by omega)
        have wS' : wrap64 ((wi : Int) * (1 + (b7 : Int))) = S0 := by rw [← hS0]; exact IntWalk.wrap64_in _ (by omega)
        have wO : IntKind.i64.wrap ((wi : Int) * (o7 : Int)) = O0 := by rw [← hO0]; exact IntWalk.i64_in _ (by omega)
        have wO' : wrap64 ((wi : Int) * (o7 : Int)) = O0 := by rw [← hO0]; exact IntWalk.wrap64_in _ (by omega)
        have HK : Hid (∀ S : Int, (S = S0 ∨ S = W) → S ≤ W → Kinds wi W S (O0 % S)) := Lib.hid (fun S h1 h2 => kinds_of (wi := wi) (pp := a7 + 1) (ss := b7 + 1) (o := o7) hwi1 hwi16 (by omega) (by omega) (by omega) (by omega) (by rw [hW, Int.add_comm]; simp) (by rcases h1 with h | h; exact .inl (by rw [h, hS0, Int.add_comm]; simp); exact .inr h) h2 (by rw [hO0]))
        have HB1 := Lib.hid (And.intro bW (And.intro bS bO))
        clear hW hS0 hO0
        go_upto_region 10 with fail
        obtain ⟨kb, hkb⟩ : ∃ kb, kb = wr.heap.size := ⟨_, rfl⟩
        have K1 : Hid (KdAt wr kb W (wi : Int) 0 (wr.alloc (.cells #[.int .i64 W, .int .i64 (wi : Int), .int .i64 0] 24 (0, 0)))) := Lib.hid (by rw [hkb]; exact ⟨heap_alloc_new wr _, (Ext.refl wr).alloc _⟩)
        have HKB : Hid (wr.heap.size ≤ kb) := Lib.hid (Nat.le_of_eq hkb.symm)
        rw [← hkb]
        clear hkb
        generalize wr.alloc (.cells #[.int .i64 W, .int .i64 (wi : Int), .int .i64 0] 24 (0, 0)) = w1 at *
        have HB1 := Lib.hid ((K1.out.ext.block (block_lt HB0.out)).trans HB0.out)
        clear x0 x1 x2
        have x1 : w1.cell? ⟨bx, 1, none⟩ = some (.int .i64 y1) := by have := cell_of_block HB1.out 1; simpa using this
        obtain ⟨k0, k1, k2⟩ := K1.out.cells
        have z1 := free_of_block K1.out.blk 1
        go_upto_region 11 with fail
        have K2 : Hid (KdAt wr kb W S0 0 (w1.setCell ⟨kb, 1, none⟩ (.int .i64 S0))) := Lib.hid ⟨by rw [setCell_block K1.out.blk]; rfl, K1.out.ext.setCell HKB.out _⟩
        clear k0 k1 k2 x1 z1
        generalize World.setCell _ _ _ = w2 at *
        obtain ⟨k0, k1, k2⟩ := K2.out.cells
        have z1 := free_of_block K2.out.blk 1
        go_upto_if 64 with fail
        go_cut [6] (fun s6 wx => ∃ S : Int, s6 = .bool false ∧ Hid (KdAt wr kb W S 0 wx ∧ (S = S0 ∨ S = W) ∧ S ≤ W))
        case first =>
          rcases Int.lt_or_le W S0 with h | h
          · clear wW wW' wS wS' wO wO' HK e0 e1 e2
            go_wp2_with fail
            go_meet
            exact ⟨W, rfl, Lib.hid ⟨⟨by rw [setCell_block K2.out.blk]; rfl, K2.out.ext.setCell HKB.out _⟩, .inr rfl, Int.le_refl _⟩⟩
          · have h' := Lib.hid h
            clear wW wW' wS wS' wO wO' HK e0 e1 e2
            go_wp2_with fail
            go_meet
            exact ⟨S0, rfl, Lib.hid ⟨K2.out, .inl rfl, h'.out⟩⟩
        case rest =>
          obtain ⟨S, rfl, K3⟩ := hcut
          clear k0 k1 k2 z1
          obtain ⟨k0, k1, k2⟩ := K3.out.1.cells
          have z2 := free_of_block K3.out.1.blk 2
          have HB3 := Lib.hid ((K3.out.1.ext.block (block_lt HB0.out)).trans HB0.out)
          have x2 : wc.cell? ⟨bx, 2, none⟩ = some (.int .i64 y2) := by have := cell_of_block HB3.out 2; simpa using this
          have hKD := HK.out S K3.out.2.1 K3.out.2.2
          obtain ⟨O, hO⟩ : ∃ O, O = O0 % S := ⟨_, rfl⟩
          rw [← hO] at hKD
          have HKD := Lib.hid hKD
          have hs1 : 1 ≤ S := (window_nums hKD.win).2.2.1
          have hsz : (S == 0) = false := by simp; omega
          have hrem : O0.tmod S = O := by rw [hO]; exact Int.tmod_eq_emod_of_nonneg bO.1
          have hrem2 : O0 % S = O := hO.symm
          clear hKD hO
          go_upto_region 14 with fail
          have K4 : Hid (KdAt wr kb W S O (wc.setCell ⟨kb, 2, none⟩ (.int .i64 O))) := Lib.hid ⟨by rw [setCell_block K3.out.1.blk]; rfl, K3.out.1.ext.setCell HKB.out _⟩
          clear k0 k1 k2 z2 x2 hrem hrem2 hsz hs1 e0 e1 e2 wW wW' wS wS' wO wO' HK K1 K2
          generalize World.setCell _ _ _ = w4 at *
          clear K3 HB3
          obtain ⟨k0, k1, k2⟩ := K4.out.cells
          have HSRC : Hid (∀ W', Ext wr W' → Src W' 3 (.slice a k c) k (pts l1)) := Lib.hid (fun W' hx => C1.out.1.ext (HX1.out.trans hx))
          have HLEN : Hid (l1.length = k) := Lib.hid (src_len C1.out.1)
          have HFV : Hid (∀ p ∈ l1, -9223372036854775808 ≤ p.v ∧ p.v ≤ 9223372036854775807) := Lib.hid (fun p hp => (C1.out.2.2 p hp).2.1)
          have HTB : Hid (l1.any (fun p => !timeB p.t) = false) := Lib.hid (by
            rw [List.any_eq_false]
            intro p hp
            have h1 := HTL.out p hp
            have : timeB p.t = true := by unfold timeB; simp only [Bool.and_eq_true, decide_eq_true_eq]; omega
            simp [this])
          have HWB : Hid (windowB (wi : Int) (wi : Int) 0 = true) := Lib.hid (by unfold windowB; simp only [Bool.and_eq_true, decide_eq_true_eq]; omega)
          have HFI : Hid (fitsW W S O (wi : Int) 0 = true) := Lib.hid (by
            have h1 := HKD.out
            unfold fitsW
            rw [h1.win]
            simp only [Bool.and_eq_true, decide_eq_true_eq, Bool.true_and]
            refine ⟨⟨⟨⟨⟨⟨by omega, by omega⟩, by omega⟩, by omega⟩, h1.mW⟩, h1.mS⟩, ?_⟩
            rw [Int.sub_zero]
            exact h1.mO)
          clear bW bS bO HB1
          go_wp2_with fail
          refine (windows_any w4 a k c l1 W S O (HSRC.out _ K4.out.ext) (by omega) HFV.out).mono ?_
          intro e w5 hpost
          unfold winPost at hpost
          rw [if_pos ⟨HKD.out.win, HTB.out⟩] at hpost
          obtain ⟨v, rfl, ds1, hp1, hs1, hm1⟩ := hpost
          obtain ⟨va1, vc1, rfl⟩ := hm1.row.shape
          have HM1 := Lib.hid (hm1.row.src (bks_one (ds1.map (bkOf W))))
          have K5 := Lib.hid (K4.out.mono hm1.ext)
          have HD1 := Lib.hid (And.intro hp1 hs1)
          clear hp1 hs1 hm1 k0 k1 k2
          obtain ⟨k0, k1, k2⟩ := K5.out.cells
          obtain ⟨m1, hm1⟩ : ∃ m1, m1 = ds1.length := ⟨_, rfl⟩
          rw [← hm1] at HM1 ⊢
          have HL1 := Lib.hid hm1
          clear hm1
          go_wp2_with fail
          refine (windows_any w5 a k c l1 (wi : Int) (wi : Int) 0 (HSRC.out _ K5.out.ext) (by omega) HFV.out).mono ?_
          intro e w6 hpost
          unfold winPost at hpost
          rw [if_pos ⟨HWB.out, HTB.out⟩] at hpost
          obtain ⟨v, rfl, ds2, hp2, hs2, hm2⟩ := hpost
          obtain ⟨va2, vc2, rfl⟩ := hm2.row.shape
          have HM2 := Lib.hid (hm2.row.src (bks_one (ds2.map (bkOf (wi : Int)))))
          have K6 := Lib.hid (K5.out.mono hm2.ext)
          have HM16 := Lib.hid (HM1.out.ext hm2.ext)
          have HD2 := Lib.hid (And.intro hp2 hs2)
          clear hp2 hs2 hm2 k0 k1 k2
          obtain ⟨m2, hm2⟩ : ∃ m2, m2 = ds2.length := ⟨_, rfl⟩
          rw [← hm2] at HM2 ⊢
          have HL2 := Lib.hid hm2
          clear hm2
          go_wp2_with fail
          have HX7 := Lib.hid ((Ext.refl w6).alloc (.cells #[.int .i64 5, .int .i64 0, .int .i64 0] 35 (0, 0)))
          refine (windows_any _ _ 1 1 [⟨5, 0, 0⟩] 1 1 0 (src_pt' (p := ⟨5, 0, 0⟩) (heap_alloc_new w6 (.cells #[.int .i64 5, .int .i64 0, .int .i64 0] 35 (0, 0)))) (by omega) (fun p hp => by simp only [List.mem_singleton] at hp; subst hp; simp)).mono ?_
          intro e w7 hpost
          unfold winPost at hpost
          rw [if_pos ⟨by decide, by decide⟩] at hpost
          obtain ⟨v, rfl, ds3, hp3, hs3, hm3⟩ := hpost
          have hl3 : ds3.length = 1 := hp3.length_eq.trans one_len
          rw [hl3] at hm3
          obtain ⟨va3, vc3, rfl⟩ := hm3.row.shape
          have HX67 := Lib.hid (HX7.out.trans hm3.ext)
          have K7 := Lib.hid (K6.out.mono HX67.out)
          have HM17 := Lib.hid (HM16.out.ext HX67.out)
          have HM27 := Lib.hid (HM2.out.ext HX67.out)
          clear hp3 hs3 hm3 hl3 ds3 HX7
          obtain ⟨k0, k1, k2⟩ := K7.out.cells
          have HSM : Hid (SmallB (wi : Int) l1 (ds2.map (bkOf (wi : Int)))) := Lib.hid (small_of (by omega) l1 HD2.out.1 HD2.out.2)
          have HSF := Lib.hid (small_fits HKD.out (by have := HLEN.out; omega) HFV.out HTL.out HSM.out)
          have hm2 : m2 ≤ 60 := by
            rw [HL2.out, HD2.out.1.length_eq]
            have h1 := gatL_len1 (wd := (wi : Int)) (st := (wi : Int)) (off := 0) (fun t => by
              have := winN_parts (st := (wi : Int)) (off := 0) (t := t) (p := 1) (by omega) (by omega)
              simpa using this) l1
            have := HLEN.out
            omega
          have hm1 : m1 ≤ 3840 := by
            have h1 := gatL_len (wd := W) (st := S) (off := O) HKD.out.win l1
            rw [HL1.out, HD1.out.1.length_eq]
            have := HLEN.out
            omega
          go_wp2_with (first | (go_at_call 10; refine (fitsW_any W S O (wi : Int) 0 _ (by omega) (by omega)).mono ?_; rw [HFI.out]; rintro e w8 ⟨rfl, hx8⟩; have HX8 := Lib.hid hx8; have K8 := Lib.hid (K7.out.mono hx8); clear hx8 k0 k1 k2; obtain ⟨k0, k1, k2⟩ := K8.out.cells) | (go_at_call 11; refine (refWin_any W S O _).mono ?_; rw [HKD.out.win]; rintro e w9 ⟨rfl, rfl⟩))
          refine (join_ok w8 va2 m2 vc2 (ds2.map (bkOf (wi : Int))) W S O 60 (HM27.out.ext HX8.out) (by omega) (by omega) HKD.out.win HSF.out.1 HSF.out.2).mono ?_
          rintro e w9 ⟨v, rfl, ds4, hp4, hs4, hm4⟩
          obtain ⟨va4, vc4, rfl⟩ := hm4.row.shape
          have hv := window_nums HKD.out.win
          have hsame : ds4 = ds1 := wins_unique (genL_nodup _ _ _) (gatL_nodup _) hp4 HD1.out.1 hs4 HD1.out.2 (fun z => join_same (wi := (wi : Int)) (by omega) hv.2.2.1 hv.2.2.2.1 HKD.out.mS HKD.out.mO HKD.out.mW HSM.out z)
          rw [hsame, ← HL1.out] at hm4
          have HM4 := Lib.hid (hm4.row.src (bks_one (ds1.map (bkOf W))))
          rw [hsame, ← HL1.out]
          have HM19 := Lib.hid (HM17.out.ext (HX8.out.trans hm4.ext))
          have HEX := Lib.hid (HX1.out.trans (K8.out.ext.trans hm4.ext))
          clear hp4 hs4 hm4 hsame hv k0 k1 k2
          have hbq : (m1 != m1) = false := bne_self_eq_false _
          go_wp2_with fail
          go_loopw [6, 16] (fun s6 s16 wq => ∃ j : Nat, j ≤ m1 ∧ s6 = .bool false ∧ s16 = .int .i64 j ∧ Hid (Ext w9 wq)) (fun _ i _ => m1 - (RowKit.intOf i).toNat)
          case atStart => exact ⟨0, by omega, rfl, rfl, Lib.hid (Ext.refl _)⟩
          case round =>
            obtain ⟨j, hj, rfl, rfl, HI⟩ := hrel
            by_cases hjm : j < m1
            · obtain ⟨b1, o1, bk, rfl, hbk, hr1⟩ := enc_src bkc_len (by decide) (HM4.out.ext HI.out) hjm
              obtain ⟨b2, o2, bk', rfl, hbk', hr2⟩ := enc_src bkc_len (by decide) (HM19.out.ext HI.out) hjm
              obtain rfl : bk = bk' := by rw [hbk] at hbk'; exact Option.some.inj hbk'
              clear hbk hbk'
              obtain ⟨lo, hi, an, asu, mn, mx, ⟨ft, fv, fs⟩, ⟨lt, lv, ls⟩⟩ := bk
              obtain ⟨sh, hsh⟩ : ∃ x, x = asu / 18446744073709551616 := ⟨_, rfl⟩
              obtain ⟨sl, hsl⟩ : ∃ x, x = asu % 18446744073709551616 := ⟨_, rfl⟩
              have HBC : Hid (bkc ⟨lo, hi, an, asu, mn, mx, ⟨ft, fv, fs⟩, ⟨lt, lv, ls⟩⟩ = [.int .i64 lo, .int .i64 hi, .int .i64 an, .int .i64 sh, .int .u64 sl, .int .i64 mn, .int .i64 mx, .int .i64 ft, .int .i64 fv, .int .i64 fs, .int .i64 lt, .int .i64 lv, .int .i64 ls]) := Lib.hid (by rw [hsh, hsl]; rfl)
              rw [HBC.out] at hr1 hr2
              have HR1 := Lib.hid hr1
              have HR2 := Lib.hid hr2
              clear hsh hsl hr1 hr2
              have hwj : IntKind.i64.wrap ((j : Int) + 1) = ((j + 1 : Nat) : Int) := by rw [IntWalk.i64_in _ (by omega)]; omega
              have A0 : wr.cell? ⟨b1, o1 + j * 13, none⟩ = some (.int .i64 lo) := HR1.out 0 _ rfl
              have A1 : wr.cell? ⟨b1, o1 + j * 13 + 1, none⟩ = some (.int .i64 hi) := HR1.out 1 _ rfl
              have A2 : wr.cell? ⟨b1, o1 + j * 13 + 2, none⟩ = some (.int .i64 an) := HR1.out 2 _ rfl
              have A3 : wr.cell? ⟨b1, o1 + j * 13 + 3, none⟩ = some (.int .i64 sh) := HR1.out 3 _ rfl
              have A4 : wr.cell? ⟨b1, o1 + j * 13 + 4, none⟩ = some (.int .u64 sl) := HR1.out 4 _ rfl
              have A5 : wr.cell? ⟨b1, o1 + j * 13 + 5, none⟩ = some (.int .i64 mn) := HR1.out 5 _ rfl
              have A6 : wr.cell? ⟨b1, o1 + j * 13 + 6, none⟩ = some (.int .i64 mx) := HR1.out 6 _ rfl
              have A7 : wr.cell? ⟨b1, o1 + j * 13 + 7, none⟩ = some (.int .i64 ft) := HR1.out 7 _ rfl
              have A8 : wr.cell? ⟨b1, o1 + j * 13 + 8, none⟩ = some (.int .i64 fv) := HR1.out 8 _ rfl
              have A9 : wr.cell? ⟨b1, o1 + j * 13 + 9, none⟩ = some (.int .i64 fs) := HR1.out 9 _ rfl
              have A10 : wr.cell? ⟨b1, o1 + j * 13 + 10, none⟩ = some (.int .i64 lt) := HR1.out 10 _ rfl
              have A11 : wr.cell? ⟨b1, o1 + j * 13 + 11, none⟩ = some (.int .i64 lv) := HR1.out 11 _ rfl
              have A12 : wr.cell? ⟨b1, o1 + j * 13 + 12, none⟩ = some (.int .i64 ls) := HR1.out 12 _ rfl
              have B0 : wr.cell? ⟨b2, o2 + j * 13, none⟩ = some (.int .i64 lo) := HR2.out 0 _ rfl
              have B1 : wr.cell? ⟨b2, o2 + j * 13 + 1, none⟩ = some (.int .i64 hi) := HR2.out 1 _ rfl
              have B2 : wr.cell? ⟨b2, o2 + j * 13 + 2, none⟩ = some (.int .i64 an) := HR2.out 2 _ rfl
              have B3 : wr.cell? ⟨b2, o2 + j * 13 + 3, none⟩ = some (.int .i64 sh) := HR2.out 3 _ rfl
              have B4 : wr.cell? ⟨b2, o2 + j * 13 + 4, none⟩ = some (.int .u64 sl) := HR2.out 4 _ rfl
              have B5 : wr.cell? ⟨b2, o2 + j * 13 + 5, none⟩ = some (.int .i64 mn) := HR2.out 5 _ rfl
              have B6 : wr.cell? ⟨b2, o2 + j * 13 + 6, none⟩ = some (.int .i64 mx) := HR2.out 6 _ rfl
              have B7 : wr.cell? ⟨b2, o2 + j * 13 + 7, none⟩ = some (.int .i64 ft) := HR2.out 7 _ rfl
              have B8 : wr.cell? ⟨b2, o2 + j * 13 + 8, none⟩ = some (.int .i64 fv) := HR2.out 8 _ rfl
              have B9 : wr.cell? ⟨b2, o2 + j * 13 + 9, none⟩ = some (.int .i64 fs) := HR2.out 9 _ rfl
              have B10 : wr.cell? ⟨b2, o2 + j * 13 + 10, none⟩ = some (.int .i64 lt) := HR2.out 10 _ rfl
              have B11 : wr.cell? ⟨b2, o2 + j * 13 + 11, none⟩ = some (.int .i64 lv) := HR2.out 11 _ rfl
              have B12 : wr.cell? ⟨b2, o2 + j * 13 + 12, none⟩ = some (.int .i64 ls) := HR2.out 12 _ rfl
              go_wp2_with fail
              refine wp_region_split_lit [] [0, 1, 2, 3, 4, 5, 6, 7, 8] [] (by kernel_rfl) (by kernel_rfl) (fun _ _ dd _ _ hh => by cases dd <;> exact hh) ?_
              simp only [pickOps, List.getElem?_cons_succ, List.getElem?_cons_zero]
              refine wpQuiet_nil ?_
              repeat (go_big_quiet_step (fail))
              refine wpQuiet_nil ?_
              intro wz hw'
              have HZ : Hid (Ext w9 wz) := Lib.hid (by obtain ⟨k, rfl⟩ := hw'; exact HI.out.trans (Ext.drewN _ _))
              clear hw' A0 B0 A1 B1 A2 B2 A3 B3 A4 B4 A5 B5 A6 B6 A7 B7 A8 B8 A9 B9 A10 B10 A11 B11 A12 B12
              go_wp2_with fail
              exact ⟨⟨j + 1, by omega, rfl, by go_num, Lib.hid HZ.out⟩, by simp [RowKit.intOf]; omega⟩
            · obtain rfl : j = m1 := by omega
              go_wp2_with fail
              go_ret
              exact ⟨rfl, HEX.out.trans HI.out⟩
end Go.Proofs.Ythnpchfcafaiiaa
