/- wide's Text. -/
import Derived.Test.YtipbniaehhoaaaaDoorDcm
import Derived.Test.YtipbniaehhoaaaaDoorAm2
import Derived.Test.YtipbniaehhoaaaaDoorPrt
namespace Go.Proofs.YtipbniaehhoaaaaDoor
open Go.RowKit Go.Sort Go.Lib

def pI (a : Nat) : Nat → Nat
  | 0 => a
  | i + 1 => pI a i / 10000000000000000000
def dI (a i : Nat) : Nat := pI a i % 10000000000000000000
def lI (a : Nat) : Nat → Array Value
  | 0 => #[.int .u64 0, .int .u64 0, .int .u64 0]
  | i + 1 => (lI a i).setIfInBounds i (.int .u64 (dI a i : Int))
theorem lI_size (a : Nat) : ∀ i, (lI a i).size = 3
  | 0 => rfl
  | i + 1 => by unfold lI; simp [lI_size a i]
theorem pI_lt {a : Nat} (h : a < 340282366920938463463374607431768211456) : ∀ i, pI a i < 340282366920938463463374607431768211456
  | 0 => h
  | i + 1 => by have := pI_lt h i; unfold pI; omega

/-- The blocks of the loop. -/
structure TxR (w : World) (lb pb a i : Nat) (wr : World) : Prop where
  l : wr.heap[lb]? = some (.cells (lI a i) 39 (0, 0))
  p : wr.heap[pb]? = some (.cells #[.int .u64 ((pI a i : Nat) / 18446744073709551616 : Int), .int .u64 ((pI a i : Nat) % 18446744073709551616 : Int)] 40 (0, 0))
  ext : Ext w wr

set_option maxHeartbeats 4000000 in
set_option maxRecDepth 100000 in
theorem text_any (s : Int) (w : World) (h1 : -170141183460469231731687303715884105728 ≤ s) (h2 : s < 170141183460469231731687303715884105728) :
    Calls Tryd.prog 9 #[sumV s] w fun e w' => e = .returned (.string ⟨(itoa s).toArray⟩) ∧ Ext w w' := by
  obtain ⟨a, ha⟩ : ∃ a : Nat, a = s.natAbs := ⟨_, rfl⟩
  have HA : Hid (a < 340282366920938463463374607431768211456) := Lib.hid (by omega)
  have HAM := Lib.hid (fun W => amount_gen s W h1 h2)
  have hab : absI s = (a : Int) := by unfold absI; split <;> omega
  rw [hab] at HAM
  have HPT : Hid (∀ (i : Nat) (W : World), Calls Tryd.prog 13 #[.agg #[.int .u64 ((pI a i : Nat) / 18446744073709551616 : Int), .int .u64 ((pI a i : Nat) % 18446744073709551616 : Int)], .int .u64 10000000000000000000] W fun e w' => e = .returned (.tuple #[.agg #[.int .u64 ((pI a (i + 1) : Nat) / 18446744073709551616 : Int), .int .u64 ((pI a (i + 1) : Nat) % 18446744073709551616 : Int)], .int .u64 (dI a i : Int)]) ∧ Ext W w') := Lib.hid (fun i W => by
    unfold dI
    have h := parts_any (pI a i : Nat) 10000000000000000000 W rfl (by omega) (by have := pI_lt HA.out i; omega)
    unfold amtV at h
    exact h)
  have HBL := Lib.hid (fun W => below_any (s / 18446744073709551616) (s % 18446744073709551616) W)
  unfold sumV at HAM ⊢
  unfold amtV at HAM
  obtain ⟨hi, hhi⟩ : ∃ x, x = s / 18446744073709551616 := ⟨_, rfl⟩
  obtain ⟨lo, hlo⟩ : ∃ x, x = s % 18446744073709551616 := ⟨_, rfl⟩
  rw [← hhi, ← hlo] at HAM HBL
  rw [← hhi, ← hlo]
  have HNEG : Hid (decide (hi < 0) = decide (s < 0)) := Lib.hid (by rw [hhi]; simp only [decide_eq_decide]; omega)
  rw [HNEG.out] at HBL
  have HS : Hid (a = s.natAbs) := Lib.hid ha
  have HAM0 : Hid (∀ W, Calls Tryd.prog 12 #[.agg #[.int .i64 hi, .int .u64 lo]] W fun e w' => e = .returned (.agg #[.int .u64 ((pI a 0 : Nat) / 18446744073709551616 : Int), .int .u64 ((pI a 0 : Nat) % 18446744073709551616 : Int)]) ∧ Ext W w') := HAM
  clear hhi hlo ha hab h1 h2 HAM HNEG
  go_enter Tryd.func9, Tryd.ntmps9
  go_wp2_with fail
  obtain ⟨sb, hsb⟩ : ∃ sb, sb = w.heap.size := ⟨_, rfl⟩
  obtain ⟨lb, hlb⟩ : ∃ lb, lb = sb + 1 := ⟨_, rfl⟩
  generalize hW : World.alloc _ _ = W
  have HXW : Hid (Ext w W) := Lib.hid (by subst hW; exact (((Ext.refl w).alloc _).alloc _))
  have HB1 : Hid (W.heap[sb]? = some (.cells #[.int .i64 hi, .int .u64 lo] 35 (0, 0))) := Lib.hid (by
    subst hW
    rw [hsb]
    have h0 := heap_alloc_new w (.cells #[.int .i64 hi, .int .u64 lo] 35 (0, 0))
    exact (((Ext.refl _).alloc _).block (block_lt h0)).trans h0)
  have HB2 : Hid (W.heap[lb]? = some (.cells (lI a 0) 39 (0, 0))) := Lib.hid (by subst hW; rw [hlb, hsb]; exact heap_alloc2 w _ _)
  have HNE : Hid (w.heap.size ≤ lb) := Lib.hid (by omega)
  rw [← hsb, ← hlb]
  clear hW hsb hlb
  refine (HAM0.out W).mono ?_
  rintro e w1 ⟨rfl, hx1⟩
  have HX1 := Lib.hid (HXW.out.trans hx1)
  have HC1 := Lib.hid ((hx1.block (block_lt HB1.out)).trans HB1.out)
  have HC2 := Lib.hid ((hx1.block (block_lt HB2.out)).trans HB2.out)
  clear hx1
  go_upto_region 3 with fail
  obtain ⟨pb, hpb⟩ : ∃ pb, pb = w1.heap.size := ⟨_, rfl⟩
  have HT0 : Hid (TxR w lb pb a 0 (w1.alloc (.cells #[.int .u64 ((pI a 0 : Nat) / 18446744073709551616 : Int), .int .u64 ((pI a 0 : Nat) % 18446744073709551616 : Int)] 40 (0, 0)))) := Lib.hid (by
    have hx := (Ext.refl w1).alloc (.cells #[.int .u64 ((pI a 0 : Nat) / 18446744073709551616 : Int), .int .u64 ((pI a 0 : Nat) % 18446744073709551616 : Int)] 40 (0, 0))
    refine ⟨(hx.block (block_lt HC2.out)).trans HC2.out, by rw [hpb]; exact heap_alloc_new w1 _, HX1.out.trans hx⟩)
  rw [← hpb]
  have HPB : Hid (w.heap.size ≤ pb ∧ lb < pb ∧ sb < pb) := Lib.hid (by
    have h1 := block_lt HC2.out
    have h2 := block_lt HC1.out
    have h3 := HX1.out.size
    omega)
  have HSB0 : Hid ((w1.alloc (.cells #[.int .u64 ((pI a 0 : Nat) / 18446744073709551616 : Int), .int .u64 ((pI a 0 : Nat) % 18446744073709551616 : Int)] 40 (0, 0))).heap[sb]? = some (.cells #[.int .i64 hi, .int .u64 lo] 35 (0, 0))) := Lib.hid ((((Ext.refl w1).alloc _).block (block_lt HC1.out)).trans HC1.out)
  have HSL : Hid (sb ≠ lb) := Lib.hid (by have h1 := HB1.out; have h2 := HB2.out; intro e; rw [e, h2] at h1; cases h1)
  clear hpb
  generalize World.alloc _ _ = W2 at *
  clear HC1 HC2 HB1 HB2 HX1
  go_wp2_with fail
  go_loopw [5, 10] (fun s5 s10 wr => ∃ i : Nat, i ≤ 3 ∧ s10 = .int .i64 (i : Int) ∧ Hid (TxR w lb pb a i wr ∧ wr.heap[sb]? = some (.cells #[.int .i64 hi, .int .u64 lo] 35 (0, 0)))) (fun _ i _ => 3 - (RowKit.intOf i).toNat)
  case atStart => exact ⟨0, by omega, rfl, Lib.hid ⟨HT0.out, HSB0.out⟩⟩
  case round =>
    obtain ⟨i, hi3, rfl, HI⟩ := hrel
    by_cases hlt : i < 3
    · obtain ⟨r0, hr0⟩ : ∃ x : Int, x = ((pI a i : Nat) / 18446744073709551616 : Int) := ⟨_, rfl⟩
      obtain ⟨r1, hr1⟩ : ∃ x : Int, x = ((pI a i : Nat) % 18446744073709551616 : Int) := ⟨_, rfl⟩
      have HP1 := HPT.out i
      rw [← hr0, ← hr1] at HP1
      have HP := Lib.hid HP1
      have HPK := HI.out.1.p
      rw [← hr0, ← hr1] at HPK
      have HPK := Lib.hid HPK
      clear HP1 hr0 hr1
      have c0 : wr.cell? ⟨pb, 0, none⟩ = some (.int .u64 r0) := by have := cell_of_block HPK.out 0; simpa using this
      have c1 : wr.cell? ⟨pb, 1, none⟩ = some (.int .u64 r1) := by have := cell_of_block HPK.out 1; simpa using this
      have hlt' : (i : Int) < 3 := by omega
      go_wp2_with fail
      refine (HP.out _).mono ?_
      rintro e w3 ⟨rfl, hx3⟩
      have HL3 := Lib.hid ((hx3.block (block_lt HI.out.1.l)).trans HI.out.1.l)
      have HP3 := Lib.hid ((hx3.block (block_lt HPK.out)).trans HPK.out)
      have HS3 := Lib.hid ((hx3.block (block_lt HI.out.2)).trans HI.out.2)
      have HX3 := Lib.hid (HI.out.1.ext.trans hx3)
      clear hx3 c0 c1
      go_wp2_with (first | (refine wpList_store_box rfl _ _ _ rfl _ _ #[.int .u64 ((pI a (i + 1) : Nat) / 18446744073709551616 : Int), .int .u64 ((pI a (i + 1) : Nat) % 18446744073709551616 : Int)] _ rfl rfl HP3.out rfl two_info (by simp [Value.oneCell']) ?_; rintro w6 hb6 hc6; have HB6 := Lib.hid hb6; have HC6 := Lib.hid hc6; clear hb6 hc6; have HL6 := Lib.hid ((HC6.out.block _ (block_lt HL3.out) (by have := HPB.out; omega)).trans HL3.out); have z0 : w6.frozen? ⟨lb, i, none⟩ = false := free_of_block HL6.out i; obtain ⟨v0, z1⟩ : ∃ v, w6.cell? ⟨lb, i, none⟩ = some v := ⟨_, (cell_of_block HL6.out i).trans (Array.getElem?_eq_getElem (by rw [lI_size]; exact hlt))⟩))
      have HC7 := Lib.hid ((HC6.out.mono (T := fun b => b = pb ∨ b = lb) (fun _ _ e => .inl e)).trans (setCell_chg w6 lb i (.int .u64 (dI a i : Int))) (fun _ _ e => .inr e))
      have HS7 := Lib.hid ((HC7.out.block _ (block_lt HS3.out) (by have := HPB.out; have := HSL.out; omega)).trans HS3.out)
      have HP7 := Lib.hid (((setCell_chg w6 lb i (.int .u64 (dI a i : Int))).block _ (block_lt HB6.out) (by have := HPB.out; omega)).trans HB6.out)
      exact ⟨⟨i + 1, by omega, by go_num, Lib.hid ⟨⟨setCell_block HL6.out _, HP7.out, ((Chg.of_ext (S := fun b => b = pb ∨ b = lb) HX3.out).trans HC7.out (fun _ _ e => e)).ext (fun j hj e => by have := HPB.out; have := HNE.out; omega)⟩, HS7.out⟩⟩, by simp [RowKit.intOf]; omega⟩
    · obtain rfl : i = 3 := by omega
      go_upto_region 8 with fail
      obtain ⟨d0, hd0⟩ : ∃ x, x = dI a 0 := ⟨_, rfl⟩
      obtain ⟨d1, hd1⟩ : ∃ x, x = dI a 1 := ⟨_, rfl⟩
      obtain ⟨d2, hd2⟩ : ∃ x, x = dI a 2 := ⟨_, rfl⟩
      have HLL : Hid (wr.heap[lb]? = some (.cells #[.int .u64 (d0 : Int), .int .u64 (d1 : Int), .int .u64 (d2 : Int)] 39 (0, 0))) := Lib.hid (by rw [hd0, hd1, hd2]; exact HI.out.1.l)
      have f0 := cell_regrown (show wr.cell? ⟨lb, 0, none⟩ = some (.int .u64 (d0 : Int)) by have := cell_of_block HLL.out 0; simpa using this)
      have f1 := cell_regrown (show wr.cell? ⟨lb, 1, none⟩ = some (.int .u64 (d1 : Int)) by have := cell_of_block HLL.out 1; simpa using this)
      have f2 := cell_regrown (show wr.cell? ⟨lb, 2, none⟩ = some (.int .u64 (d2 : Int)) by have := cell_of_block HLL.out 2; simpa using this)
      have HD : Hid (d0 = a % 10000000000000000000 ∧ d1 = a / 10000000000000000000 % 10000000000000000000 ∧ d2 = a / 10000000000000000000 / 10000000000000000000) := Lib.hid (by
        refine ⟨hd0, hd1, ?_⟩
        rw [hd2]
        show a / 10000000000000000000 / 10000000000000000000 % 10000000000000000000 = _
        have := HA.out
        omega)
      clear hd0 hd1 hd2
      obtain ⟨t0, ht0⟩ : ∃ t : ByteArray, t = ⟨(dec 19 d0).toArray⟩ := ⟨_, rfl⟩
      obtain ⟨t1, ht1⟩ : ∃ t : ByteArray, t = ⟨(dec 19 d1).toArray⟩ := ⟨_, rfl⟩
      obtain ⟨t2, ht2⟩ : ∃ t : ByteArray, t = ⟨(dec 1 d2).toArray⟩ := ⟨_, rfl⟩
      have HK0 : Hid (∀ W, Calls Tryd.prog 15 #[.int .u64 (d0 : Int), .int .i64 19] W fun e w' => e = .returned (.string t0) ∧ Ext W w') := Lib.hid (fun W => by rw [ht0]; exact chunk_any d0 19 W (by rw [HD.out.1]; exact Nat.mod_lt _ (by decide)) (by omega) (by omega))
      have HK1 : Hid (∀ W, Calls Tryd.prog 15 #[.int .u64 (d1 : Int), .int .i64 19] W fun e w' => e = .returned (.string t1) ∧ Ext W w') := Lib.hid (fun W => by rw [ht1]; exact chunk_any d1 19 W (by rw [HD.out.2.1]; exact Nat.mod_lt _ (by decide)) (by omega) (by omega))
      have HK2 : Hid (∀ W, Calls Tryd.prog 15 #[.int .u64 (d2 : Int), .int .i64 1] W fun e w' => e = .returned (.string t2) ∧ Ext W w') := Lib.hid (fun W => by rw [ht2]; exact chunk_any d2 1 W (by rw [HD.out.2.2]; have := HA.out; omega) (by omega) (by omega))
      have HTT := Lib.hid (And.intro ht0 (And.intro ht1 ht2))
      clear ht0 ht1 ht2
      have hz0 : t0.size = 19 := by rw [HTT.out.1]; simp [ByteArray.size, dec_len]
      have hz1 : t1.size = 19 := by rw [HTT.out.2.1]; simp [ByteArray.size, dec_len]
      have hz2 : t2.size = 1 := by rw [HTT.out.2.2]; simp [ByteArray.size, dec_len]
      obtain ⟨tx, htx⟩ : ∃ t : ByteArray, t = ⟨(if a = 0 then [] else decDigits a).toArray⟩ := ⟨_, rfl⟩
      have HTR : Hid (∀ W, Calls Tryd.prog 14 #[.string (t2 ++ t1 ++ t0), .string ⟨#[48]⟩] W fun e w' => e = .returned (.string tx) ∧ W = w') := Lib.hid (fun W => by
        have h := Tryd.strings_TrimLeft_one (t2 ++ t1 ++ t0) 48 (by decide) W
        have e : (t2 ++ t1 ++ t0).data.toList = dec 39 a := by
          rw [HTT.out.1, HTT.out.2.1, HTT.out.2.2, HD.out.1, HD.out.2.1, HD.out.2.2, ← three_parts]
          simp
        rw [e, three_trim a HA.out, ← htx] at h
        exact h.mono (fun _ _ q => ⟨q.1, q.2.symm⟩))
      have HTX := Lib.hid htx
      clear htx
      refine wp_region_quiet_below (by kernel_rfl) (by kernel_rfl) ?_
      iterate 2 (go_big_quiet_step (fail))
      go_big_quiet_step ((go_at_call 15; exact Calls.grown_of (HK2.out _)))
      iterate 2 (go_big_quiet_step (fail))
      go_big_quiet_step ((go_at_call 15; exact Calls.grown_of (HK1.out _)))
      iterate 3 (go_big_quiet_step (fail))
      go_big_quiet_step ((go_at_call 15; exact Calls.grown_of (HK0.out _)))
      go_big_quiet_step (fail)
      go_big_quiet_step ((go_at_call 14; exact Calls.grown_of_same (HTR.out _)))
      go_big_quiet_step (fail)
      refine wpQuiet_nil ?_
      intro _ hw'
      obtain ⟨pr, rfl⟩ := hw'
      generalize hW5 : grow _ _ = w5
      have HX5 : Hid (Ext wr w5) := Lib.hid (by subst hW5; exact Ext.regrown _ _ _)
      have HS5 := Lib.hid ((HX5.out.block (block_lt HI.out.2)).trans HI.out.2)
      have HXX := Lib.hid (HI.out.1.ext.trans HX5.out)
      clear hW5 f0 f1 f2
      have c0 : w5.cell? ⟨sb, 0, none⟩ = some (.int .i64 hi) := by have := cell_of_block HS5.out 0; simpa using this
      have c1 : w5.cell? ⟨sb, 1, none⟩ = some (.int .u64 lo) := by have := cell_of_block HS5.out 1; simpa using this
      by_cases ha : a = 0
      · have hx0 : tx = ⟨#[]⟩ := by rw [HTX.out, if_pos ha]
        have hs0 : itoa s = [48] := by
          have := HS.out
          have e : s = 0 := by omega
          rw [e]
          unfold itoa
          rw [if_neg (by decide)]
          show decDigits 0 = [48]
          rw [decDigits, dif_pos (by decide)]
          rfl
        have HS0 := Lib.hid hs0
        clear hs0
        subst hx0
        go_wp2_with fail
        go_ret
        exact ⟨by rw [HS0.out]; rfl, HXX.out⟩
      · have hx0 : tx = ⟨(decDigits a).toArray⟩ := by rw [HTX.out, if_neg ha]
        have hne : tx.toList.isEmpty = false := by
          rw [hx0, ByteArray.toList_eq]
          simpa using decDigits_ne a
        have HX0 := Lib.hid hx0
        clear hx0
        by_cases hs : s < 0
        · have hdn : decide (s < 0) = true := decide_eq_true hs
          rw [hdn] at HBL
          have hzx : tx.size ≤ 39 := by
            have e : tx.data.toList = trimLeftB (dec 39 a) 48 := by rw [three_trim a HA.out, HTX.out]
            have h1 : (trimLeftB (dec 39 a) 48).length ≤ (dec 39 a).length := (List.dropWhile_sublist _).length_le
            rw [← e, dec_len] at h1
            exact h1
          have HS0 : Hid (itoa s = 45 :: decDigits a) := Lib.hid (by unfold itoa; rw [if_pos hs, HS.out])
          clear hdn hs
          go_wp2_with (go_at_call 16; refine (HBL.out _).mono ?_; rintro e w6 ⟨rfl, hx6⟩; have HX6 := Lib.hid (HXX.out.trans hx6); clear hx6)
          go_ret
          exact ⟨by rw [HS0.out, HX0.out]; rfl, HX6.out⟩
        · have hdn : decide (s < 0) = false := decide_eq_false hs
          rw [hdn] at HBL
          have HS0 : Hid (itoa s = decDigits a) := Lib.hid (by unfold itoa; rw [if_neg hs]; congr 1; have := HS.out; omega)
          clear hdn hs
          go_wp2_with (go_at_call 16; refine (HBL.out _).mono ?_; rintro e w6 ⟨rfl, hx6⟩; have HX6 := Lib.hid (HXX.out.trans hx6); clear hx6)
          go_ret
          exact ⟨by rw [HS0.out, ← HX0.out]; rfl, HX6.out⟩
end Go.Proofs.YtipbniaehhoaaaaDoor
