/- ManifestBits: the walk. -/
import Derived.Test.YtdgmnhcgjbkafaaDoorMrh
import Derived.Test.YtdgmnhcgjbkafaaDoorMpb
import Derived.Test.YtdgmnhcgjbkafaaDoorMfw
import Derived.Test.YtdgmnhcgjbkafaaDoorByt
import Derived.Test.YtdgmnhcgjbkafaaDoorFlp
import Derived.Deep.DeepCutAuto
namespace Go.Proofs.YtdgmnhcgjbkafaaDoor
open Go.RowKit Go.Sort Go.Lib

/-- Where a number lies, as Go reckons it. -/
theorem bit_range (c : Int) (n : Nat) (hn : 0 < n) : 0 ≤ (Int.tmod c (n : Int) + n) % (n : Int) ∧ (Int.tmod c (n : Int) + n) % (n : Int) < n ∧ -(n : Int) < Int.tmod c (n : Int) ∧ Int.tmod c (n : Int) < n := by
  have h1 := Int.emod_nonneg (Int.tmod c (n : Int) + n) (show (n : Int) ≠ 0 by omega)
  have h2 := Int.emod_lt_of_pos (Int.tmod c (n : Int) + n) (show (0 : Int) < (n : Int) by omega)
  have key : ∀ d : Int, 0 ≤ d → 0 ≤ Int.tmod d (n : Int) ∧ Int.tmod d (n : Int) < n := by
    intro d hd
    rw [Int.tmod_eq_emod_of_nonneg hd]
    exact ⟨Int.emod_nonneg d (by omega), Int.emod_lt_of_pos d (by omega)⟩
  refine ⟨h1, h2, ?_⟩
  rcases Int.le_total 0 c with h | h
  · have := key c h; omega
  · have := key (-c) (by omega)
    rw [Int.neg_tmod] at this; omega
/-- Is one of the first bits set? -/
def anyB (b i : Nat) : Bool := (List.range i).any fun j => bitN b j == 1
theorem anyB_step (b i : Nat) : anyB b (i + 1) = (anyB b i || bitN b i == 1) := by
  unfold anyB
  rw [List.range_succ, List.any_append]
  simp
theorem anyB_turns (b p n : Nat) : anyB b (min 32 (n - p)) = true ↔ turnsAny b p n := by
  unfold anyB turnsAny
  rw [List.any_eq_true]
  constructor
  · rintro ⟨j, hj, h⟩
    refine ⟨j, by simpa using hj, ?_⟩
    rw [bitN_testBit] at h
    cases hb : b.testBit j <;> simp [hb] at h ⊢
  · rintro ⟨j, hj, h⟩
    exact ⟨j, by simpa using hj, by rw [bitN_testBit, h]; rfl⟩
theorem staZ_right : staR staZ = true ∧ staZ.km.ok := ⟨by decide, ⟨by decide, by decide, by decide, by decide⟩⟩

set_option maxHeartbeats 16000000 in
set_option maxRecDepth 100000 in
theorem manBits_any (w : World) (s : Sta) (fa ta : Option Addr) (fn fc tn tc : Nat) (hs : StIn w s fa fn fc ta tn tc) (at' : Int) (b : Nat) (hat : -9223372036854775808 ≤ at' ∧ at' ≤ 9223372036854775807) (hb : b < 4294967296) (hg : HasET w) :
    Calls Tryd.prog 3 #[.agg (staC s fa fn fc ta tn tc), .int .i64 at', .int .u32 (b : Int)] w fun e w' => e = .returned (.bool true) ∧ Ext w w' := by
  have HS := Lib.hid hs
  have HG := Lib.hid hg
  have HB := Lib.hid hb
  have HAT := Lib.hid hat
  have HFEW := Lib.hid (fun W hx => few_any W s fa ta fn fc tn tc (hs.ext hx))
  have HBY := Lib.hid (fun W hx => manBytes_any W s fa ta fn fc tn tc (hs.ext hx) (hg.ext hx))
  have HOK := Lib.hid hs.ok
  clear hs hg hb hat
  obtain ⟨x, r, q, ⟨mb, mt, mg⟩, fl, ti⟩ := s
  go_enter Tryd.func3, Tryd.ntmps3
  go_wp2_with fail
  generalize hW : World.alloc _ _ = W
  have HX0 : Hid (Ext w W) := Lib.hid (by subst hW; exact (Ext.refl w).alloc _)
  have HBX : Hid (W.heap[w.heap.size]? = some (.cells #[.int .i64 x, .int .i64 r, .int .i64 q, .bool mb, .int .i64 mt, .int .i64 mg, .slice fa fn fc, .slice ta tn tc] 27 (0, 0))) := Lib.hid (by subst hW; exact heap_alloc_new w _)
  clear hW
  refine (HFEW.out W HX0.out).mono ?_
  rintro e w1 ⟨B, rfl, hx, -⟩
  replace HBX := Lib.hid (hx.keep HBX.out)
  have HX := Lib.hid (HX0.out.trans hx)
  clear hx HX0 HFEW
  cases B
  · go_wp2_with fail
    go_ret
    exact ⟨rfl, HX.out⟩
  · have c0 := cell_of_block HBX.out 0
    have c1 := cell_of_block HBX.out 1
    have c2 := cell_of_block HBX.out 2
    have c3 := cell_of_block HBX.out 3
    have c4 := cell_of_block HBX.out 4
    have c5 := cell_of_block HBX.out 5
    have c6 := cell_of_block HBX.out 6
    have c7 := cell_of_block HBX.out 7
    go_wp2_with fail
    clear c0 c1 c2 c3 c4 c5 c6 c7
    refine (HBY.out w1 HX.out).mono ?_
    rintro e w2 hby
    obtain ⟨v7, z8, rfl, HV⟩ : ∃ (v7 : Value) (z8 : Int), e = .returned (.tuple #[v7, .int .i64 z8]) ∧ Hid (Ext w w2 ∧ ((∃ a c, v7 = .slice a (sealL 7 (staP ⟨x, r, q, ⟨mb, mt, mg⟩, fl, ti⟩)).length c ∧ z8 = 0 ∧ staR ⟨x, r, q, ⟨mb, mt, mg⟩, fl, ti⟩ = true ∧ MadeTo w 5 1 (.slice a (sealL 7 (staP ⟨x, r, q, ⟨mb, mt, mg⟩, fl, ti⟩)).length c) (sealL 7 (staP ⟨x, r, q, ⟨mb, mt, mg⟩, fl, ti⟩)).length (u8s (sealL 7 (staP ⟨x, r, q, ⟨mb, mt, mg⟩, fl, ti⟩))) w2) ∨ (v7 = .slice none 0 0 ∧ z8 = 2))) := by
      unfold BytesTo at hby
      split at hby
      · rename_i hr
        obtain ⟨a, c, rfl, hm⟩ := hby
        exact ⟨_, _, rfl, Lib.hid ⟨HX.out.trans hm.ext, .inl ⟨a, c, rfl, rfl, hr, hm.trans HX.out⟩⟩⟩
      · obtain ⟨rfl, hx⟩ := hby
        exact ⟨_, _, rfl, Lib.hid ⟨HX.out.trans hx, .inr ⟨rfl, rfl⟩⟩⟩
    clear hby HBY
    go_upto_if 21 with fail
    go_cut [7, 8] (fun s7 s8 wx => ∃ (s' : Sta) (a : Option Addr) (c : Nat), s7 = .slice a (sealL 7 (staP s')).length c ∧ s8 = .int .i64 0 ∧ Hid (staR s' = true ∧ s'.km.ok ∧ MadeTo w 5 1 (.slice a (sealL 7 (staP s')).length c) (sealL 7 (staP s')).length (u8s (sealL 7 (staP s'))) wx))
    case first =>
      obtain ⟨hx, ⟨a, c, rfl, rfl, hr, hm⟩ | ⟨rfl, rfl⟩⟩ := HV.out
      · have HM := Lib.hid hm
        have HRR := Lib.hid hr
        clear hx hr hm HV
        go_wp2_with fail
        go_meet
        case rel => exact ⟨_, a, c, rfl, rfl, Lib.hid ⟨HRR.out, HOK.out, HM.out⟩⟩
      · have HX2 := Lib.hid hx
        clear hx HV
        go_wp2_with fail
        have HBZ := Lib.hid (manBytes_any w2 staZ none none 0 0 0 0 ⟨.inl ⟨rfl, rfl, rfl⟩, .inl ⟨rfl, rfl, rfl⟩, staZ_right.2, by decide, by decide⟩ (HG.out.ext HX2.out))
        refine HBZ.out.mono ?_
        rintro e w3 hby
        unfold BytesTo at hby
        rw [if_pos staZ_right.1] at hby
        obtain ⟨a, c, rfl, hm⟩ := hby
        have HM := Lib.hid (hm.trans HX2.out)
        clear hm HBZ
        go_wp2_with fail
        go_meet
        case rel => exact ⟨_, a, c, rfl, rfl, Lib.hid ⟨staZ_right.1, staZ_right.2, HM.out⟩⟩
    case rest =>
      obtain ⟨s', a, c, rfl, rfl, HS'⟩ := hcut
      have HSL := Lib.hid (staP_len HS'.out.1 HS'.out.2.1)
      have HRD := Lib.hid (staRd_seal HS'.out.1 HS'.out.2.1 (by have := HSL.out; omega))
      have HTU := Lib.hid (fun b p hp hb => openR_turned (k := 7) (l := staP s') (b := b) (p := p) hp hb)
      have HLE := Lib.hid (sealL_len 7 (staP s'))
      have HM := Lib.hid HS'.out.2.2
      clear HS' HV HX HBX
      generalize sealL 7 (staP s') = L at *
      obtain ⟨N, hN⟩ : ∃ N, N = L.length := ⟨_, rfl⟩
      rw [← hN] at HM HLE HTU ⊢
      have hN9 : 9 ≤ N := by have := HLE.out; omega
      have hN6 : N ≤ 60009 := by have := HLE.out; have := HSL.out; omega
      have HNL := Lib.hid hN
      clear hN HLE HSL
      obtain ⟨g3, rfl, hg3, -, -⟩ := madeB_at HM.out (by omega)
      obtain ⟨r1, r2, r3, r4⟩ := bit_range at' (8 * N) (by omega)
      rw [Int.natCast_mul] at r1 r2 r3 r4
      obtain ⟨p, hp⟩ : ∃ p : Nat, (at'.tmod (8 * (N : Int)) + 8 * (N : Int)) % (8 * (N : Int)) = (p : Int) := ⟨_, (Int.toNat_of_nonneg r1).symm⟩
      have hpn : p < 8 * N := by have := hp; have := r2; push_cast at *; omega
      rw [show ((8 : Nat) : Int) = 8 from rfl] at r1 r2 r3 r4
      have HP := Lib.hid hp
      have hN0 : ((N : Int) == 0) = false := by simp; omega
      go_upto_region 10 with fail
      try rw [HP.out]
      clear r1 r2 r3 r4
      go_wp2_with fail
      go_loopw [10, 11] (fun s10 s11 wr => ∃ (i : Nat) (bs : List UInt8) (ch : Bool), s10 = .bool ch ∧ s11 = .int .i64 i ∧ i ≤ 32 ∧ p + i ≤ 8 * N ∧ bs.length = N ∧ Hid (ch = anyB b i ∧ bs = flipTo b p L i ∧ MadeTo w 5 1 (.slice (some ⟨g3, 0, none⟩) N c) N (u8s bs) wr)) (fun _ s11 _ => 32 - (RowKit.intOf s11).toNat)
      case atStart => exact ⟨0, L, false, rfl, by go_num, by omega, by omega, HNL.out.symm, Lib.hid ⟨rfl, rfl, HM.out⟩⟩
      case round =>
        obtain ⟨i, bs, ch, rfl, rfl, hi, hpi, hbl, HMM⟩ := hrel
        have HBL := Lib.hid hbl
        rcases Classical.em (i < 32 ∧ p + i < 8 * N) with ⟨hlt, hlt2⟩ | hstop
        · have hj : (p + i) / 8 < N := by omega
          have hjl : (p + i) / 8 < bs.length := by omega
          obtain ⟨_, e, _, h4, h5⟩ := madeB_at HMM.out.2.2 (by omega)
          cases e
          have hgd : bs.getD ((p + i) / 8) 0 = bs[(p + i) / 8] := by rw [List.getD_eq_getElem?_getD, List.getElem?_eq_getElem hjl]; rfl
          have HST : Hid (flipTo b p L (i + 1) = flipStep b p bs i) := Lib.hid (by rw [flipTo, HMM.out.2.1])
          have HAN : Hid (anyB b (i + 1) = (ch || bitN b i == 1)) := Lib.hid (by rw [anyB_step, HMM.out.1])
          have hbt : bitN b i = 0 ∨ bitN b i = 1 := by have := bitN_lt b i; omega
          rcases hbt with hbt | hbt
          · have HZ : Hid (flipStep b p bs i = bs) := Lib.hid (flipStep_zero hbt)
            have HAN2 : Hid (anyB b (i + 1) = ch) := Lib.hid (by rw [HAN.out, hbt]; simp)
            have hbit : bits .and .u32 ((b : Int) / 2 ^ i) 1 = 0 := by rw [u32_bit b i HB.out, hbt]; rfl
            clear hbl hbt hgd h4 h5 HAN
            go_wp2_with fail
            go_roundw
            case rel => exact ⟨i + 1, bs, ch, rfl, by go_num, by omega, by omega, HBL.out, Lib.hid ⟨HAN2.out.symm, by rw [HST.out, HZ.out], HMM.out.2.2⟩⟩
            case measure => simp [RowKit.intOf]; omega
          · have cb := h4 _ _ (List.getElem?_eq_getElem hjl)
            have fb := h5 ((p + i) / 8)
            obtain ⟨y, hy⟩ : ∃ y, y = bs[(p + i) / 8] := ⟨_, rfl⟩
            rw [← hy] at hgd cb
            have HZ : Hid (flipStep b p bs i = bs.set ((p + i) / 8) (flipB b p i y)) := Lib.hid (by unfold flipStep; rw [hgd])
            have HAN2 : Hid (anyB b (i + 1) = true) := Lib.hid (by rw [HAN.out, hbt]; simp)
            have hbit : bits .and .u32 ((b : Int) / 2 ^ i) 1 = 1 := by rw [u32_bit b i HB.out, hbt]; rfl
            have hxr : bits .xor .u8 (y.toNat : Int) (2 ^ ((p + i) % 8) % 256) = ((flipB b p i y).toNat : Int) := by
              rw [flipB_toNat, hbt, Nat.one_mul]
              have e : (2 ^ ((p + i) % 8) % 256 : Int) = ((2 ^ ((p + i) % 8) : Nat) : Int) := by
                have h1 : ∀ q : Nat, q < 256 → ((q : Int) % 256) = q := by omega
                have h2 : ((2 ^ ((p + i) % 8) : Nat) : Int) = 2 ^ ((p + i) % 8) := by push_cast; rfl
                rw [← h2]; exact h1 _ (pow8_lt _)
              rw [e]
              exact u8_xor _ _ (by have := y.toNat_lt; omega) (pow8_lt _)
            clear hbl hbt hgd h4 h5 hy HAN
            go_wp2_with fail
            go_roundw
            case rel => exact ⟨i + 1, bs.set ((p + i) / 8) (flipB b p i y), true, rfl, by go_num, by omega, by omega, by rw [List.length_set]; exact HBL.out, Lib.hid ⟨HAN2.out.symm, by rw [HST.out, HZ.out], HMM.out.2.2.setB (flipB b p i y)⟩⟩
            case measure => simp [RowKit.intOf]; omega
        · have him : i = min 32 (8 * N - p) := by omega
          have HFIN : Hid (bs = flipL b p L) := Lib.hid (by rw [HMM.out.2.1, him]; unfold flipL; rw [← HNL.out])
          have HCH : Hid (ch = true ↔ turnsAny b p (8 * N)) := Lib.hid (by rw [HMM.out.1, him]; exact anyB_turns b p (8 * N))
          have HX3 := Lib.hid HMM.out.2.2.ext
          have hrow := HMM.out.2.2.row
          have HRE := Lib.hid (manRead_any wr (some ⟨g3, 0, none⟩) N c bs ⟨hrow.src (u8s_one _), bufRow_le hrow, by omega⟩ (by omega) (HG.out.ext HX3.out))
          clear hrow HMM
          have hst : ¬ i < 32 ∨ (i < 32 ∧ ¬ p + i < 8 * N) := by omega
          cases ch
          · have HRD2 : Hid (staRd bs = some s') := Lib.hid (by
              have h1 : ¬ turnsAny b p (8 * N) := fun h => by have := HCH.out.mpr h; cases this
              rw [HFIN.out, flip_same (by rw [← HNL.out]; exact h1)]
              exact HRD.out)
            rw [HRD2.out] at HRE
            clear hstop hbl HCH HFIN him
            rcases hst with hst | ⟨hst, hst2⟩
            all_goals
              go_wp2_with fail
              refine HRE.out.mono ?_
              rintro e w9 ⟨_, _, _, _, _, _, rfl, hx, -⟩
              have HX4 := Lib.hid (HX3.out.trans hx)
              clear hx
              simp only [Option.isSome_some, if_true]
              go_wp2_with fail
              go_ret
              exact ⟨rfl, HX4.out⟩
          · have HRD2 : Hid (staRd bs = none) := Lib.hid (by
              have h1 := HTU.out b p (by omega) (HCH.out.mp rfl)
              rw [HFIN.out]
              unfold staRd
              rw [if_pos (.inl h1)])
            rw [HRD2.out] at HRE
            clear hstop hbl HCH HFIN him
            rcases hst with hst | ⟨hst, hst2⟩
            all_goals
              go_wp2_with fail
              refine HRE.out.mono ?_
              rintro e w9 ⟨_, _, _, _, _, _, rfl, hx, -⟩
              have HX4 := Lib.hid (HX3.out.trans hx)
              clear hx
              simp only [Option.isSome_none, Bool.false_eq_true, if_false]
              go_wp2_with fail
              go_ret
              exact ⟨rfl, HX4.out⟩
theorem manBits_int (w : World) (s : Sta) (fa ta : Option Addr) (fn fc tn tc : Nat) (hs : StIn w s fa fn fc ta tn tc) (at' z : Int) (hat : -9223372036854775808 ≤ at' ∧ at' ≤ 9223372036854775807) (hz : 0 ≤ z ∧ z ≤ 4294967295) (hg : HasET w) :
    Calls Tryd.prog 3 #[.agg (staC s fa fn fc ta tn tc), .int .i64 at', .int .u32 z] w fun e w' => e = .returned (.bool true) ∧ Ext w w' := by
  have := manBits_any w s fa ta fn fc tn tc hs at' z.toNat hat (by omega) hg
  rwa [Int.toNat_of_nonneg hz.1] at this
end Go.Proofs.YtdgmnhcgjbkafaaDoor
