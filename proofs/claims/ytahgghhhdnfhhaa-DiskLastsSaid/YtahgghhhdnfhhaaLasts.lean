/- DiskLasts: the walk. -/
import Derived.Test.YtahgghhhdnfhhaaLasts0
import Derived.Deep.DeepCutAuto
namespace Go.Proofs.Ytahgghhhdnfhhaa
open Go.RowKit Go.Sort Go.Lib

/-- A slice of bytes that came in, cut at 1000. -/
structure CutArg (w : World) (a : Option Addr) (n c : Nat) (l : List UInt8) : Prop where
  src : Src w 1 (.slice a n c) n (u8s l)
  few : l.length ≤ 1000
  nc : n ≤ c
  nil : a = none → c = 0
  old : ∀ g, (Value.slice a n c).ownBlock = some g → g < w.heap.size
theorem CutArg.len {w : World} {l : List UInt8} {a : Option Addr} {n c : Nat} (h : CutArg w a n c l) : l.length = n := u8_src_len h.src
theorem src_two {w : World} {b : Nat} {x y : Int} {t : TypeId} {fr : Nat × Nat} (h : w.heap[b]? = some (.cells #[.int .i64 x, .int .i64 y] t fr)) : Src w 1 (.slice (some ⟨b, 0, none⟩) 2 2) 2 (zints [x, y]) := by
  refine .inr ⟨_, _, rfl, rfl, fun j u hj => ?_, fun u hu => by simp [zints] at hu; rcases hu with rfl | rfl <;> rfl⟩
  rw [Go.WideShapes.add_plain, Nat.zero_add, cell_of_block h]
  simpa [zints] using hj

/-- The disk while the law goes on. -/
def DiskNow (w : World) (d : Nat) (S : DiskS) (wr : World) : Prop := ∃ B, DiskAt wr d S B ∧ (∀ b ∈ B, w.heap.size ≤ b) ∧ Ext w wr
theorem DiskNow.to {w wr w' : World} {d : Nat} {S' : DiskS} {B : List Nat} (hb : ∀ b ∈ B, w.heap.size ≤ b) (hx : Ext w wr) (ht : DiskTo wr d B S' w') : DiskNow w d S' w' := by
  obtain ⟨B', h1, h2, h3⟩ := ht
  refine ⟨B', h1, fun b hb' => ?_, ((Chg.of_ext (S := (· ∈ B)) hx).trans h2 (fun _ _ e => e)).ext (fun i hi e => by have := hb i e; omega)⟩
  rcases h3 b hb' with h | h
  · exact hb b h
  · have := hx.size; omega

set_option maxHeartbeats 8000000 in
set_option maxRecDepth 100000 in
theorem lasts_any (w : World) (a b : Option Addr) (n c m c2 : Nat) (ls lm : List UInt8) (keep : Int) (hs : Src w 1 (.slice a n c) n (u8s ls)) (hm : Src w 1 (.slice b m c2) m (u8s lm)) (hnc : n ≤ c) (hmc : m ≤ c2) (ha : a = none → c = 0) (hb : b = none → c2 = 0) (hn : n ≤ maxLen) (hm2 : m ≤ maxLen) (hoa : ∀ g, (Value.slice a n c).ownBlock = some g → g < w.heap.size) (hob : ∀ g, (Value.slice b m c2).ownBlock = some g → g < w.heap.size) :
    Calls Try.prog 5 #[.slice a n c, .slice b m c2, .int .i64 keep] w fun e w' => e = .returned (.bool true) ∧ Ext w w' := by
  have HS := Lib.hid hs
  have HM := Lib.hid hm
  have HA := Lib.hid ha
  have HB := Lib.hid hb
  have HOA := Lib.hid hoa
  have HOB := Lib.hid hob
  clear hs hm ha hb hoa hob
  unfold maxLen at hn hm2
  go_enter Try.func5, Try.ntmps5
  go_upto_if 16 with fail
  go_cut [0] (fun s0 wx => ∃ (a' : Option Addr) (n' : Nat) (l' : List UInt8), s0 = .slice a' n' c ∧ Hid (CutArg w a' n' c l') ∧ wx = w)
  case first =>
    rcases Nat.lt_or_ge 1000 n with h | h
    · obtain ⟨b1, o1, rfl⟩ := u8_src HS.out (by omega)
      have h1 : 1000 ≤ c := by omega
      go_wp2_with fail
      go_meet
      exact ⟨_, 1000, ls.take 1000, rfl, Lib.hid ⟨u8_pre HS.out (by omega) HA.out, by simp; omega, h1, HA.out, HOA.out⟩, rfl⟩
    · have h1 : ¬ 1000 < n := by omega
      go_wp2_with fail
      go_meet
      exact ⟨a, n, ls, rfl, Lib.hid ⟨HS.out, by rw [u8_src_len HS.out]; exact h, hnc, HA.out, HOA.out⟩, rfl⟩
  case rest =>
    obtain ⟨a1, n1, l1, rfl, C1, rfl⟩ := hcut
    clear HS HA HOA hnc hn
    go_upto_if 21 with fail
    go_cut [1] (fun s1 wx => ∃ (a' : Option Addr) (n' : Nat) (l' : List UInt8), s1 = .slice a' n' c2 ∧ Hid (CutArg wc a' n' c2 l') ∧ wx = wc)
    case first =>
      rcases Nat.lt_or_ge 1000 m with h | h
      · obtain ⟨b1, o1, rfl⟩ := u8_src HM.out (by omega)
        have h1 : 1000 ≤ c2 := by omega
        go_wp2_with fail
        go_meet
        exact ⟨_, 1000, lm.take 1000, rfl, Lib.hid ⟨u8_pre HM.out (by omega) HB.out, by simp; omega, h1, HB.out, HOB.out⟩, rfl⟩
      · have h1 : ¬ 1000 < m := by omega
        go_wp2_with fail
        go_meet
        exact ⟨b, m, lm, rfl, Lib.hid ⟨HM.out, by rw [u8_src_len HM.out]; exact h, hmc, HB.out, HOB.out⟩, rfl⟩
    case rest =>
      obtain ⟨a2, n2, l2, rfl, C2, rfl⟩ := hcut
      clear HM HB HOB hmc hm2
      have hl1 : n1 ≤ 1000 := by have := C1.out.few; have := C1.out.len; omega
      have hl2 : n2 ≤ 1000 := by have := C2.out.few; have := C2.out.len; omega
      go_wp2_with fail
      refine (disk_new (by omega) (by omega) _).mono ?_
      rintro e w1 ⟨rfl, hd1, hx1⟩
      obtain ⟨d, hdd⟩ : ∃ d, d = wc.heap.size + 1 := ⟨_, rfl⟩
      have H1 : Hid (DiskNow wc d (newDisk 5000) w1) := Lib.hid ⟨_, by rw [hdd]; exact hd1, fun b hb => by simp at hb; omega, hx1⟩
      rw [← hdd]
      clear hd1 hx1 hdd
      have C1' := fun (w' : World) (hx : Ext wc w') => C1.out.src.ext hx
      have C2' := fun (w' : World) (hx : Ext wc w') => C2.out.src.ext hx
      have HC1 := Lib.hid C1'
      have HC2 := Lib.hid C2'
      clear C1' C2'
      have HN1 : Hid (∀ B : List Nat, (∀ b ∈ B, wc.heap.size ≤ b) → ∀ g, (Value.slice a1 n1 c).ownBlock = some g → g ∉ B) := Lib.hid (fun B hB g hg hm => by
        have h1 := hB g hm
        have h2 := C1.out.old g hg
        omega)
      have HN2 : Hid (∀ B : List Nat, (∀ b ∈ B, wc.heap.size ≤ b) → ∀ g, (Value.slice a2 n2 c2).ownBlock = some g → g ∉ B) := Lib.hid (fun B hB g hg hm => by
        have h1 := hB g hm
        have h2 := C2.out.old g hg
        omega)
      have HF1 := Lib.hid C1.out.few
      have HF2 := Lib.hid C2.out.few
      obtain ⟨B1, hb1, hn1, hx1⟩ := H1.out
      have K1 := Lib.hid hb1
      have K2 := Lib.hid hn1
      have K3 := Lib.hid hx1
      clear hb1 hn1 hx1
      go_wp2_with fail
      refine (disk_append (newDisk_ok (by omega) (by omega)) (by simp [newDisk]) K1.out nA (by decide +kernel) _ _ _ l1 (HC1.out _ K3.out) (HN1.out _ K2.out) (by unfold maxLen; omega)).mono ?_
      rintro e w2 ⟨rfl, hto⟩
      rw [step1 HF1.out] at hto ⊢
      have H2 := Lib.hid (DiskNow.to K2.out K3.out hto)
      clear hto K1 K2 K3 H1
      obtain ⟨B2, hb1, hn1, hx1⟩ := H2.out
      have K1 := Lib.hid hb1
      have K2 := Lib.hid hn1
      have K3 := Lib.hid hx1
      clear hb1 hn1 hx1
      go_wp2_with fail
      refine (disk_sync (ok1 HF1.out) (by simp [lasts1]) K1.out nA (by decide +kernel)).mono ?_
      rintro e w3 ⟨rfl, hto⟩
      rw [step2] at hto ⊢
      have H3 := Lib.hid (DiskNow.to K2.out K3.out hto)
      clear hto K1 K2 K3 H2
      obtain ⟨B3, hb1, hn1, hx1⟩ := H3.out
      have K1 := Lib.hid hb1
      have K2 := Lib.hid hn1
      have K3 := Lib.hid hx1
      clear hb1 hn1 hx1
      go_wp2_with fail
      refine (disk_append (ok2 HF1.out) (by simp [lasts2]) K1.out nA (by decide +kernel) _ _ _ l2 (HC2.out _ K3.out) (HN2.out _ K2.out) (by unfold maxLen; omega)).mono ?_
      rintro e w4 ⟨rfl, hto⟩
      rw [step3 HF1.out HF2.out] at hto ⊢
      have H4 := Lib.hid (DiskNow.to K2.out K3.out hto)
      clear hto K1 K2 K3 H3
      obtain ⟨B4, hb1, hn1, hx1⟩ := H4.out
      have K1 := Lib.hid hb1
      have K2 := Lib.hid hn1
      have K3 := Lib.hid hx1
      clear hb1 hn1 hx1
      go_wp2_with fail
      refine (disk_append (ok3 HF1.out HF2.out) (by simp [lasts3]) K1.out nB (by decide +kernel) _ _ _ l2 (HC2.out _ K3.out) (HN2.out _ K2.out) (by unfold maxLen; omega)).mono ?_
      rintro e w5 ⟨rfl, hto⟩
      rw [step4 HF1.out HF2.out] at hto ⊢
      have H5 := Lib.hid (DiskNow.to K2.out K3.out hto)
      clear hto K1 K2 K3 H4
      obtain ⟨B5, hb1, hn1, hx1⟩ := H5.out
      have K1 := Lib.hid hb1
      have K2 := Lib.hid hn1
      have K3 := Lib.hid hx1
      clear hb1 hn1 hx1
      go_wp2_with fail
      refine (disk_crash (ok4 HF1.out HF2.out) (K1.out.ext ((Ext.refl _).alloc _)) _ _ _ [keep, keep] (src_two (heap_alloc_new _ _)) (by omega)).mono ?_
      rintro e w6 ⟨dn, B6, rfl, hat, hx6, hb6⟩
      have KD := Lib.hid hat
      have KX : Hid (Ext wc w6) := Lib.hid (K3.out.trans (((Ext.refl _).alloc _).trans hx6))
      clear hat hx6 hb6 K1 K2 K3 H5
      go_upto_if 73 with fail
      go_cut [10] (fun s wx => ∃ k1 : Int, s = .int .i64 k1 ∧ 0 ≤ k1 ∧ Hid (k1 = max 0 keep) ∧ wx = w6)
      case first =>
        rcases Int.lt_or_le keep 0 with h | h
        · go_wp2_with fail
          go_meet
          exact ⟨0, rfl, by omega, Lib.hid (by omega), rfl⟩
        · have h' : ¬ keep < 0 := by omega
          go_wp2_with fail
          go_meet
          exact ⟨keep, rfl, h, Lib.hid (by omega), rfl⟩
      case rest =>
        obtain ⟨k1, rfl, hk0, HK1, rfl⟩ := hcut
        go_upto_if 77 with fail
        go_cut [10] (fun s wx => ∃ N : Nat, s = .int .i64 (N : Int) ∧ N ≤ n2 ∧ Hid (N = clampN keep l2.length) ∧ wx = wc)
        case first =>
          have HL2 := C2.out.len
          rcases Int.lt_or_le n2 k1 with h | h
          · have HC : Hid (n2 = clampN keep l2.length) := Lib.hid (by have := HK1.out; unfold clampN; omega)
            clear HL2
            go_wp2_with fail
            go_meet
            exact ⟨n2, rfl, Nat.le_refl _, HC, rfl⟩
          · obtain ⟨N, rfl⟩ := Int.eq_ofNat_of_zero_le hk0
            have HC : Hid (N = clampN keep l2.length) := Lib.hid (by have := HK1.out; unfold clampN; omega)
            have h' : ¬ (n2 : Int) < (N : Int) := by omega
            have h2 : N ≤ n2 := by omega
            have h3 : ¬ n2 < N := by omega
            clear HL2 h
            go_wp2_with fail
            go_meet
            exact ⟨N, rfl, h2, HC, rfl⟩
        case rest =>
          obtain ⟨N, rfl, hNl, HN, rfl⟩ := hcut
          clear HK1 hk0
          have HFI := Lib.hid (crash4 l1 l2 keep)
          have HFA : Hid (aget ((lasts4 l1 l2).crash [keep, keep]).files nA = some ⟨l1 ++ l2.take N, l1.length + N, true⟩) := Lib.hid (by rw [HFI.out, ← HN.out]; simp [aget])
          have HFB : Hid (aget ((lasts4 l1 l2).crash [keep, keep]).files nB = if 0 < N then some ⟨l2.take N, N, true⟩ else none) := Lib.hid (by
            rw [HFI.out, ← HN.out]
            simp only [aget, if_neg nAB]
            split <;> simp [aget])
          have HOK : Hid ((lasts4 l1 l2).crash [keep, keep]).Ok := Lib.hid (okC HF1.out HF2.out keep)
          generalize (lasts4 l1 l2).crash [keep, keep] = SC at *
          go_wp2_with fail
          refine (disk_read_some HOK.out KD.out nA _ HFA.out).mono ?_
          rintro e w7 ⟨v7, rfl, hnb⟩
          simp only at hnb
          obtain ⟨L7, hL7⟩ : ∃ L, L = l1 ++ l2.take N := ⟨_, rfl⟩
          rw [← hL7] at hnb
          have HL7 := Lib.hid hL7
          clear hL7
          obtain ⟨n7, hn7⟩ : ∃ n, n = L7.length := ⟨_, rfl⟩
          unfold NewBytes at hnb
          rw [← hn7] at hnb
          clear hn7
          obtain ⟨a7, c7, rfl⟩ := hnb.1.shape
          have K7 := Lib.hid (KD.out.ext hnb.2.2)
          have X7 := Lib.hid (KX.out.trans hnb.2.2)
          have S7 := Lib.hid (hnb.1.src (u8s_one _))
          clear hnb
          obtain ⟨a9, hs1, hs2, hs3⟩ := slice_pre_run C2.out.src C2.out.nil hNl C2.out.nc (by omega)
          have HS3 := Lib.hid hs3
          clear hs3
          have hNc : N ≤ c2 := by have := C2.out.nc; omega
          go_wp2_with fail
          obtain ⟨T7, hT7⟩ : ∃ T : ByteArray, T = ⟨L7.toArray⟩ := ⟨_, rfl⟩
          obtain ⟨T1, hT1⟩ : ∃ T : ByteArray, T = ⟨l1.toArray⟩ := ⟨_, rfl⟩
          obtain ⟨T3, hT3⟩ : ∃ T : ByteArray, T = ⟨(l2.take N).toArray⟩ := ⟨_, rfl⟩
          have HT3 := Lib.hid hT3
          have z1 : T1.size ≤ 1000 := by rw [hT1]; exact HF1.out
          have z3 : T3.size ≤ 1000 := by rw [hT3]; show (l2.take N).length ≤ 1000; have := HF2.out; simp; omega
          have zz : ¬ 9223372036854775807 < T1.size + T3.size := by omega
          have zq : (T7.toList == (T1 ++ T3).toList) = true := by rw [hT7, hT1, hT3, HL7.out]; exact join_eq _ _
          rcases Nat.eq_zero_or_pos N with hN0 | hN0
          · have hb0 := HFB.out
            rw [if_neg (by omega)] at hb0
            have HB0 := Lib.hid hb0
            have HN0 := Lib.hid hN0
            clear hb0 hN0
            have hv1 := fun k => conv_u8 (S7.out.ext (Ext.drewN w7 k))
            have hv2 := fun k => conv_u8 (C1.out.src.ext (X7.out.trans (Ext.drewN w7 k)))
            have hv3 := fun k => conv_u8 (HS3.out.ext (X7.out.trans (Ext.drewN w7 k)))
            rw [← hT7] at hv1
            rw [← hT1] at hv2
            rw [← hT3] at hv3
            clear hT7 hT1 hT3
            refine (disk_read_none K7.out nB HB0.out).mono ?_
            rintro e w8 ⟨rfl, rfl⟩
            go_wp2_with fail
            go_big_quiet (fail)
            have hnz : ((N : Int) == 0) = true := beq_iff_eq.2 (by have := HN0.out; omega)
            go_wp2_with fail
            go_ret
            exact ⟨rfl, X7.out.trans (Ext.drewN _ _)⟩
          · have hb0 := HFB.out
            rw [if_pos hN0] at hb0
            have HB0 := Lib.hid hb0
            have hnz : ((N : Int) == 0) = false := beq_eq_false_iff_ne.2 (by omega)
            clear hb0 hN0
            refine (disk_read_some HOK.out K7.out nB _ HB0.out).mono ?_
            rintro e w8 ⟨v8, rfl, hnb⟩
            simp only at hnb
            obtain ⟨n8, hn8⟩ : ∃ n, n = (l2.take N).length := ⟨_, rfl⟩
            unfold NewBytes at hnb
            rw [← hn8] at hnb
            clear hn8
            obtain ⟨a8, c8, rfl⟩ := hnb.1.shape
            have X8 := Lib.hid (X7.out.trans hnb.2.2)
            have S8 := Lib.hid (hnb.1.src (u8s_one _))
            have S7' := Lib.hid (S7.out.ext hnb.2.2)
            clear hnb S7 X7 K7
            have hv1 := fun k => conv_u8 (S7'.out.ext (Ext.drewN w8 k))
            have hv2 := fun k => conv_u8 (C1.out.src.ext (X8.out.trans (Ext.drewN w8 k)))
            have hv3 := fun k => conv_u8 (HS3.out.ext (X8.out.trans (Ext.drewN w8 k)))
            have hv4 := fun k => conv_u8 (S8.out.ext (Ext.drewN w8 k))
            rw [← hT7] at hv1
            rw [← hT1] at hv2
            rw [← hT3] at hv3 hv4
            clear hT7 hT1 hT3
            go_wp2_with fail
            go_big_quiet (fail)
            generalize hW9 : World.drewN w8 _ = w9
            have X9 : Hid (Ext w8 w9) := Lib.hid (by rw [← hW9]; exact Ext.drewN _ _)
            clear hW9 hv1 hv2 hv3 hv4
            have hv3 := fun k => conv_u8 (HS3.out.ext ((X8.out.trans X9.out).trans (Ext.drewN w9 k)))
            have hv4 := fun k => conv_u8 ((S8.out.ext X9.out).ext (Ext.drewN w9 k))
            rw [← HT3.out] at hv3 hv4
            have zt : (T3.toList == T3.toList) = true := by simp
            go_wp2_with fail
            go_big_quiet (fail)
            go_wp2_with fail
            go_ret
            exact ⟨rfl, (X8.out.trans X9.out).trans (Ext.drewN _ _)⟩
end Go.Proofs.Ytahgghhhdnfhhaa
