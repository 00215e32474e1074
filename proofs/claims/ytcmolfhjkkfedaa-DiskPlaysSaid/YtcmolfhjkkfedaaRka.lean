/- The document's disk: Flip. -/
import Derived.Test.YtcmolfhjkkfedaaRk9
import Derived.Test.YtcmolfhjkkfedaaFlp
namespace Go.Proofs.Ytcmolfhjkkfedaa
open Go.RowKit Go.Sort Go.Lib

def DiskS.flip (S : DiskS) (name : ByteArray) (at' : Int) (b : Nat) : Int × DiskS := match aget S.files name with
  | none => (13, S)
  | some f => if at' < 0 ∨ 8 * (f.bytes.length : Int) ≤ at' then (2, S) else (0, { S with files := aput S.files name { f with bytes := flipL b at'.toNat f.bytes } })

set_option maxHeartbeats 16000000 in
set_option maxRecDepth 100000 in
theorem rk_flip {w : World} {rd : Nat} {S : DiskS} {B : List Nat} (ok : S.Ok) (h : RkAt w rd S B) (name : ByteArray) (at' : Int) (b : Nat) (hb : b < 4294967296) :
    Calls Try.prog 16 #[.pointer (some ⟨rd, 0, none⟩), .string name, .int .i64 at', .int .u32 (b : Int)] w (RkCall w rd B (S.flip name at' b)) := by
  obtain ⟨F, room, used, left, ops⟩ := S
  obtain ⟨L, la, lc, h1, h2, h3, rfl⟩ := h
  simp only at h1 h2 h3
  subst h3
  have hlenF : L.length = F.length := by have := h2.len; rwa [rdata_len] at this
  have hlen : L.length ≤ 512 := by have : F.length ≤ 512 := ok.few; omega
  have HSM : Hid (∀ x ∈ L, x.bs.length ≤ 1048576) := Lib.hid (fun x hx => by
    have hm : (x.nm, x.fs) ∈ F := h2.perm.subset (List.mem_map.2 ⟨x, hx, rfl⟩)
    exact ok.small _ hm)
  obtain ⟨r, hr⟩ : ∃ r, r = (⟨F, room, (sumR L : Nat), left, ops⟩ : DiskS).flip name at' b := ⟨_, rfl⟩
  rw [← hr]
  have HR := Lib.hid hr
  have H := Lib.hid h1
  have HF := Lib.hid h2
  clear hr h1 h2 ok hlenF
  have HAT : Hid (∀ w', Ext w w' → RkEnd w rd (rfoot rd (.slice la L.length lc) L) ⟨F, room, (sumR L : Nat), left, ops⟩ w') := Lib.hid (fun w' hx => RkEnd.same ⟨L, la, lc, H.out, HF.out, rfl, rfl⟩ hx)
  go_enter Try.func16, Try.ntmps16
  go_wp2_with fail
  refine (rk_find H.out (by omega) name).mono ?_
  rintro e w' ⟨kk, rfl, hf, rfl⟩
  rcases hf with ⟨rfl, hno⟩ | ⟨k, x, rfl, hq, hqn⟩
  · have HN : Hid (aget F name = none) := Lib.hid (HF.out.none (fun p hp => by
      obtain ⟨f, hf, rfl⟩ := List.mem_map.1 hp
      exact hno f hf))
    clear hno
    go_wp2_with fail
    go_ret
    rw [HR.out]
    unfold DiskS.flip
    simp only [HN.out]
    exact ⟨rfl, HAT.out _ (Ext.refl _)⟩
  · subst hqn
    have hkl : k < L.length := (List.getElem?_eq_some_iff.1 hq).1
    have hget : aget F x.nm = some x.fs := HF.out.at (rdata_at hq)
    have hmem : x ∈ L := List.mem_of_getElem? hq
    have hxn : x.bs.length = x.n := u8s_src_len (H.out.ok x hmem).src
    have hxs : x.n ≤ 1048576 := by have := HSM.out x hmem; omega
    obtain ⟨g, rfl⟩ : ∃ g, la = some ⟨g, 0, none⟩ := by
      obtain ⟨g, _, e, _⟩ := file_cells H.out.row hkl
      exact ⟨g, e⟩
    have HGET := Lib.hid hget
    have HXN := Lib.hid hxn
    have HMEM := Lib.hid hmem
    have HQX := Lib.hid hq
    have hr0 : ¬ (k : Int) < 0 := by omega
    have c3 := H.out.lcell.1
    have cx1 := (H.out.cells hq).2.1
    have d3 : (w.alloc (.cells #[] 5 (0, 0))).cell? ⟨rd, 3, none⟩ = some (.slice (some ⟨g, 0, none⟩) L.length lc) := (H.out.ext ((Ext.refl w).alloc _)).lcell.1
    have dx1 : (w.alloc (.cells #[] 5 (0, 0))).cell? ⟨g, k * 4 + 1, none⟩ = some (.slice x.a x.n x.c) := ((H.out.ext ((Ext.refl w).alloc _)).cells hq).2.1
    have HFL : Hid ((⟨F, room, (sumR L : Nat), left, ops⟩ : DiskS).flip x.nm at' b = if at' < 0 ∨ 8 * (x.n : Int) ≤ at' then (2, ⟨F, room, (sumR L : Nat), left, ops⟩) else (0, ⟨aput F x.nm ⟨flipL b at'.toNat x.bs, x.la, x.sy⟩, room, (sumR L : Nat), left, ops⟩)) := Lib.hid (by
      unfold DiskS.flip
      simp only [hget, RF.fs, hxn])
    clear hq hget hmem hxn
    by_cases hneg : at' < 0
    · have HE : Hid (r = (2, _)) := Lib.hid (HR.out.trans (HFL.out.trans (if_pos (.inl hneg))))
      go_wp2_with fail
      go_ret
      rw [HE.out]
      exact ⟨rfl, HAT.out _ (Ext.refl _)⟩
    obtain ⟨p, rfl⟩ : ∃ p : Nat, at' = (p : Int) := ⟨at'.toNat, by omega⟩
    by_cases hbig : (8 : Int) * (x.n : Int) ≤ (p : Int)
    · have HE : Hid (r = (2, _)) := Lib.hid (HR.out.trans (HFL.out.trans (if_pos (.inr hbig))))
      have hneg' : ¬ (p : Int) < 0 := by omega
      go_wp2_with fail
      go_ret
      rw [HE.out]
      exact ⟨rfl, HAT.out _ (Ext.refl _)⟩
    · have hneg' : ¬ (p : Int) < 0 := by omega
      have HE := Lib.hid (HR.out.trans (HFL.out.trans (if_neg (fun h => h.elim hneg hbig))))
      have HB := Lib.hid hb
      clear hneg hb
      go_wp2_with (at_builtin; go_must (refine wpList_append_to (n := 0) (m := x.n) byt_elem rfl _ _ rfl (v := .slice _ _ _) rfl rfl (row_made (heap_alloc_new _ _) 1) ((H.out.ok x HMEM.out).src.ext ((Ext.refl _).alloc _)) (by unfold maxLen; omega) (by omega) ?_; intro v2 w3 happ); simp only [Nat.zero_add, List.nil_append] at happ ⊢; obtain ⟨va2, vc2, rfl⟩ := happ.row.shape; have HAP := Lib.hid happ; clear happ)
      clear c3 cx1 d3 dx1
      have HM3 : Hid (MadeTo w 5 1 (.slice va2 x.n vc2) x.n (u8s x.bs) w3) := Lib.hid ⟨HAP.out.row, fun g hg => by
        rcases HAP.out.loc with e | e
        · rw [e] at hg; have e2 : w.heap.size = g := Option.some.inj hg; omega
        · rw [e] at hg; simp at hg; omega, ((Chg.of_ext (S := fun _ => False) ((Ext.refl w).alloc (.cells #[] 5 (0, 0)))).trans HAP.out.chg (fun i hi e => by
          have e2 : w.heap.size = i := Option.some.inj e
          omega)).ext (fun _ _ => id)⟩
      obtain ⟨g3, rfl, _⟩ := madeB_at HM3.out (by omega)
      go_loopw [12] (fun s12 wr => ∃ (i : Nat) (bs : List UInt8), s12 = .int .i64 i ∧ i ≤ 32 ∧ (p : Int) + i ≤ 8 * x.n ∧ bs.length = x.n ∧ Hid (bs = flipTo b p x.bs i ∧ MadeTo w 5 1 (.slice (some ⟨g3, 0, none⟩) x.n vc2) x.n (u8s bs) wr)) (fun s12 _ => 32 - (RowKit.intOf s12).toNat)
      case atStart => exact ⟨0, x.bs, by go_num, by omega, by omega, HXN.out, Lib.hid ⟨rfl, HM3.out⟩⟩
      case round =>
        obtain ⟨i, bs, rfl, hi, hpi, hbl, HM⟩ := hrel
        have HBL := Lib.hid hbl
        rcases Classical.em (i < 32 ∧ (i : Int) < 8 * (x.n : Int) - (p : Int)) with ⟨hlt, hlt2⟩ | hstop
        · have hj : (p + i) / 8 < x.n := by omega
          have hjl : (p + i) / 8 < bs.length := by omega
          obtain ⟨_, e, _, h4, h5⟩ := madeB_at HM.out.2 (by omega)
          cases e
          have hgd : bs.getD ((p + i) / 8) 0 = bs[(p + i) / 8] := by rw [List.getD_eq_getElem?_getD, List.getElem?_eq_getElem hjl]; rfl
          have HST : Hid (flipTo b p x.bs (i + 1) = flipStep b p bs i) := Lib.hid (by rw [flipTo, HM.out.1])
          have hbt : bitN b i = 0 ∨ bitN b i = 1 := by have := bitN_lt b i; omega
          rcases hbt with hbt | hbt
          · have HZ : Hid (flipStep b p bs i = bs) := Lib.hid (flipStep_zero hbt)
            have hbit : bits .and .u32 ((b : Int) / 2 ^ i) 1 = 0 := by rw [u32_bit b i HB.out, hbt]; rfl
            clear hbl hbt hgd h4 h5
            go_wp2_with fail
            go_roundw
            case rel => exact ⟨i + 1, bs, by go_num, by omega, by omega, HBL.out, Lib.hid ⟨by rw [HST.out, HZ.out], HM.out.2⟩⟩
            case measure => simp [RowKit.intOf]; omega
          · have cb := h4 _ _ (List.getElem?_eq_getElem hjl)
            have fb := h5 ((p + i) / 8)
            obtain ⟨y, hy⟩ : ∃ y, y = bs[(p + i) / 8] := ⟨_, rfl⟩
            rw [← hy] at hgd cb
            have HZ : Hid (flipStep b p bs i = bs.set ((p + i) / 8) (flipB b p i y)) := Lib.hid (by unfold flipStep; rw [hgd])
            have hbit : bits .and .u32 ((b : Int) / 2 ^ i) 1 = 1 := by rw [u32_bit b i HB.out, hbt]; rfl
            have hxr : bits .xor .u8 (y.toNat : Int) (2 ^ ((p + i) % 8) % 256) = ((flipB b p i y).toNat : Int) := by
              rw [flipB_toNat, hbt, Nat.one_mul]
              have e : (2 ^ ((p + i) % 8) % 256 : Int) = ((2 ^ ((p + i) % 8) : Nat) : Int) := by
                have h1 : ∀ q : Nat, q < 256 → ((q : Int) % 256) = q := by omega
                have h2 : ((2 ^ ((p + i) % 8) : Nat) : Int) = 2 ^ ((p + i) % 8) := by push_cast; rfl
                rw [← h2]; exact h1 _ (pow8_lt _)
              rw [e]
              exact u8_xor _ _ (by have := y.toNat_lt; omega) (pow8_lt _)
            clear hbl hbt hgd h4 h5 hy
            go_wp2_with fail
            go_roundw
            case rel => exact ⟨i + 1, bs.set ((p + i) / 8) (flipB b p i y), by go_num, by omega, by omega, by rw [List.length_set]; exact HBL.out, Lib.hid ⟨by rw [HST.out, HZ.out], HM.out.2.setB (flipB b p i y)⟩⟩
            case measure => simp [RowKit.intOf]; omega
        · have HFIN : Hid (bs = flipL b p x.bs) := Lib.hid (by
            rw [HM.out.1]; unfold flipL; congr 1; rw [HXN.out]; omega)
          have HD := Lib.hid (H.out.ext HM.out.2.ext)
          have c3 := HD.out.lcell.1
          obtain ⟨_, cx1, _, _⟩ := HD.out.cells HQX.out
          have g1 := HD.out.free (k * 4 + 1)
          have hst : ¬ i < 32 ∨ (i < 32 ∧ ¬ (i : Int) < 8 * (x.n : Int) - (p : Int)) := by omega
          clear hstop hbl
          rcases hst with hst | ⟨hst, hst2⟩
          all_goals
            go_wp2_with fail
            go_ret
            rw [HE.out]
            refine ⟨rfl, ?_⟩
            have HFX : FOk wr (RkT rd (.slice (some ⟨g, 0, none⟩) L.length lc)) ⟨x.nm, some ⟨g3, 0, none⟩, x.n, vc2, bs, x.la, x.sy⟩ := ⟨HM.out.2.row.src (u8s_one _), fun c hc => ⟨by
              have h1 := HM.out.2.own c hc
              rintro (e | e)
              · have := block_lt H.out.blk; omega
              · have := H.out.row.lt e; omega, HM.out.2.row.lt hc⟩, row_cap HM.out.2.row⟩
            have hup := HD.out.upd k _ (setCell_chg _ g (k * 4 + 1) (.slice (some ⟨g3, 0, none⟩) x.n vc2)) (row_setB HD.out.row HQX.out (some ⟨g3, 0, none⟩) x.n vc2 bs) HFX
            refine RkTo.end' (L' := L.set k ⟨x.nm, some ⟨g3, 0, none⟩, x.n, vc2, bs, x.la, x.sy⟩) H.out (hup.pre HM.out.2.ext) ?_ ?_ (fun f hf c hc => ?_)
            · rw [rdata_set]
              simp only [RF.fs]
              rw [HFIN.out]
              exact HF.out.set (s := x.nm) (f0 := x.fs) (rdata_at HQX.out)
            · show ((sumR L : Nat) : Int) = _
              have := sumR_set HQX.out ⟨x.nm, some ⟨g3, 0, none⟩, x.n, vc2, bs, x.la, x.sy⟩
              simp only at this
              have h1 := HBL.out
              have h2 := HXN.out
              omega
            · rcases List.mem_or_eq_of_mem_set hf with hf | rfl
              · exact .inl ⟨f, hf, hc⟩
              · exact .inr (HM.out.2.own c hc)
end Go.Proofs.Ytcmolfhjkkfedaa
