/- The contract of disk's Flip. -/
import Derived.Test.YtcmolfhjkkfedaaDiskC
import Derived.Test.YtcmolfhjkkfedaaRka
namespace Go.Proofs.Ytcmolfhjkkfedaa
open Go.RowKit Go.Sort Go.Lib

set_option maxHeartbeats 16000000 in
set_option maxRecDepth 100000 in
theorem disk_flip {w : World} {d : Nat} {S : DiskS} {B : List Nat} (ok : S.Ok) (h : DiskAt w d S B) (name : ByteArray) (at' : Int) (b : Nat) (hb : b < 4294967296) :
    Calls Try.prog 15 #[.pointer (some ⟨d, 0, none⟩), .string name, .int .i64 at', .int .u32 (b : Int)] w fun e w' => e = .returned (.int .i64 (S.flip name at' b).1) ∧ DiskTo w d B (S.flip name at' b).2 w' := by
  have HA := Lib.hid h
  obtain ⟨mb, E, h, hfs, rfl⟩ := h
  have c0 : w.cell? ⟨d, 0, none⟩ = some (.map (some mb)) := by rw [cell_of_block h.head]; rfl
  have hz : ∀ w : World, (zeroValue 61).run Try.prog w = .ok (.pointer none) w := fun _ => by kernel_rfl
  cases hx : aget E name with
  | none =>
    have hx' : aget S.files name = none := by rw [← hfs, fs, aget_amap, hx]; rfl
    have hlk : (Instr.lookup 57 (.map (some mb)) (.string name) false).run Try.prog w = .ok (.pointer none) w := by
      have := h.map.lookup (P := Try.prog) (string_kind Try.underlying9) Try.underlying57 (.pointer none) (hz _) name false
      rw [ptrs, aget_amap, hx] at this
      simpa only [Option.map_none, Option.getD_none, Bool.false_eq_true, if_false] using this
    have HE : Hid (S.flip name at' b = (13, S)) := Lib.hid (by unfold DiskS.flip; rw [hx'])
    clear hx hx' h hfs hz
    go_enter Try.func15, Try.ntmps15
    go_wp2_with (go_at_call 37; refine (disk_none c0).mono ?_; rintro e w' ⟨rfl, rfl⟩)
    go_ret
    rw [HE.out]
    exact ⟨rfl, DiskTo.same HA.out (Ext.refl _)⟩
  | some x =>
    have hx' : aget S.files name = some x.f := by rw [← hfs, fs, aget_amap, hx]; rfl
    have hlk : (Instr.lookup 57 (.map (some mb)) (.string name) false).run Try.prog w = .ok (.pointer (some ⟨x.fb, 0, none⟩)) w := by
      have := h.map.lookup (P := Try.prog) (string_kind Try.underlying9) Try.underlying57 (.pointer none) (hz _) name false
      rw [ptrs, aget_amap, hx] at this
      simpa only [Option.map_some, Option.getD_some, Bool.false_eq_true, if_false] using this
    have hsm : x.f.bytes.length ≤ 1048576 := ok.small _ (aget_mem hx')
    obtain ⟨n, hn⟩ : ∃ n, n = x.f.bytes.length := ⟨_, rfl⟩
    have hf : FileAt w x := h.files (name, x) (aget_mem hx)
    obtain ⟨xa, xc, hxv⟩ := hf.row.shape
    rw [← hn] at hxv hsm
    have f0 : w.cell? ⟨x.fb, 0, none⟩ = some (.slice xa n xc) := by rw [cell_of_block hf.head, ← hxv]; rfl
    have e0 : (w.alloc (.cells #[] 5 (0, 0))).cell? ⟨x.fb, 0, none⟩ = some (.slice xa n xc) := by rw [((Ext.refl w).alloc _).cell (p := ⟨x.fb, 0, none⟩) (block_lt hf.head)]; exact f0
    have HFL : Hid (S.flip name at' b = if at' < 0 ∨ 8 * (n : Int) ≤ at' then (2, S) else (0, { S with files := aput S.files name { x.f with bytes := flipL b at'.toNat x.f.bytes } })) := Lib.hid (by
      unfold DiskS.flip
      rw [hx']
      simp only [hn])
    have H := Lib.hid h
    have HX := Lib.hid hx
    have HFS := Lib.hid hfs
    have HF := Lib.hid hf
    have HXV := Lib.hid hxv
    have HN := Lib.hid hn
    have HB := Lib.hid hb
    clear hx hx' h hfs hz hf hxv hn hb
    go_enter Try.func15, Try.ntmps15
    by_cases hneg : at' < 0
    · have HE : Hid (S.flip name at' b = (2, S)) := Lib.hid (HFL.out.trans (if_pos (.inl hneg)))
      go_wp2_with (go_at_call 37; refine (disk_none c0).mono ?_; rintro e w' ⟨rfl, rfl⟩)
      go_ret
      rw [HE.out]
      exact ⟨rfl, DiskTo.same HA.out (Ext.refl _)⟩
    obtain ⟨p, rfl⟩ : ∃ p : Nat, at' = (p : Int) := ⟨at'.toNat, by omega⟩
    by_cases hbig : (8 : Int) * (n : Int) ≤ (p : Int)
    · have HE : Hid (S.flip name p b = (2, S)) := Lib.hid (HFL.out.trans (if_pos (.inr hbig)))
      have hneg' : ¬ (p : Int) < 0 := by omega
      go_wp2_with (go_at_call 37; refine (disk_none c0).mono ?_; rintro e w' ⟨rfl, rfl⟩)
      go_ret
      rw [HE.out]
      exact ⟨rfl, DiskTo.same HA.out (Ext.refl _)⟩
    · have hneg' : ¬ (p : Int) < 0 := by omega
      have HE := Lib.hid (HFL.out.trans (if_neg (fun h => h.elim hneg hbig)))
      clear hneg
      go_wp2_with (first
        | (go_at_call 37; refine (disk_none c0).mono ?_; rintro e w' ⟨rfl, rfl⟩)
        | (at_builtin; go_must (refine wpList_append_to (n := 0) (m := n) byt_elem rfl _ _ rfl (v := .slice _ _ _) rfl rfl (row_made (heap_alloc_new _ _) 1) (((HXV.out ▸ HN.out ▸ HF.out.row.src (u8s_one _)) : Src w 1 (.slice xa n xc) n (u8s x.f.bytes)).ext ((Ext.refl _).alloc _)) (by unfold maxLen; omega) (by omega) ?_; intro v2 w3 happ); simp only [Nat.zero_add, List.nil_append] at happ ⊢; obtain ⟨va2, vc2, rfl⟩ := happ.row.shape; have HAP := Lib.hid happ; clear happ))
      clear hlk f0 e0 c0
      have HM3 : Hid (MadeTo w 5 1 (.slice va2 n vc2) n (u8s x.f.bytes) w3) := Lib.hid ⟨HAP.out.row, fun g hg => by
        rcases HAP.out.loc with e | e
        · rw [e] at hg; have e2 : w.heap.size = g := Option.some.inj hg; omega
        · rw [e] at hg; simp at hg; omega, ((Chg.of_ext (S := fun _ => False) ((Ext.refl w).alloc (.cells #[] 5 (0, 0)))).trans HAP.out.chg (fun i hi e => by
          have e2 : w.heap.size = i := Option.some.inj e
          omega)).ext (fun _ _ => id)⟩
      obtain ⟨g3, rfl, _⟩ := madeB_at HM3.out (by omega)
      obtain ⟨m, hm⟩ : ∃ m : Nat, (m : Int) = min 32 (8 * (n : Int) - (p : Int)) := ⟨(min 32 (8 * (n : Int) - (p : Int))).toNat, by omega⟩
      rw [← hm]
      have hm1 : m ≤ 32 := by omega
      have hm2 : p + m ≤ 8 * n := by omega
      have HMM : Hid (m = min 32 (8 * n - p)) := Lib.hid (by omega)
      clear hm
      go_loopw [48, 11] (fun s48 s11 wr => ∃ (i : Nat) (bs : List UInt8), s48 = .int .i64 i ∧ i ≤ m ∧ bs.length = n ∧ Hid (bs = flipTo b p x.f.bytes i ∧ MadeTo w 5 1 (.slice (some ⟨g3, 0, none⟩) n vc2) n (u8s bs) wr)) (fun s48 _ _ => m - (RowKit.intOf s48).toNat)
      case atStart => exact ⟨0, x.f.bytes, by go_num, by omega, HN.out.symm, Lib.hid ⟨rfl, HM3.out⟩⟩
      case round =>
        obtain ⟨i, bs, rfl, hi, hbl, HM⟩ := hrel
        have HBL := Lib.hid hbl
        by_cases hlt : i < m
        · have hj : (p + i) / 8 < n := by omega
          have hjl : (p + i) / 8 < bs.length := by omega
          obtain ⟨_, e, _, h4, h5⟩ := madeB_at HM.out.2 (by omega)
          cases e
          have hgd : bs.getD ((p + i) / 8) 0 = bs[(p + i) / 8] := by rw [List.getD_eq_getElem?_getD, List.getElem?_eq_getElem hjl]; rfl
          have HST : Hid (flipTo b p x.f.bytes (i + 1) = flipStep b p bs i) := Lib.hid (by rw [flipTo, HM.out.1])
          have cb := h4 _ _ (List.getElem?_eq_getElem hjl)
          have fb := h5 ((p + i) / 8)
          obtain ⟨y, hy⟩ : ∃ y, y = bs[(p + i) / 8] := ⟨_, rfl⟩
          rw [← hy] at hgd cb
          have HZ : Hid (flipStep b p bs i = bs.set ((p + i) / 8) (flipB b p i y)) := Lib.hid (by unfold flipStep; rw [hgd])
          have hw1 : IntKind.i64.wrap ((p : Int) + (i : Int)) = ((p + i : Nat) : Int) := by rw [IntWalk.i64_in _ (by omega)]; omega
          clear hbl hgd h4 h5 hy
          go_wp2_with fail
          refine wp_region_split_lit [] [0, 1, 2, 3, 4, 5, 6, 7, 8, 9, 10, 11, 12, 13, 14, 15, 16, 17, 18] [19] (by kernel_rfl) (by kernel_rfl) (fun _ _ dd _ _ hh => by cases dd <;> exact hh) ?_
          simp only [pickOps, List.getElem?_cons_succ, List.getElem?_cons_zero]
          refine wpQuiet_nil ?_
          repeat (go_big_quiet_step (fail))
          have hxr : bits .xor .u8 (y.toNat : Int) (bits .and .u32 ((b : Int) / 2 ^ i) 1 % 256 * 2 ^ ((p + i) % 8) % 256) = ((flipB b p i y).toNat : Int) := by
            rw [flipB_toNat, u32_bit b i HB.out]
            have hb1 := bitN_lt b i
            have h1 : ∀ q : Nat, q < 256 → ((q : Int) % 256) = q := by omega
            have h2 : ((2 ^ ((p + i) % 8) : Nat) : Int) = 2 ^ ((p + i) % 8) := by push_cast; rfl
            have h3 : bitN b i * 2 ^ ((p + i) % 8) < 256 := by
              have h4 := pow8_lt (p + i)
              have : bitN b i = 0 ∨ bitN b i = 1 := by omega
              rcases this with e | e <;> rw [e] <;> omega
            rw [h1 _ (by omega), ← h2, ← Int.natCast_mul, h1 _ h3]
            exact u8_xor _ _ (by have := y.toNat_lt; omega) h3
          rw [hxr]
          refine wpQuiet_nil ?_
          intro W hw'
          have HXW : Hid (Ext wr W) := Lib.hid (by obtain ⟨kk, rfl⟩ := hw'; exact Ext.drewN _ _)
          clear hw' hxr hw1 cb fb
          have HMW := Lib.hid (⟨HM.out.2.row.ext HXW.out, HM.out.2.own, HM.out.2.ext.trans HXW.out⟩ : MadeTo w 5 1 (.slice (some ⟨g3, 0, none⟩) n vc2) n (u8s bs) W)
          have fb := (madeB_at HMW.out (by omega)).choose_spec.2.2.2
          have hcb : W.cell? ⟨g3, (p + i) / 8, none⟩ ≠ none := by
            obtain ⟨_, e, _, h4, _⟩ := madeB_at HMW.out (by omega)
            cases e
            rw [h4 _ _ (List.getElem?_eq_getElem hjl)]; simp
          obtain ⟨g', e', _, h4, h5⟩ := madeB_at HMW.out (by omega)
          cases e'
          have cb := h4 _ _ (List.getElem?_eq_getElem hjl)
          have fb := h5 ((p + i) / 8)
          clear h4 h5 hcb
          go_wp2_with fail
          go_roundw
          case rel => exact ⟨i + 1, bs.set ((p + i) / 8) (flipB b p i y), by go_num, by omega, by rw [List.length_set]; exact HBL.out, Lib.hid ⟨by rw [HST.out, HZ.out], HMW.out.setB (flipB b p i y)⟩⟩
          case measure => simp [RowKit.intOf]; omega
        · have HFIN : Hid (bs = flipL b p x.f.bytes) := Lib.hid (by
            rw [HM.out.1]; unfold flipL; congr 1; rw [← HN.out]; have := HMM.out; omega)
          have HD := Lib.hid (H.out.ext HM.out.2.ext)
          have HF2 := Lib.hid (HF.out.ext' HM.out.2.ext)
          have f0 : wr.cell? ⟨x.fb, 0, none⟩ = some (.slice xa n xc) := by rw [cell_of_block HF2.out.head, ← HXV.out]; rfl
          have g0 : wr.frozen? ⟨x.fb, 0, none⟩ = false := free_of_block HF2.out.head 0
          clear hbl
          go_wp2_with fail
          go_ret
          rw [HE.out]
          refine ⟨rfl, ?_⟩
          have hc := setCell_chg wr x.fb 0 (.slice (some ⟨g3, 0, none⟩) n vc2)
          have hg3 : w.heap.size ≤ g3 := HM.out.2.own g3 rfl
          have hxlt : x.fb < w.heap.size := block_lt HF.out.head
          have hdlt : d < w.heap.size := block_lt H.out.head
          have hdx : d ≠ x.fb := by
            intro e
            have := H.out.apart
            simp only [foot, List.nodup_cons, List.mem_cons, not_or] at this
            exact this.1.2 (List.mem_flatMap.2 ⟨(name, x), aget_mem HX.out, by simp [FileX.blocks, e]⟩)
          have hall : Chg (· = x.fb) w (wr.setCell ⟨x.fb, 0, none⟩ (.slice (some ⟨g3, 0, none⟩) n vc2)) := (Chg.of_ext (S := (· = x.fb)) HM.out.2.ext).trans hc (fun _ _ e => e)
          have hrow : Row (wr.setCell ⟨x.fb, 0, none⟩ (.slice (some ⟨g3, 0, none⟩) n vc2)) 5 1 (.slice (some ⟨g3, 0, none⟩) n vc2) n (u8s bs) := HM.out.2.row.chg hc (fun b hb e => by have e2 : g3 = b := Option.some.inj hb; omega)
          obtain ⟨t1, t2⟩ := H.out.turn (x' := ⟨x.fb, .slice (some ⟨g3, 0, none⟩) n vc2, ⟨bs, x.f.lasts, x.f.synced⟩⟩) (room' := S.room) (used' := S.used) (left' := S.left) (ops' := S.ops) HX.out hall (fun b e => .inr (by rw [e]; simp [FileX.blocks])) ((hall.block d hdlt hdx).trans H.out.head) ⟨by
            have := setCell_block HF2.out.head (i := 0) (.slice (some ⟨g3, 0, none⟩) n vc2)
            simpa using this, by rw [HBL.out]; exact hrow⟩ rfl (.inr ⟨g3, rfl, hg3⟩)
          refine ⟨_, ⟨mb, _, t1, ?_, rfl⟩, hall.mono (fun i hi e => ?_), t2⟩
          · show fs _ = aput S.files name _
            rw [Int.toNat_natCast, ← HFIN.out, ← HFS.out]
            exact (aput_amap (fun x : FileX => x.f) E name _).symm
          · rw [e]
            simp only [foot, List.mem_cons, List.mem_flatMap]
            exact .inr (.inr ⟨(name, x), aget_mem HX.out, by simp [FileX.blocks]⟩)
end Go.Proofs.Ytcmolfhjkkfedaa
