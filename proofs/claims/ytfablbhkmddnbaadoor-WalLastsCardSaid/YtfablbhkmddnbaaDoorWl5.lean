/- The log: a torn file is mended. -/
import Derived.Test.YtfablbhkmddnbaaDoorWl4
import Derived.Test.YtfablbhkmddnbaaDoorDiskF
import Derived.Deep.DeepCutAuto
import Derived.Deep.CutBlock
namespace Go.Proofs.YtfablbhkmddnbaaDoor
open Go.RowKit Go.Sort Go.Lib

theorem DInv.seq {r : Int × DiskS} {k : DiskS → Int × DiskS} {n : Nat} (h : DInv r.2 n) (hk : ∀ S, DInv S n → DInv (k S).2 (n + 1)) : DInv (seqS r k).2 (n + 1) := by
  unfold seqS
  split
  · exact hk _ h
  · exact h.mono (by omega)
theorem DInv.mend {S : DiskS} {k : Nat} (h : DInv S k) (file : ByteArray) (b : List UInt8) : DInv (mendW S file b).2 (k + 4) := by
  unfold mendW
  split
  · exact (h.delete file).mono (by omega)
  · have h0 : DInv (mendA S).2 (k + 1) := by
      unfold mendA
      split
      · exact h.delete fX
      · exact h.mono (by omega)
    exact ((h0.seq (fun S hS => hS.append fX _)).seq (fun S hS => hS.sync fX)).seq (fun S hS => hS.rename fX file)

/-- What stands in memory while a file is written anew. -/
structure MvAt (w : World) (lg d : Nat) (L : LogS) (F : List Nat) (v : Value) (b : List UInt8) (k : Nat) (S : DiskS) (wi : World) : Prop where
  log : ∃ V B, LogB wi lg d V L S B ∧ (∀ x ∈ lfoot lg V B, x ∈ F ∨ w.heap.size ≤ x) ∧ ∀ g, v.ownBlock = some g → g ∉ B
  chg : Chg (· ∈ F) w wi
  src : Src wi 1 v b.length (u8s b)
  inv : DInv S k
  own : ∀ g, v.ownBlock = some g → g < wi.heap.size
section
variable {w wi w' : World} {lg d k : Nat} {L : LogS} {F B : List Nat} {V v : Value} {b : List UInt8} {S S' : DiskS}
theorem MvAt.call (h : MvAt w lg d L F v b k S wi) (hl : LogB wi lg d V L S B ∧ (∀ x ∈ lfoot lg V B, x ∈ F ∨ w.heap.size ≤ x) ∧ ∀ g, v.ownBlock = some g → g ∉ B) (ht : DiskTo wi d B S' w') (hi : DInv S' (k + 1)) : MvAt w lg d L F v b (k + 1) S' w' := by
  obtain ⟨h1, h2, h3⟩ := hl
  obtain ⟨B', k1, k2, k3⟩ := h1.onDisk ht
  have hB : ∀ x ∈ B', x ∈ B ∨ wi.heap.size ≤ x := by
    obtain ⟨B2, q1, q2, q3⟩ := ht
    intro x hx
    have := k3 x (lfoot_disk hx)
    by_cases hxB : x ∈ B
    · exact .inl hxB
    · rcases this with e | e
      · simp only [lfoot, List.mem_cons, List.mem_append, Option.mem_toList] at e
        rcases e with rfl | e | e
        · exact absurd hx k1.nb
        · exact absurd hx (k1.own x e).1
        · exact .inl e
      · exact .inr e
  refine ⟨⟨V, B', k1, fun x hx => ?_, fun g hg hb => ?_⟩, h.chg.trans k2 (fun i hi e => ?_), h.src.chg k2 (fun g hg => h3 g hg), hi, fun g hg => ?_⟩
  · rcases k3 x hx with e | e
    · exact h2 x e
    · exact .inr (by have := h.chg.size; omega)
  · rcases hB g hb with e | e
    · exact h3 g hg e
    · have := h.own g hg; omega
  · rcases h2 i (lfoot_disk e) with e | e
    · exact e
    · omega
  · have := h.own g hg
    have := k2.size
    omega
theorem MvAt.end' (h : MvAt w lg d L F v b k S wi) : LogTo w lg d F L S wi := by
  obtain ⟨V, B, h1, h2, _⟩ := h.log
  exact ⟨_, ⟨V, B, h1, rfl⟩, h.chg, h2⟩
theorem MvAt.ext' (h : MvAt w lg d L F v b k S wi) (hx : Ext wi w') : MvAt w lg d L F v b k S w' := by
  obtain ⟨V, B, h1, h2, h3⟩ := h.log
  exact ⟨⟨V, B, h1.ext hx, h2, h3⟩, h.chg.trans (Chg.of_ext (S := fun _ => False) hx) (fun _ _ e => e.elim), h.src.ext hx, h.inv, fun g hg => by have := h.own g hg; have := hx.size; omega⟩
theorem MvAt.mono {k' : Nat} (h : MvAt w lg d L F v b k S wi) (hk : k ≤ k') : MvAt w lg d L F v b k' S wi := ⟨h.log, h.chg, h.src, h.inv.mono hk, h.own⟩
end

def RdAny (w : World) (z : Int) (e : Ending) (w' : World) : Prop := ∃ v, e = .returned (.tuple #[v, .int .i64 z]) ∧ Ext w w'

set_option maxHeartbeats 8000000 in
set_option maxRecDepth 100000 in
theorem mend_any {w : World} {lg d k : Nat} {L : LogS} {S : DiskS} {F : List Nat} (hk : k ≤ 900000) (inv : DInv S k) (h : LogAt w lg d L S F) (file : ByteArray) (hf : file.size ≤ maxLen) (a : Option Addr) (n c : Nat) (b : List UInt8)
    (hs : Src w 1 (.slice a n c) n (u8s b)) (hn : n ≤ 1099511627776) (ho : ∀ g, (Value.slice a n c).ownBlock = some g → g ∉ F ∧ g < w.heap.size) :
    Calls Tryd.prog 35 #[.pointer (some ⟨lg, 0, none⟩), .string file, .slice a n c] w fun e w' => e = .returned (.int .i64 (mendW S file b).1) ∧ LogTo w lg d F L (mendW S file b).2 w' := by
  have hlen := u8s_src_len hs
  have h0 : MvAt w lg d L F (.slice a n c) b k S w := by
    obtain ⟨V, B, hl, rfl⟩ := h
    exact ⟨⟨V, B, hl, fun x hx => .inl hx, fun g hg hb => (ho g hg).1 (lfoot_disk hb)⟩, Chg.refl _ _, by rw [hlen]; exact hs, inv, fun g hg => (ho g hg).2⟩
  have H0 := Lib.hid h0
  have HI0 := Lib.hid inv
  have HN := Lib.hid hlen
  obtain ⟨R, hR⟩ : ∃ R, R = mendW S file b := ⟨_, rfl⟩
  rw [← hR]
  clear hs h0 ho h inv
  by_cases hb : b = []
  · have hn0 : n = 0 := by rw [← hlen, hb]; rfl
    subst hn0
    have HR : Hid (R = S.delete file) := Lib.hid (by rw [hR]; unfold mendW; rw [if_pos hb])
    obtain ⟨V, B, hl⟩ := H0.out.log
    have HLB := Lib.hid hl
    have c0 := cell_of_block hl.1.raw.box 0
    have HC := Lib.hid (disk_delete HI0.out.ok (by have := HI0.out.ops; omega) hl.1.disk file hf)
    have HI := Lib.hid (HI0.out.delete file)
    clear hlen hR hb hl
    simp only [List.getElem?_toArray, List.getElem?_cons_zero] at c0
    rw [← HR.out] at HC HI
    go_enter Tryd.func35, Tryd.ntmps35
    go_wp2_with fail
    refine HC.out.mono ?_
    rintro e w' ⟨rfl, ht⟩
    have HM := Lib.hid (H0.out.call HLB.out ht HI.out)
    clear ht c0
    go_wp2_with fail
    go_ret
    exact ⟨rfl, HM.out.end'⟩
  · have hn0 : ((n : Int) == 0) = false := by
      have : n ≠ 0 := fun h => hb (List.length_eq_zero_iff.1 (hlen.trans h))
      simpa using this
    have hn0' : n ≠ 0 := by simpa using hn0
    have HRR : Hid (R = seqS (seqS (seqS (mendA S) (fun S => S.append fX b)) (fun S => S.sync fX)) (fun S => S.rename fX file)) := Lib.hid (by rw [hR]; unfold mendW; rw [if_neg hb])
    obtain ⟨z, hz, HRD, HA⟩ : ∃ z : Int, (z = 0 ∨ z = 13) ∧ Hid (Calls Tryd.prog 19 #[.pointer (some ⟨d, 0, none⟩), .string fX] w (RdAny w z)) ∧ Hid (mendA S = if z = 0 then S.delete fX else (0, S)) := by
      obtain ⟨V, B, hl⟩ := H0.out.log
      cases hx : aget S.files fX with
      | none =>
        refine ⟨13, .inr rfl, Lib.hid ((disk_read_none hl.1.disk fX hx).mono fun e w' he => ?_), Lib.hid (by unfold mendA; rw [hx]; rfl)⟩
        obtain ⟨rfl, rfl⟩ := he
        exact ⟨_, rfl, Ext.refl _⟩
      | some f =>
        refine ⟨0, .inl rfl, Lib.hid ((disk_read_some HI0.out.ok hl.1.disk fX f hx).mono fun e w' he => ?_), Lib.hid (by unfold mendA; rw [hx]; rfl)⟩
        obtain ⟨v, rfl, hn⟩ := he
        exact ⟨v, rfl, hn.2.2⟩
    obtain ⟨V, B, hl⟩ := H0.out.log
    have c0 := cell_of_block hl.1.raw.box 0
    simp only [List.getElem?_toArray, List.getElem?_cons_zero] at c0
    clear hlen hR hb hl
    go_enter Tryd.func35, Tryd.ntmps35
    go_wp2_with fail
    refine HRD.out.mono ?_
    rintro e w1 ⟨v1, rfl, hx⟩
    have HM1 := Lib.hid (H0.out.ext' hx)
    clear hx HRD c0 H0
    go_upto_if 30 with fail
    go_cut [9] (fun _ wx => Hid ((mendA S).1 = 0) ∧ Hid (MvAt w lg d L F (.slice a n c) b (k + 1) (mendA S).2 wx))
    case first =>
      rcases hz with rfl | rfl
      · have HA0 : Hid (mendA S = S.delete fX) := Lib.hid (by rw [HA.out, if_pos rfl])
        obtain ⟨V, B, hl⟩ := HM1.out.log
        have HLB := Lib.hid hl
        have c0 := cell_of_block hl.1.raw.box 0
        simp only [List.getElem?_toArray, List.getElem?_cons_zero] at c0
        have HC := Lib.hid (disk_delete HI0.out.ok (by have := HI0.out.ops; omega) hl.1.disk fX (by decide))
        have HI := Lib.hid (HI0.out.delete fX)
        clear hl HA
        rw [HA0.out] at HRR
        generalize S.delete fX = D at *
        obtain ⟨y, Sy⟩ := D
        go_wp2_with fail
        refine HC.out.mono ?_
        rintro e w' ⟨rfl, ht⟩
        have HZ := Lib.hid (HM1.out.call HLB.out ht HI.out)
        clear ht c0
        by_cases hy : y = 0
        · subst hy
          go_wp2_with fail
          go_meet
          case rel => rw [HA0.out]; exact ⟨Lib.hid rfl, HZ⟩
        · have hye : (y != 0) = true := by simp [hy]
          have HRX : Hid (R = (y, Sy)) := Lib.hid (by rw [HRR.out]; simp [seqS, hy])
          clear hy
          go_wp2_with fail
          go_ret
          rw [HRX.out]
          exact ⟨rfl, HZ.out.end'⟩
      · have HA0 : Hid (mendA S = (0, S)) := Lib.hid (by rw [HA.out, if_neg (by decide)])
        have HZ : Hid (MvAt w lg d L F (.slice a n c) b (k + 1) S w1) := Lib.hid (HM1.out.mono (by omega))
        go_wp2_with fail
        go_meet
        case rel => rw [HA0.out]; exact ⟨Lib.hid rfl, HZ⟩
    case rest =>
      obtain ⟨HA0, HZ1⟩ := hcut
      obtain ⟨P, hP⟩ : ∃ P, P = mendA S := ⟨_, rfl⟩
      rw [← hP] at HA0 HZ1 HRR
      clear hP HA HM1
      obtain ⟨p1, S1⟩ := P
      obtain rfl : p1 = 0 := HA0.out
      have HRR2 : Hid (R = seqS (seqS (S1.append fX b) (fun S => S.sync fX)) (fun S => S.rename fX file)) := Lib.hid HRR.out
      clear HRR HA0
      obtain ⟨V, B, hl⟩ := HZ1.out.log
      have HLB := Lib.hid hl
      have c0 := cell_of_block hl.1.raw.box 0
      simp only [List.getElem?_toArray, List.getElem?_cons_zero] at c0
      have hi : DInv S1 (k + 1) := HZ1.out.inv
      have HC := Lib.hid (disk_append' hi.ok (by have := hi.ops; omega) hl.1.disk fX (by decide) a n c b (by have := HZ1.out.src; rw [HN.out] at this; exact this) (.inr hl.2.2) (by unfold maxLen; omega))
      have HI := Lib.hid (hi.append fX b)
      clear hl hi
      generalize S1.append fX b = T1 at *
      obtain ⟨y1, S2⟩ := T1
      go_wp2_with fail
      refine HC.out.mono ?_
      rintro e w5 ⟨rfl, ht⟩
      have HZ2 := Lib.hid (HZ1.out.call HLB.out ht HI.out)
      clear ht c0 HZ1 HLB HC HI
      by_cases hy : y1 = 0
      · subst hy
        have HRR3 : Hid (R = seqS (S2.sync fX) (fun S => S.rename fX file)) := Lib.hid HRR2.out
        clear HRR2
        obtain ⟨V, B, hl⟩ := HZ2.out.log
        have HLB := Lib.hid hl
        have c0 := cell_of_block hl.1.raw.box 0
        simp only [List.getElem?_toArray, List.getElem?_cons_zero] at c0
        have hi : DInv S2 (k + 2) := HZ2.out.inv
        have HC := Lib.hid (disk_sync hi.ok (by have := hi.ops; omega) hl.1.disk fX (by decide))
        have HI := Lib.hid (hi.sync fX)
        clear hl hi
        generalize S2.sync fX = T2 at *
        obtain ⟨y2, S3⟩ := T2
        go_wp2_with fail
        refine HC.out.mono ?_
        rintro e w6 ⟨rfl, ht⟩
        have HZ3 := Lib.hid (HZ2.out.call HLB.out ht HI.out)
        clear ht c0 HZ2 HLB HC HI
        by_cases hy : y2 = 0
        · subst hy
          have HRR4 : Hid (R = S3.rename fX file) := Lib.hid HRR3.out
          clear HRR3
          obtain ⟨V, B, hl⟩ := HZ3.out.log
          have HLB := Lib.hid hl
          have c0 := cell_of_block hl.1.raw.box 0
          simp only [List.getElem?_toArray, List.getElem?_cons_zero] at c0
          have hi : DInv S3 (k + 3) := HZ3.out.inv
          have HC := Lib.hid (disk_rename hi.ok (by have := hi.ops; omega) hl.1.disk fX file (by decide) hf)
          have HI := Lib.hid (hi.rename fX file)
          clear hl hi
          rw [← HRR4.out] at HC HI
          go_wp2_with fail
          refine HC.out.mono ?_
          rintro e w7 ⟨rfl, ht⟩
          have HZ4 := Lib.hid (HZ3.out.call HLB.out ht HI.out)
          clear ht c0
          go_wp2_with fail
          go_ret
          exact ⟨rfl, HZ4.out.end'⟩
        · have hye : (y2 != 0) = true := by simp [hy]
          have HRX : Hid (R = (y2, S3)) := Lib.hid (by rw [HRR3.out]; simp [seqS, hy])
          clear hy
          go_wp2_with fail
          go_ret
          rw [HRX.out]
          exact ⟨rfl, HZ3.out.end'⟩
      · have hye : (y1 != 0) = true := by simp [hy]
        have HRX : Hid (R = (y1, S2)) := Lib.hid (by rw [HRR2.out]; simp [seqS, hy])
        clear hy
        go_wp2_with fail
        go_ret
        rw [HRX.out]
        exact ⟨rfl, HZ2.out.end'⟩
end Go.Proofs.YtfablbhkmddnbaaDoor
