/- The log: First. -/
import Derived.Test.YtfablbhkmddnbaaDoorWtq
import Derived.Test.YtfablbhkmddnbaaDoorDiskF
import Derived.Test.YtfablbhkmddnbaaDoorWl3
import Derived.Test.YtfablbhkmddnbaaDoorWrp
namespace Go.Proofs.YtfablbhkmddnbaaDoor
open Go.RowKit Go.Sort Go.Lib

def firstW (L : LogS) : Nat := L.files.headD L.next
theorem logfirst_any {w : World} {lg d : Nat} {L : LogS} {V : Value} (h : LogRaw w lg d V L) :
    Calls Tryd.prog 17 #[.pointer (some ⟨lg, 0, none⟩)] w fun e w' => e = .returned (.int .i64 (firstW L : Int)) ∧ w = w' := by
  have H := Lib.hid h
  have c4 := cell_of_block h.box 4
  have c2 := cell_of_block h.box 2
  obtain ⟨va, vc, rfl⟩ := h.row.shape
  clear h
  simp only [List.getElem?_toArray] at c4 c2
  rcases Nat.eq_zero_or_pos L.files.length with h0 | h0
  · have hf : firstW L = L.next := by
      unfold firstW
      rw [List.length_eq_zero_iff.1 h0]; rfl
    rw [h0] at c2
    go_enter Tryd.func17, Tryd.ntmps17
    go_wp2_with fail
    refine (lognone_any H.out).mono ?_
    rintro e w' ⟨rfl, rfl⟩
    go_wp2_with fail
    go_ret
    exact ⟨by rw [hf]; rfl, rfl⟩
  · obtain ⟨fb, fo, x, rfl, hx, cx⟩ := nts_src (H.out.row.src (nts_one _)) h0
    rw [Nat.add_zero] at cx
    have hf : firstW L = x := by
      unfold firstW
      cases hL : L.files with
      | nil => rw [hL] at hx; simp at hx
      | cons y q => rw [hL] at hx; simpa using hx
    have hne : ((L.files.length : Int) == 0) = false := by simp; intro e; rw [e] at h0; simp at h0
    go_enter Tryd.func17, Tryd.ntmps17
    go_wp2_with fail
    refine (lognone_any H.out).mono ?_
    rintro e w' ⟨rfl, rfl⟩
    go_wp2_with fail
    go_ret
    exact ⟨by rw [hf]; rfl, rfl⟩
end Go.Proofs.YtfablbhkmddnbaaDoor

/-! The log: Drop. -/

namespace Go.Proofs.YtfablbhkmddnbaaDoor
open Go.RowKit Go.Sort Go.Lib

/-- Drop, on the files that are left. -/
def dropGo (n : Int) : List Nat → DiskS → Int × List Nat × DiskS
  | [], S => (0, [], S)
  | [f], S => (0, [f], S)
  | f :: g :: fs, S => if (g : Int) ≤ n then
      if (S.delete (nameW f)).1 ≠ 0 then ((S.delete (nameW f)).1, f :: g :: fs, (S.delete (nameW f)).2) else dropGo n (g :: fs) (S.delete (nameW f)).2
    else (0, f :: g :: fs, S)
/-- How many files a log tells. -/
def sliceN : Option Value → Nat
  | some (.slice _ n _) => n
  | _ => 0
def filesN (w : World) (lg : Nat) : Nat := sliceN (w.cell? ⟨lg, 2, none⟩)
/-- The log while files are dropped. -/
structure DropAt (w : World) (lg d : Nat) (L : LogS) (vb vo vc i : Nat) (S : DiskS) (B : List Nat) (wr : World) : Prop where
  box : wr.heap[lg]? = some (.cells #[.pointer (some ⟨d, 0, none⟩), .int .i64 L.limit, .slice (some ⟨vb, vo + i, none⟩) (L.files.length - i) (vc - i), .int .i64 (L.size : Int), .int .i64 (L.next : Int), .bool L.dirty, .bool L.bad] 53 (0, 0))
  row : Row wr 3 1 (.slice (some ⟨vb, vo, none⟩) L.files.length vc) L.files.length (nts L.files)
  disk : DiskAt wr d S B
  nb : lg ∉ B
  own : ∀ g, (Value.slice (some ⟨vb, vo, none⟩) L.files.length vc).ownBlock = some g → g ∉ B ∧ g ≠ lg
theorem dropGo_step {n : Int} {l : List Nat} {S : DiskS} {i x y : Nat} (hx : l[i]? = some x) (hy : l[i + 1]? = some y) :
    dropGo n (l.drop i) S = if (y : Int) ≤ n then (if (S.delete (nameW x)).1 ≠ 0 then ((S.delete (nameW x)).1, l.drop i, (S.delete (nameW x)).2) else dropGo n (l.drop (i + 1)) (S.delete (nameW x)).2) else (0, l.drop i, S) := by
  obtain ⟨h1, h1'⟩ := List.getElem?_eq_some_iff.1 hx
  obtain ⟨h2, h2'⟩ := List.getElem?_eq_some_iff.1 hy
  rw [List.drop_eq_getElem_cons h1, List.drop_eq_getElem_cons h2, h1', h2', dropGo]
theorem dropGo_one {n : Int} {l : List Nat} {S : DiskS} {i : Nat} (h : l.length ≤ i + 1) : dropGo n (l.drop i) S = (0, l.drop i, S) := by
  have hl : (l.drop i).length ≤ 1 := by rw [List.length_drop]; omega
  match hd : l.drop i, hl with
  | [], _ => rfl
  | [x], _ => rfl
  | x :: y :: q, hl => simp at hl
theorem drop_at {vb vo vc i : Nat} (h : 2 ≤ vc - i) : cutA (some ⟨vb, vo + i, none⟩) (vc - i) 1 = some ⟨vb, vo + (i + 1), none⟩ := by
  unfold cutA
  rw [if_neg (by omega)]
  simp [Go.WideShapes.add_plain, Nat.add_assoc]
theorem sz_int : ∀ W, (sizeOf 3).run Tryd.prog W = .ok 1 W := fun W => by simp [go_sem]
theorem tail_src {w : World} {vb vo n c i : Nat} {l : List Nat} (h : Src w 1 (.slice (some ⟨vb, vo, none⟩) n c) n (nts l)) (hl : l.length = n) : Src w 1 (.slice (some ⟨vb, vo + i, none⟩) (n - i) (c - i)) (n - i) (nts (l.drop i)) := by
  refine .inr ⟨_, _, rfl, by rw [nts_len, List.length_drop, hl]; omega, fun j u hj => ?_, nts_one _⟩
  have hj' : ((l.drop i)[j]?).map (fun n : Nat => (Value.int .i64 (n : Int))) = some u := by simpa [nts] using hj
  rw [List.getElem?_drop] at hj'
  have hlt : i + j < n := by
    rcases Nat.lt_or_ge (i + j) n with h | h
    · exact h
    · rw [List.getElem?_eq_none (by omega)] at hj'; simp at hj'
  obtain ⟨_, _, x, ha, hx, cx⟩ := nts_src h hlt
  cases ha
  rw [hx] at hj'
  simp at hj'
  subst hj'
  rw [Go.WideShapes.add_plain, Nat.add_assoc]
  exact cx
theorem DropAt.ext {w w3 wr : World} {lg d vb vo vc i : Nat} {L : LogS} {S : DiskS} {B : List Nat} (h : DropAt w lg d L vb vo vc i S B wr) (hx : Ext wr w3) : DropAt w lg d L vb vo vc i S B w3 := ⟨(hx.block (block_lt h.box)).trans h.box, h.row.ext hx, h.disk.ext hx, h.nb, h.own⟩
theorem DropAt.onDisk {w w3 wr : World} {lg d vb vo vc i : Nat} {L : LogS} {S S1 : DiskS} {B : List Nat} (h : DropAt w lg d L vb vo vc i S B wr) (ht : DiskTo wr d B S1 w3) :
    ∃ B3, DropAt w lg d L vb vo vc i S1 B3 w3 ∧ Chg (· ∈ B) wr w3 ∧ ∀ b ∈ B3, b ∈ B ∨ wr.heap.size ≤ b := by
  obtain ⟨B3, h1, h2, h3⟩ := ht
  refine ⟨B3, ⟨(h2.block lg (block_lt h.box) h.nb).trans h.box, h.row.chg h2 (fun g hg => (h.own g hg).1), h1, fun e => ?_, fun g hg => ⟨fun e => ?_, (h.own g hg).2⟩⟩, h2, h3⟩
  · rcases h3 _ e with e | e
    · exact h.nb e
    · have := block_lt h.box; omega
  · rcases h3 _ e with e | e
    · exact (h.own g hg).1 e
    · have := h.row.lt hg; omega
/-- What Drop leaves. -/
structure DropTo (w : World) (lg d : Nat) (F : List Nat) (L : LogS) (fs : List Nat) (S : DiskS) (w' : World) : Prop where
  ex : ∃ a c B, w'.heap[lg]? = some (.cells #[.pointer (some ⟨d, 0, none⟩), .int .i64 L.limit, .slice a fs.length c, .int .i64 (L.size : Int), .int .i64 (L.next : Int), .bool L.dirty, .bool L.bad] 53 (0, 0)) ∧ Src w' 1 (.slice a fs.length c) fs.length (nts fs) ∧ DiskAt w' d S B ∧ (∀ b ∈ B, b ∈ F ∨ w.heap.size ≤ b) ∧ lg ∉ B ∧ ∀ g, (Value.slice a fs.length c).ownBlock = some g → g ∉ B
  chg : Chg (· ∈ F) w w'

theorem DropAt.to {w wr : World} {lg d vb vo vc i : Nat} {L : LogS} {S : DiskS} {B F : List Nat} (h : DropAt w lg d L vb vo vc i S B wr) (hc : Chg (· ∈ F) w wr) (hf : ∀ b ∈ B, b ∈ F ∨ w.heap.size ≤ b) : DropTo w lg d F L (L.files.drop i) S wr := by
  refine ⟨⟨some ⟨vb, vo + i, none⟩, vc - i, B, ?_, ?_, h.disk, hf, h.nb, fun g hg => (h.own g (by simpa [Value.ownBlock] using hg)).1⟩, hc⟩
  · rw [List.length_drop]; exact h.box
  · rw [List.length_drop]; exact tail_src (h.row.src (nts_one _)) rfl

set_option maxHeartbeats 8000000 in
set_option maxRecDepth 100000 in
theorem logdrop_any {w : World} {lg d k : Nat} {L : LogS} {S : DiskS} {F : List Nat} (hk : k ≤ 800000) (inv : DInv S k) (h : LogAt w lg d L S F) (n : Int) (hf : ∀ f ∈ L.files, f ≤ 1000000000000000) (hfl : L.files.length ≤ 10000) :
    Calls Tryd.prog 16 #[.pointer (some ⟨lg, 0, none⟩), .int .i64 n] w fun e w' => e = .returned (.int .i64 (dropGo n L.files S).1) ∧ DropTo w lg d F L (dropGo n L.files S).2.1 (dropGo n L.files S).2.2 w' := by
  obtain ⟨V, B, hl, rfl⟩ := h
  have HL := Lib.hid hl
  have HI := Lib.hid inv
  have HF := Lib.hid hf
  obtain ⟨va, vc, rfl⟩ := hl.raw.row.shape
  clear hl inv hf
  rcases Nat.lt_or_ge L.files.length 2 with hlt | hge
  · have hd := dropGo_one (n := n) (l := L.files) (S := S) (i := 0) (by omega)
    rw [List.drop_zero] at hd
    have HDG := Lib.hid hd
    have c2 := cell_of_block HL.out.raw.box 2
    simp only [List.getElem?_toArray] at c2
    clear hd
    have h1 : ¬ (1 : Int) < (L.files.length : Int) := by omega
    go_enter Tryd.func16, Tryd.ntmps16
    go_wp2_with fail
    refine (lognone_any HL.out.raw).mono ?_
    rintro e w' ⟨rfl, rfl⟩
    go_wp2_with fail
    go_loopw [5] (fun _ wr => wr = w) (fun _ _ => 0)
    case atStart => rfl
    case round =>
      obtain rfl := hrel
      go_wp2_with fail
      go_ret
      rw [HDG.out]
      exact ⟨rfl, ⟨va, vc, B, HL.out.raw.box, HL.out.raw.row.src (nts_one _), HL.out.disk, fun b hb => .inl (lfoot_disk hb), HL.out.nb, fun g hg => (HL.out.own g hg).1⟩, Chg.refl _ _⟩
  · obtain ⟨vb, vo, x0, rfl, -, -⟩ := nts_src (k := 0) (HL.out.raw.row.src (nts_one _)) (by omega)
    have hvc : L.files.length ≤ vc := rowB_le HL.out.raw.row
    obtain ⟨R, hR⟩ : ∃ R, R = dropGo n L.files S := ⟨_, rfl⟩
    rw [← hR]
    have HR := Lib.hid hR
    clear hR
    go_enter Tryd.func16, Tryd.ntmps16
    go_wp2_with fail
    refine (lognone_any HL.out.raw).mono ?_
    rintro e w' ⟨rfl, rfl⟩
    go_wp2_with fail
    go_loopw [5] (fun s5 wr => ∃ (i : Nat) (S' : DiskS) (B' : List Nat), i + 1 ≤ L.files.length ∧ Hid (DropAt w lg d L vb vo vc i S' B' wr ∧ DInv S' (k + i) ∧ R = dropGo n (L.files.drop i) S' ∧ Chg (· ∈ lfoot lg (.slice (some ⟨vb, vo, none⟩) L.files.length vc) B) w wr ∧ ∀ b ∈ B', b ∈ lfoot lg (.slice (some ⟨vb, vo, none⟩) L.files.length vc) B ∨ w.heap.size ≤ b)) (fun _ wr => filesN wr lg)
    case atStart => exact ⟨0, S, B, by omega, Lib.hid ⟨⟨by simpa using HL.out.raw.box, HL.out.raw.row, HL.out.disk, HL.out.nb, HL.out.own⟩, HI.out, by rw [List.drop_zero]; exact HR.out, Chg.refl _ _, fun b hb => .inl (lfoot_disk hb)⟩⟩
    case round =>
      obtain ⟨i, S', B', hi, HH⟩ := hrel
      have HBX := Lib.hid HH.out.1.box
      have HFN : Hid (filesN wr lg = L.files.length - i) := Lib.hid (by
        unfold filesN
        rw [cell_of_block HBX.out 2]; rfl)
      have c2 := cell_of_block HBX.out 2
      have c0 := cell_of_block HBX.out 0
      simp only [List.getElem?_toArray, List.getElem?_cons_zero] at c0 c2
      rcases Nat.lt_or_ge (i + 1) L.files.length with hlt | hge1
      · obtain ⟨_, _, x, hxa, hx, cx⟩ := nts_src (k := i) (HH.out.1.row.src (nts_one _)) (by omega)
        cases hxa
        obtain ⟨_, _, y, hya, hy, cy⟩ := nts_src (k := i + 1) (HH.out.1.row.src (nts_one _)) hlt
        cases hya
        have HDG := Lib.hid (dropGo_step (n := n) (S := S') hx hy)
        have hxf : x ≤ 1000000000000000 := HF.out x (List.mem_of_getElem? hx)
        have HCX := Lib.hid cx
        clear hx hy
        rw [← Nat.add_assoc] at cy
        obtain ⟨m, hm⟩ : ∃ m, m = L.files.length - i := ⟨_, rfl⟩
        rw [← hm] at c2
        have h1 : (1 : Int) < (m : Int) := by omega
        by_cases hyn : (y : Int) ≤ n
        · go_upto_region 4 with fail
          have f0 := cell_turned (T := fun _ => false) c0 rfl
          have f2 := cell_turned (T := fun _ => false) c2 rfl
          have fx := cell_turned (T := fun _ => false) cx rfl
          clear c0 c2 cy cx
          go_wp2_with fail
          refine wp_region_plan 11 (fun w' => ∃ z : Turned, w' = turned wr (fun _ => false) z.d z.f z.os) (.reads [0, 1, 2, 3, 4, 5, 6, 7, 8, 9] (.one 10 (.one 11 (.one 12 .done)))) (by kernel_rfl) (by kernel_rfl) (fun _ _ dd _ _ hh => by cases dd <;> exact hh) ?_ ?_
          · exact turned_of_ext (Ext.drewN wr 1)
          refine wpPlan_reads ?_
          simp only [pickOps, List.getElem?_cons_succ, List.getElem?_cons_zero]
          repeat (go_big_quiet_step (fail))
          refine wpQuiet_nil ?_
          clear f0 f2 fx
          refine wpPlan_one ?_
          simp only [pickOps, List.getElem?_cons_succ, List.getElem?_cons_zero]
          go_wp2_with fail
          refine (name_any (wr.drewN 1) x (by omega)).mono ?_
          rintro e w2 ⟨rfl, hx⟩
          have HX := Lib.hid ((Ext.drewN wr 1).trans hx)
          clear hx
          go_wp2_with fail
          refine thenX_mk (turned_of_ext HX.out) (wpPlan_one ?_)
          simp only [pickOps, List.getElem?_cons_succ, List.getElem?_cons_zero]
          have H2 := Lib.hid (HH.out.1.ext HX.out)
          go_wp2_with fail
          refine (disk_delete HH.out.2.1.ok (by have := HH.out.2.1.ops; omega) H2.out.disk (nameW x) (by rw [nameW_size]; decide)).mono ?_
          rintro e w3 ⟨rfl, hto⟩
          have HID := Lib.hid (HH.out.2.1.delete (nameW x))
          generalize S'.delete (nameW x) = Q at *
          obtain ⟨y1, S1⟩ := Q
          simp only at HDG HID hto ⊢
          obtain ⟨B3, h3, hc3, hf3⟩ := H2.out.onDisk hto
          have H3 := Lib.hid h3
          have HC3 : Hid (Chg (· ∈ lfoot lg (.slice (some ⟨vb, vo, none⟩) L.files.length vc) B) w w3) := Lib.hid (by
            refine HH.out.2.2.2.1.trans ((Chg.of_ext HX.out).trans (hc3) (fun _ _ e => e)) (fun b hb e => ?_)
            rcases HH.out.2.2.2.2 b e with e | e
            · exact e
            · omega)
          have HF3 : Hid (∀ b ∈ B3, b ∈ lfoot lg (.slice (some ⟨vb, vo, none⟩) L.files.length vc) B ∨ w.heap.size ≤ b) := Lib.hid (fun b hb => by
            rcases hf3 b hb with e | e
            · exact HH.out.2.2.2.2 b e
            · exact .inr (Nat.le_trans (Nat.le_trans HH.out.2.2.2.1.size HX.out.size) e))
          clear hto h3 hc3 hf3
          go_wp2_with fail
          refine thenX_last (wpPlan_one ?_)
          simp only [pickOps, List.getElem?_cons_succ, List.getElem?_cons_zero]
          go_wp2_with fail
          refine thenX_last (wpPlan_done ?_)
          rcases Classical.em (y1 = 0) with hy0 | hy0
          · subst hy0
            have e2 := cell_of_block H3.out.box 2
            have z2 := free_of_block H3.out.box 2
            simp only [List.getElem?_toArray] at e2
            rw [← hm] at e2
            have hsl := run_slice_lo (P := Tryd.prog) Tryd.underlying33 sz_int (some ⟨vb, vo + i, none⟩) m (vc - i) 1 (by omega)
            rw [drop_at (by omega)] at hsl
            have HB2 := Lib.hid (setCell_block H3.out.box (i := 2) (.slice (some ⟨vb, vo + i + 1, none⟩) (L.files.length - i - 1) (vc - i - 1)))
            go_wp2_with fail
            have hbx : (w3.setCell ⟨lg, 2, none⟩ (.slice (some ⟨vb, vo + i + 1, none⟩) (L.files.length - i - 1) (vc - i - 1))).heap[lg]? = some (.cells #[.pointer (some ⟨d, 0, none⟩), .int .i64 L.limit, .slice (some ⟨vb, vo + (i + 1), none⟩) (L.files.length - (i + 1)) (vc - (i + 1)), .int .i64 (L.size : Int), .int .i64 (L.next : Int), .bool L.dirty, .bool L.bad] 53 (0, 0)) := by
              rw [HB2.out, show L.files.length - i - 1 = L.files.length - (i + 1) by omega, show vc - i - 1 = vc - (i + 1) by omega, Nat.add_assoc]
              simp
            have HBX3 := Lib.hid hbx
            clear hbx
            go_roundw
            case rel =>
              refine ⟨i + 1, S1, B3, hlt, Lib.hid ⟨⟨HBX3.out, H3.out.row.chg (setCell_chg _ _ _ _) (fun g hg e => (H3.out.own g hg).2 e), H3.out.disk.chg (setCell_chg _ _ _ _) (fun b hb e => H3.out.nb (by rw [← e]; exact hb)), H3.out.nb, H3.out.own⟩, HID.out.mono (by omega), ?_, ?_, HF3.out⟩⟩
              · rw [HH.out.2.2.1, HDG.out, if_pos hyn, if_neg (by simp)]
              · exact HC3.out.trans ((setCell_chg _ _ _ _).mono (fun j _ e => by rw [e]; exact lfoot_lg _ _ _)) (fun _ _ e => e)
            case measure =>
              rw [HFN.out]
              unfold filesN
              rw [cell_of_block HBX3.out 2]
              simp [sliceN]
              omega
          · have hy0b : (y1 == 0) = false := by simpa using hy0
            go_wp2_with fail
            go_ret
            rw [HH.out.2.2.1, HDG.out, if_pos hyn, if_pos hy0]
            exact ⟨rfl, H3.out.to HC3.out HF3.out⟩
        · clear cx
          go_wp2_with fail
          go_ret
          rw [HH.out.2.2.1, HDG.out, if_neg (by omega)]
          exact ⟨rfl, HH.out.1.to HH.out.2.2.2.1 HH.out.2.2.2.2⟩
      · have HDG := Lib.hid (dropGo_one (n := n) (l := L.files) (S := S') (i := i) (by omega))
        obtain ⟨m, hm⟩ : ∃ m, m = L.files.length - i := ⟨_, rfl⟩
        rw [← hm] at c2
        have h1 : ¬ (1 : Int) < (m : Int) := by omega
        go_wp2_with fail
        go_ret
        rw [HH.out.2.2.1, HDG.out]
        exact ⟨rfl, HH.out.1.to HH.out.2.2.2.1 HH.out.2.2.2.2⟩
end Go.Proofs.YtfablbhkmddnbaaDoor

/-! Plain: WalDrops: a log each of whose records has its own file. -/

namespace Go.Proofs.YtfablbhkmddnbaaDoor
open Go.RowKit Go.Sort Go.Lib

theorem nameW_inj {i j : Nat} (hi : i < 1000) (hj : j < 1000) (h : nameW i = nameW j) : i = j := by
  have h1 := numL_name (n := i) (by omega)
  have h2 := numL_name (n := j) (by omega)
  have h3 : nameL i = nameL j := congrArg bl h
  rw [h3, h2] at h1
  exact (Option.some.inj h1).symm
theorem aget_last {β : Type} {m : List (ByteArray × β)} {k : ByteArray} {v : β} (h : aget m k = none) : aget (m ++ [(k, v)]) k = some v := by
  rw [← aput_new v h]; exact aget_put_same _ _ _
theorem aput_last {β : Type} {k : ByteArray} {v v' : β} : ∀ {m : List (ByteArray × β)}, aget m k = none → aput (m ++ [(k, v)]) k v' = m ++ [(k, v')]
  | [], _ => by simp [aput]
  | (k0, v0) :: m, h => by
    by_cases e : k0 = k
    · subst e; simp [aget] at h
    · have e' : ¬ k = k0 := fun x => e x.symm
      have h' : aget m k = none := by simpa [aget, e, e'] using h
      simp [aput, e, e', aput_last h']
/-- A record's own file, synced. -/
def recF (j : Nat) (r : List UInt8) : ByteArray × FileS := (nameW j, ⟨recL r, (recL r).length, true⟩)
def filesS (rs : List (List UInt8)) : List (ByteArray × FileS) := rs.zipIdx.map fun p => recF p.2 p.1
theorem filesS_snoc (rs : List (List UInt8)) (r : List UInt8) : filesS (rs ++ [r]) = filesS rs ++ [recF rs.length r] := by simp [filesS, List.zipIdx_append]
theorem filesS_len (rs : List (List UInt8)) : (filesS rs).length = rs.length := by simp [filesS]
theorem filesS_mem {rs : List (List UInt8)} {p : ByteArray × FileS} (h : p ∈ filesS rs) : ∃ j r, rs[j]? = some r ∧ p = recF j r := by
  obtain ⟨⟨r, j⟩, h1, rfl⟩ := List.mem_map.1 h
  exact ⟨j, r, by simpa using List.mem_zipIdx_iff_getElem?.1 h1, rfl⟩
theorem filesS_none {rs : List (List UInt8)} {k : Nat} (h : rs.length ≤ k) (hk : k < 1000) : aget (filesS rs) (nameW k) = none := by
  refine aget_none_iff.2 fun hm => ?_
  obtain ⟨p, hp, e⟩ := List.mem_map.1 hm
  obtain ⟨j, r, h1, rfl⟩ := filesS_mem hp
  have hj := (List.getElem?_eq_some_iff.1 h1).1
  have := nameW_inj (by omega) hk e
  omega
/-- The log and its disk. -/
def LD (rs : List (List UInt8)) : LogS := ⟨1, List.range rs.length, ((rs.getLast?.map fun r => (recL r).length).getD 0), rs.length, decide (rs ≠ []), false⟩
def SD (room : Int) (qs : List (List UInt8)) (q : List UInt8) : DiskS := ⟨filesS qs ++ [(nameW qs.length, ⟨recL q, 0, false⟩)], room, ((b1 (qs ++ [q])).length : Nat), -1, (2 * qs.length + 1 : Nat)⟩
theorem add_first {room : Int} {r : List UInt8} (hr : r.length ≤ 65536) (hroom : ((r.length + 22 : Nat) : Int) ≤ room) : addW (log0 1) (newDisk room) r = (0, LD [r], SD room [] r) := by
  have hrl := recL_len r
  unfold addW
  rw [if_neg (by simp [log0]), if_neg (by omega), if_pos (by simp [log0])]
  unfold putW
  have ha : (newDisk room).append (nameW (log0 1).next) (recL r) = (0, ⟨[(nameW 0, ⟨recL r, 0, false⟩)], room, ((recL r).length : Nat), -1, 0 + 1⟩) := append_first' (n := 0) (by omega) (by omega)
  rw [ha, if_neg (by simp)]
  simp [LD, SD, b1, log0, filesS]
theorem S_sync {room u o : Int} {qs : List (List UInt8)} {q : List UInt8} (hq : qs.length < 1000) : (⟨filesS qs ++ [(nameW qs.length, ⟨recL q, 0, false⟩)], room, u, -1, o⟩ : DiskS).sync (nameW qs.length) = (0, ⟨filesS (qs ++ [q]), room, u, -1, o + 1⟩) := by
  have hn := filesS_none (rs := qs) (Nat.le_refl _) hq
  unfold DiskS.sync DiskS.onFile DiskS.doing DiskS.synced
  simp only [stops_name, aget_last hn, aput_last hn, filesS_snoc, recF, DiskS.count]
  simp
theorem append_file {room u o : Int} {F : List (ByteArray × FileS)} {n : Nat} {bl : List UInt8} (hF : F.length < 512) (hn : aget F (nameW n) = none) (h : (bl.length : Int) ≤ room - u) (hb : bl.length ≤ 1048576) : (⟨F, room, u, -1, o⟩ : DiskS).append (nameW n) bl = (0, ⟨F ++ [(nameW n, ⟨bl, 0, false⟩)], room, u + (bl.length : Nat), -1, o + 1⟩) := by
  have hp : (⟨F, room, u, -1, o⟩ : DiskS).put (nameW n) bl = (0, ⟨F ++ [(nameW n, ⟨bl, 0, false⟩)], room, u + (bl.length : Nat), -1, o⟩) := by
    unfold DiskS.put
    rw [if_neg (by simp only; omega), show aget ((⟨F, room, u, -1, o⟩ : DiskS).files) (nameW n) = none from hn]
    simp only
    rw [if_neg (by omega), aput_new _ hn]
  unfold DiskS.append DiskS.doing
  rw [hp]
  simp [stops_name, DiskS.count]
theorem LD_last (qs : List (List UInt8)) (q : List UInt8) : lastN (LD (qs ++ [q])) = qs.length := by
  simp [lastN, LD, List.range_succ]
theorem add_next {room : Int} {qs : List (List UInt8)} {q r : List UInt8} (hqs : qs.length < 500) (hr : r.length ≤ 65536) (hroom : (((b1 (qs ++ [q])).length + r.length + 22 : Nat) : Int) ≤ room) :
    addW (LD (qs ++ [q])) (SD room qs q) r = (0, LD (qs ++ [q] ++ [r]), SD room (qs ++ [q]) r) := by
  have hrl := recL_len r
  have hql := recL_len q
  have hsy : syncW (LD (qs ++ [q])) (SD room qs q) = (0, { LD (qs ++ [q]) with bad := false, dirty := false }, ⟨filesS (qs ++ [q]), room, ((b1 (qs ++ [q])).length : Nat), -1, ((2 * qs.length + 1 : Nat) : Int) + 1⟩) := by
    unfold syncW
    rw [if_neg (by simp [LD]), if_neg (by simp [LD]), LD_last]
    have : (SD room qs q).sync (nameW qs.length) = _ := S_sync (by omega)
    rw [this]
    simp
  have hn := filesS_none (rs := qs ++ [q]) (k := (qs ++ [q]).length) (Nat.le_refl _) (by simp; omega)
  have hsz : (LD (qs ++ [q])).limit ≤ ((LD (qs ++ [q])).size : Int) := by simp [LD]; omega
  unfold addW
  rw [if_neg (by simp [LD]), if_neg (by omega), if_neg (by simp [LD]), if_pos hsz, hsy]
  simp only
  rw [if_neg (by simp)]
  unfold putW
  have ha := append_file (room := room) (u := ((b1 (qs ++ [q])).length : Nat)) (o := ((2 * qs.length + 1 : Nat) : Int) + 1) (F := filesS (qs ++ [q])) (n := (qs ++ [q]).length) (bl := recL r) (by rw [filesS_len]; simp; omega) hn (by omega) (by omega)
  rw [show (LD (qs ++ [q])).next = (qs ++ [q]).length from rfl, ha, if_neg (by simp)]
  simp [LD, SD, b1_snoc, List.range_succ]
  have h1 : b1 (qs ++ [q, r]) = b1 qs ++ (recL q ++ recL r) := by rw [b1_app]; simp [b1]
  rw [h1]
  simp only [List.length_append]
  constructor <;> omega
/-! The names, in order. -/
theorem nameL_le : ∀ i : Fin 64, ∀ j : Fin 64, i ≤ j → nameL i.val ≤ nameL j.val := by decide +kernel
theorem names_sorted {a k : Nat} (hk : a + k ≤ 64) : sortS ((List.range' a k).map nameW) = (List.range' a k).map nameW := by
  refine sorted_unique (sortS_perm _) (sortS_sorted _) ?_
  rw [List.pairwise_map]
  refine (List.pairwise_lt_range' (s := a) (n := k)).imp_of_mem fun {x y} hx hy hxy => ?_
  have h1 := List.mem_range'_1.1 hx
  have h2 := List.mem_range'_1.1 hy
  exact nameL_le ⟨x, by omega⟩ ⟨y, by omega⟩ (by show x ≤ y; omega)
/-! Many files, one record each, are opened. -/
def eachL (L : LogS) : Nat → List (List UInt8) → LogS
  | _, [] => L
  | a, r :: rs => eachL { L with files := L.files ++ [a], size := (recL r).length, next := a + 1 } (a + 1) rs
theorem eachW_one {r : List UInt8} (hr : r.length ≤ 65536) : eachW (recL r).length 0 (recL r) = ([r], .done) := by
  have := eachW_whole [r] (fun x hx => by simp at hx; subst hx; exact hr)
  simpa using this
theorem fileW_one {L : LogS} {S : DiskS} {a : Nat} {r : List UInt8} {last : Bool} (ha : a < 1000) (hr : r.length ≤ 65536) (hL : L.files ≠ [] → L.next = a) (hb : bytesOf S (nameW a) = recL r) :
    fileW L S (nameW a) last = ⟨0, { L with files := L.files ++ [a], size := (recL r).length, next := a + 1 }, S, [r]⟩ := by
  unfold fileW
  rw [show numL (bl (nameW a)) = some a from numL_name (by omega)]
  simp only
  rw [if_neg (fun h => h.2 (hL h.1).symm), hb, eachW_one hr]
  simp [fileEnd]
theorem openGo_each {S : DiskS} : ∀ (rs : List (List UInt8)) (a : Nat) (L : LogS) (acc : List (List UInt8)), a + rs.length ≤ 64 → (∀ r ∈ rs, r.length ≤ 65536) → (L.files ≠ [] → L.next = a) → (∀ j r, rs[j]? = some r → bytesOf S (nameW (a + j)) = recL r) →
    openGo ((List.range' a rs.length).map nameW) L S acc = ⟨0, eachL L a rs, S, acc ++ rs⟩
  | [], _, _, _, _, _, _, _ => by simp [openGo, eachL]
  | r :: rs, a, L, acc, h1, h2, h3, h4 => by
    have hb : bytesOf S (nameW a) = recL r := h4 0 r rfl
    simp only [List.length_cons] at h1
    have hf : ∀ last, fileW L S (nameW a) last = _ := fun last => fileW_one (last := last) (by omega) (h2 r List.mem_cons_self) h3 hb
    have ih := openGo_each (S := S) rs (a + 1) { L with files := L.files ++ [a], size := (recL r).length, next := a + 1 } (acc ++ [r]) (by omega) (fun x hx => h2 x (List.mem_cons_of_mem _ hx)) (fun _ => rfl) (fun j x hj => by rw [Nat.add_assoc, Nat.add_comm 1 j]; exact h4 (j + 1) x (by simpa using hj))
    rw [List.length_cons, List.range'_succ, List.map_cons, openGo, hf, if_neg (by simp)]
    simp only
    rw [ih, eachL, List.append_assoc]
    rfl
/-! Drop. -/
theorem del_head {G : List (ByteArray × FileS)} {i : Nat} {f : FileS} {room u o : Int} (h : G[i]? = some (nameW i, f)) : (⟨G.drop i, room, u, -1, o⟩ : DiskS).delete (nameW i) = (0, ⟨G.drop (i + 1), room, u - f.bytes.length, -1, o + 1⟩) := by
  obtain ⟨h1, h2⟩ := List.getElem?_eq_some_iff.1 h
  rw [List.drop_eq_getElem_cons h1, h2]
  unfold DiskS.delete DiskS.onFile DiskS.doing DiskS.drop
  simp [stops_name, aget, adel, DiskS.count]
theorem drop_all {G : List (ByteArray × FileS)} {room : Int} {k m : Nat} {n : Int} (hG : ∀ j, j < k → ∃ f, G[j]? = some (nameW j, f)) (hm : (m : Int) ≤ n ∨ m = 0) (hmk : m < k) (hs : m + 1 < k → n < (m : Int) + 1) :
    ∀ (c i : Nat) (u o : Int), i + c = m → ∃ u', dropGo n ((List.range k).drop i) (⟨G.drop i, room, u, -1, o⟩ : DiskS) = (0, (List.range k).drop m, ⟨G.drop m, room, u', -1, o + c⟩)
  | 0, i, u, o, h => by
    obtain rfl : i = m := by omega
    refine ⟨u, ?_⟩
    rcases Nat.lt_or_ge (i + 1) k with hlt | hge
    · rw [dropGo_step (x := i) (y := i + 1) (List.getElem?_range (by omega)) (List.getElem?_range hlt), if_neg (by have := hs hlt; push_cast; omega)]
      simp
    · rw [dropGo_one (by simp; omega)]
      simp
  | c + 1, i, u, o, h => by
    obtain ⟨f, hf⟩ := hG i (by omega)
    obtain ⟨u', ih⟩ := drop_all hG hm hmk hs c (i + 1) (u - f.bytes.length) (o + 1) (by omega)
    refine ⟨u', ?_⟩
    rw [dropGo_step (x := i) (y := i + 1) (List.getElem?_range (by omega)) (List.getElem?_range (by omega)), if_pos (by omega), del_head hf, if_neg (by simp), ih]
    simp
    omega
theorem eachL_is : ∀ (rs : List (List UInt8)) (a : Nat) (L : LogS), (eachL L a rs).files = L.files ++ List.range' a rs.length
  | [], a, L => by simp [eachL]
  | r :: rs, a, L => by
    rw [eachL, eachL_is rs (a + 1), List.length_cons, List.range'_succ]
    simp
theorem has_w (n : Nat) : Lib.hasPrefix (bl (nameW n)) (bl fW) = true := by
  simp [Lib.hasPrefix, nameW, nameL, fW, bl, lb]
/-- All files' names. -/
theorem list_names {F : List (ByteArray × FileS)} {a k : Nat} {room u l o : Int} (hF : F.map (·.1) = (List.range' a k).map nameW) (hk : a + k ≤ 64) : (⟨F, room, u, l, o⟩ : DiskS).list fW = (List.range' a k).map nameW := by
  have hn : (⟨F, room, u, l, o⟩ : DiskS).names fW = (List.range' a k).map nameW := by
    unfold DiskS.names
    simp only [hF]
    refine List.filter_eq_self.2 fun x hx => ?_
    obtain ⟨n, _, rfl⟩ := List.mem_map.1 hx
    exact has_w n
  unfold DiskS.list
  rw [hn, names_sorted hk]
theorem filesS_names (rs : List (List UInt8)) : (filesS rs).map (·.1) = (List.range' 0 rs.length).map nameW := by
  unfold filesS
  rw [List.map_map]
  rw [← List.range_eq_range']
  refine List.ext_getElem? fun j => ?_
  rw [List.getElem?_map, List.getElem?_map, List.getElem?_zipIdx]
  rcases Nat.lt_or_ge j rs.length with h | h
  · rw [List.getElem?_eq_getElem h, List.getElem?_range h]; simp [recF]
  · rw [List.getElem?_eq_none h, List.getElem?_eq_none (by simpa using h)]; rfl
theorem names_nodup {a k : Nat} (hk : a + k ≤ 64) : ((List.range' a k).map nameW).Nodup := by
  rw [List.nodup_iff_pairwise_ne, List.pairwise_map]
  refine (List.pairwise_lt_range' (s := a) (n := k)).imp_of_mem fun {x y} hx hy hxy e => ?_
  have h1 := List.mem_range'_1.1 hx
  have h2 := List.mem_range'_1.1 hy
  have := nameW_inj (by omega) (by omega) e
  omega
/-- The files of the disk, and what they hold. -/
def filesG (qs : List (List UInt8)) (q : List UInt8) : List (ByteArray × FileS) := filesS qs ++ [(nameW qs.length, ⟨recL q, 0, false⟩)]
theorem filesG_names (qs : List (List UInt8)) (q : List UInt8) : (filesG qs q).map (·.1) = (List.range' 0 (qs ++ [q]).length).map nameW := by
  rw [filesG, List.map_append, filesS_names, List.length_append, List.length_singleton, ← List.range_eq_range', ← List.range_eq_range', List.range_succ]
  simp
theorem filesG_get {qs : List (List UInt8)} {q : List UInt8} {j : Nat} {r : List UInt8} (h : (qs ++ [q])[j]? = some r) : ∃ f : FileS, (filesG qs q)[j]? = some (nameW j, f) ∧ f.bytes = recL r := by
  have hl := (List.getElem?_eq_some_iff.1 h).1
  rw [List.length_append, List.length_singleton] at hl
  rcases Nat.lt_or_ge j qs.length with hj | hj
  · rw [List.getElem?_append_left hj] at h
    refine ⟨⟨recL r, (recL r).length, true⟩, ?_, rfl⟩
    rw [filesG, List.getElem?_append_left (by rw [filesS_len]; exact hj)]
    unfold filesS
    rw [List.getElem?_map, List.getElem?_zipIdx, h]
    simp [recF]
  · obtain rfl : j = qs.length := by omega
    rw [List.getElem?_append_right (Nat.le_refl _)] at h
    simp at h
    subst h
    refine ⟨⟨recL q, 0, false⟩, ?_, rfl⟩
    rw [filesG, List.getElem?_append_right (by rw [filesS_len]; exact Nat.le_refl _), filesS_len]
    simp
theorem bytes_drop {qs : List (List UInt8)} {q : List UInt8} {m j : Nat} {r : List UInt8} {room u l o : Int} (hk : (qs ++ [q]).length ≤ 64) (h : ((qs ++ [q]).drop m)[j]? = some r) : bytesOf (⟨(filesG qs q).drop m, room, u, l, o⟩ : DiskS) (nameW (m + j)) = recL r := by
  rw [List.getElem?_drop] at h
  obtain ⟨f, h1, h2⟩ := filesG_get h
  have hnd : (((filesG qs q).drop m).map (·.1)).Nodup := by
    rw [List.map_drop, filesG_names]
    exact (names_nodup (by omega)).sublist (List.drop_sublist _ _)
  have hmem : (nameW (m + j), f) ∈ (filesG qs q).drop m := List.mem_of_getElem? (i := j) (by rw [List.getElem?_drop]; exact h1)
  unfold bytesOf
  rw [show aget ((⟨(filesG qs q).drop m, room, u, l, o⟩ : DiskS).files) (nameW (m + j)) = some f from aget_of_mem hnd hmem]
  exact h2
/-- What is opened behind a Drop. -/
theorem open_dropped {qs : List (List UInt8)} {q : List UInt8} {m : Nat} {room u o : Int} (hk : (qs ++ [q]).length ≤ 64) (hr : ∀ r ∈ qs ++ [q], r.length ≤ 65536) (hm : m ≤ (qs ++ [q]).length) :
    openW (⟨(filesG qs q).drop m, room, u, -1, o⟩ : DiskS) 1 = ⟨0, eachL (log0 1) m ((qs ++ [q]).drop m), ⟨(filesG qs q).drop m, room, u, -1, o⟩, (qs ++ [q]).drop m⟩ := by
  have hl : ((qs ++ [q]).drop m).length = (qs ++ [q]).length - m := List.length_drop
  have hn : ((filesG qs q).drop m).map (·.1) = (List.range' m ((qs ++ [q]).drop m).length).map nameW := by
    rw [List.map_drop, filesG_names, ← List.map_drop, List.drop_range', hl]
    simp
  unfold openW
  rw [list_names hn (by rw [hl]; omega)]
  have := openGo_each (S := (⟨(filesG qs q).drop m, room, u, -1, o⟩ : DiskS)) ((qs ++ [q]).drop m) m (log0 1) [] (by rw [hl]; omega) (fun r h => hr r (List.mem_of_mem_drop h)) (fun h => absurd rfl h) (fun j r h => bytes_drop hk h)
  rw [this, List.nil_append]
/-- The disk of any number of records. -/
def SM (room : Int) (rs : List (List UInt8)) : DiskS := match rs.getLast? with
  | none => newDisk room
  | some q => SD room rs.dropLast q
theorem SM_snoc (room : Int) (qs : List (List UInt8)) (q : List UInt8) : SM room (qs ++ [q]) = SD room qs q := by
  unfold SM
  rw [List.getLast?_concat, List.dropLast_concat]
theorem LD_nil : LD [] = log0 1 := rfl
theorem add_many {room : Int} {rs : List (List UInt8)} {r : List UInt8} (hrs : rs.length < 500) (hr : r.length ≤ 65536) (hroom : (((b1 rs).length + r.length + 22 : Nat) : Int) ≤ room) : addW (LD rs) (SM room rs) r = (0, LD (rs ++ [r]), SM room (rs ++ [r])) := by
  rw [SM_snoc]
  rcases List.eq_nil_or_concat rs with rfl | ⟨qs, q, rfl⟩
  · exact add_first hr (by simpa [b1] using hroom)
  · rw [List.concat_eq_append] at hrs hroom ⊢
    rw [SM_snoc]
    exact add_next (by simp at hrs; omega) hr hroom
end Go.Proofs.YtfablbhkmddnbaaDoor

/-! The log behind a Drop: none, Next, First. -/

namespace Go.Proofs.YtfablbhkmddnbaaDoor
open Go.RowKit Go.Sort Go.Lib

section
variable {w : World} {lg d n c : Nat} {a : Option Addr} {lim sz nx : Int} {di ba : Bool}
theorem boxnone_any (h : w.heap[lg]? = some (.cells #[.pointer (some ⟨d, 0, none⟩), .int .i64 lim, .slice a n c, .int .i64 sz, .int .i64 nx, .bool di, .bool ba] 53 (0, 0))) :
    Calls Tryd.prog 22 #[.pointer (some ⟨lg, 0, none⟩)] w fun e w' => e = .returned (.bool false) ∧ w = w' := by
  have c0 := cell_of_block h 0
  clear h
  simp only [List.getElem?_toArray, List.getElem?_cons_zero] at c0
  go_enter Tryd.func22, Tryd.ntmps22
  go_wp2_with fail
  go_ret
  exact ⟨rfl, rfl⟩
theorem boxnext_any (h : w.heap[lg]? = some (.cells #[.pointer (some ⟨d, 0, none⟩), .int .i64 lim, .slice a n c, .int .i64 sz, .int .i64 nx, .bool di, .bool ba] 53 (0, 0))) :
    Calls Tryd.prog 13 #[.pointer (some ⟨lg, 0, none⟩)] w fun e w' => e = .returned (.int .i64 nx) ∧ w = w' := by
  have H := Lib.hid h
  have c4 := cell_of_block h 4
  clear h
  simp only [List.getElem?_toArray] at c4
  go_enter Tryd.func13, Tryd.ntmps13
  go_wp2_with fail
  refine (boxnone_any H.out).mono ?_
  rintro e w' ⟨rfl, rfl⟩
  go_wp2_with fail
  go_ret
  exact ⟨rfl, rfl⟩
theorem boxfirst_any {l : List Nat} {x : Nat} (h : w.heap[lg]? = some (.cells #[.pointer (some ⟨d, 0, none⟩), .int .i64 lim, .slice a n c, .int .i64 sz, .int .i64 nx, .bool di, .bool ba] 53 (0, 0))) (hs : Src w 1 (.slice a n c) n (nts l)) (hx : l[0]? = some x) (hn : 0 < n) :
    Calls Tryd.prog 17 #[.pointer (some ⟨lg, 0, none⟩)] w fun e w' => e = .returned (.int .i64 (x : Int)) ∧ w = w' := by
  have H := Lib.hid h
  obtain ⟨fb, fo, y, rfl, hy, cx⟩ := nts_src hs hn
  have c2 := cell_of_block h 2
  obtain rfl : y = x := by rw [hx] at hy; exact (Option.some.inj hy).symm
  clear h hs hx hy
  simp only [List.getElem?_toArray] at c2
  rw [Nat.add_zero] at cx
  have hne : ((n : Int) == 0) = false := by simp; omega
  go_enter Tryd.func17, Tryd.ntmps17
  go_wp2_with fail
  refine (boxnone_any H.out).mono ?_
  rintro e w' ⟨rfl, rfl⟩
  go_wp2_with fail
  go_ret
  exact ⟨rfl, rfl⟩
end
end Go.Proofs.YtfablbhkmddnbaaDoor
