/- The taker of words: word, number, of. -/
import Derived.Test.YtfndeocebpoeeaaDoorQbm
import Derived.Test.YtfndeocebpoeeaaDoorStr
import Derived.Test.YtfndeocebpoeeaaDoorCut
import Derived.Test.YtfndeocebpoeeaaDoorPlan
import Derived.Test.YtfndeocebpoeeaaDoorShelf
import Derived.Lib.LaidTab
import Derived.Lib.SmallJoins
namespace Go.Proofs.YtfndeocebpoeeaaDoor
open Go.RowKit Go.Sort Go.Lib
open Go.Joins (below_bytesWorld)

theorem p10_globT : Tryd.prog.globalNamed "internal/strconv.uint64pow10" = some 0 := by kernel_rfl
/-- What Go's library's variables hold. -/
structure HasLib (w : World) : Prop where
  tab : Lib.TabIs Tryd.prog w "internal/strconv.uint64pow10" .u64 Lib.pow10Tab
  max : ∃ m, w.cell? ⟨1, 0, none⟩ = some (.int .i64 m)
  syn : ∃ te pe, w.cell? ⟨2, 0, none⟩ = some (.iface te pe)
  rng : ∃ te pe, w.cell? ⟨3, 0, none⟩ = some (.iface te pe)
theorem tabT_ext {w w' : World} (h : Lib.TabIs Tryd.prog w "internal/strconv.uint64pow10" .u64 Lib.pow10Tab) (hb : ∀ g, g = 0 → g < w.heap.size → w'.heap[g]? = w.heap[g]?) : Lib.TabIs Tryd.prog w' "internal/strconv.uint64pow10" .u64 Lib.pow10Tab := by
  unfold Lib.TabIs World.var? at h ⊢
  rw [p10_globT] at h ⊢
  simp only [Option.bind_some] at h ⊢
  have hlt : 0 < w.heap.size := by
    rcases Nat.lt_or_ge 0 w.heap.size with h' | h'
    · exact h'
    · rw [Array.getElem?_eq_none h'] at h; cases h
  rw [hb _ rfl hlt]
  exact h
/-- The library's variables are none of the blocks of S. -/
def NoLib (S : Nat → Prop) : Prop := ¬ S 0 ∧ ¬ S 1 ∧ ¬ S 2 ∧ ¬ S 3
theorem HasLib.chg {w w' : World} {S : Nat → Prop} (h : HasLib w) (hc : Chg S w w') (hn : NoLib S) : HasLib w' := by
  obtain ⟨m, hm⟩ := h.max
  obtain ⟨te, pe, hs⟩ := h.syn
  obtain ⟨te2, pe2, hr⟩ := h.rng
  refine ⟨tabT_ext h.tab (fun g hg hlt => hc.block g hlt (by rw [hg]; exact hn.1)), ⟨m, ?_⟩, ⟨te, pe, ?_⟩, ⟨te2, pe2, ?_⟩⟩
  · exact (hc.cell (p := ⟨1, 0, none⟩) (World.block_lt_of_cell? w _ hm) hn.2.1).trans hm
  · exact (hc.cell (p := ⟨2, 0, none⟩) (World.block_lt_of_cell? w _ hs) hn.2.2.1).trans hs
  · exact (hc.cell (p := ⟨3, 0, none⟩) (World.block_lt_of_cell? w _ hr) hn.2.2.2).trans hr
theorem HasLib.ext {w w' : World} (h : HasLib w) (hx : Ext w w') : HasLib w' := h.chg (Chg.of_ext (S := fun _ => False) hx) ⟨id, id, id, id⟩
theorem HasLib.lt {w : World} (h : HasLib w) : 0 < w.heap.size ∧ 1 < w.heap.size ∧ 2 < w.heap.size ∧ 3 < w.heap.size := by
  obtain ⟨m, hm⟩ := h.max
  obtain ⟨te, pe, hs⟩ := h.syn
  obtain ⟨te2, pe2, hr⟩ := h.rng
  refine ⟨?_, World.block_lt_of_cell? w _ hm, World.block_lt_of_cell? w _ hs, World.block_lt_of_cell? w _ hr⟩
  have ht := h.tab
  unfold Lib.TabIs World.var? at ht
  rw [p10_globT] at ht
  simp only [Option.bind_some] at ht
  rcases Nat.lt_or_ge 0 w.heap.size with h' | h'
  · exact h'
  · rw [Array.getElem?_eq_none h'] at ht; cases ht
theorem HasLib.no {w : World} (h : HasLib w) {S : Nat → Prop} (hS : ∀ b, S b → w.heap.size ≤ b) : NoLib S := by
  have := h.lt
  exact ⟨fun e => by have := hS _ e; omega, fun e => by have := hS _ e; omega, fun e => by have := hS _ e; omega, fun e => by have := hS _ e; omega⟩

theorem itoa_any {w : World} (h : HasLib w) (n : Int) (h0 : -9223372036854775808 ≤ n) (h1 : n ≤ 9223372036854775807) :
    Calls Tryd.prog 8 #[.int .i64 n] w fun e w' => e = .returned (.string (num n)) ∧ Ext w w' :=
  (Tryd.strconv_Itoa n h0 h1 w h.tab).mono (fun _ _ ⟨q1, k, os, q2⟩ => ⟨q1, by rw [q2]; exact Ext.regrown w (w.drawn + k) os⟩)
/-- Atoi, of any word: the number, and whether it is one. -/
theorem atoi_any {w : World} (h : HasLib w) (s : ByteArray) (hs : s.size ≤ 281474976710656) :
    Calls Tryd.prog 27 #[.string s] w fun e w' => (∃ v, Lib.atoiAll s.data.toList = .ok v ∧ e = .returned (.tuple #[.int .i64 v, .nilIface]) ∧ Ext w w') ∨ (numP s = none ∧ ∃ v t x, e = .returned (.tuple #[.int .i64 v, .iface t x]) ∧ Ext w w') := by
  obtain ⟨te, pe, hsy⟩ := h.syn
  obtain ⟨te2, pe2, hr⟩ := h.rng
  rcases ha : Lib.atoiAll s.data.toList with v | _ | _
  · refine (Tryd.strconv_Atoi_ok s (by omega) v ha w).mono fun e w' hh => .inl ⟨v, rfl, hh.1, ?_⟩
    rcases hh.2 with e | ⟨t, e⟩
    · rw [e]; exact Ext.refl _
    · rw [e]; exact below_bytesWorld _ _ _ _ (Nat.le_refl _)
  · refine (Tryd.strconv_Atoi_syntax s hs ha _ w hsy (.inr ⟨te, pe, rfl⟩)).mono fun e w' hh => ?_
    obtain ⟨N, h1, -, -, h4⟩ := hh
    exact .inr ⟨by unfold numP; rw [ha], _, _, _, h1, h4⟩
  · refine (Tryd.strconv_Atoi_range s hs ha _ w hr (.inr ⟨te2, pe2, rfl⟩)).mono fun e w' hh => ?_
    obtain ⟨N, h1, -, -, h4⟩ := hh
    exact .inr ⟨by unfold numP; rw [ha], _, _, _, h1, h4⟩

theorem same_eqQ (a b : ByteArray) : (a.toList == b.toList) = decide (a = b) := by
  rw [← beq_toListBytes, bytes_beq]
theorem numP_ok {s : ByteArray} {v : Int} (hv : Lib.atoiAll s.data.toList = .ok v) : numP s = if num v = s then some v else none := by
  unfold numP
  rw [hv]
  by_cases h : num v = s
  · have : Lib.itoa v = s.data.toList := by rw [← h, num_data]
    simp [this, h]
  · have : ¬ Lib.itoa v = s.data.toList := fun e => h (by unfold num; rw [e])
    simp [this, h]
/-- A taker: the words that are left, and whether one was bad. -/
structure TkAt (w : World) (tk sb : Nat) (l : List ByteArray) (bad : Bool) : Prop where
  ex : ∃ a c, w.heap[tk]? = some (.cells #[.slice a l.length c, .bool bad] 42 (0, 0)) ∧ Src w 1 (.slice a l.length c) l.length (strs l) ∧ (∀ g, (Value.slice a l.length c).ownBlock = some g → g = sb) ∧ l.length ≤ c
  ne : sb ≠ tk
  sm : ∀ s ∈ l, s.size ≤ 281474976710656
theorem TkAt.lt {w : World} {tk sb : Nat} {l : List ByteArray} {bad : Bool} (h : TkAt w tk sb l bad) : tk < w.heap.size := by
  obtain ⟨a, c, h1, -⟩ := h.ex
  exact block_lt h1
theorem TkAt.ext {w w' : World} {tk sb : Nat} {l : List ByteArray} {bad : Bool} (h : TkAt w tk sb l bad) (hx : Ext w w') : TkAt w' tk sb l bad := by
  obtain ⟨a, c, h1, h2, h3⟩ := h.ex
  exact ⟨⟨a, c, (hx.block (block_lt h1)).trans h1, h2.ext hx, h3⟩, h.ne, h.sm⟩
theorem TkAt.flag {w : World} {tk sb : Nat} {l : List ByteArray} {bad b2 : Bool} (h : TkAt w tk sb l bad) : TkAt (w.setCell ⟨tk, 1, none⟩ (.bool b2)) tk sb l b2 := by
  obtain ⟨a, c, h1, h2, h3, h4⟩ := h.ex
  refine ⟨⟨a, c, ?_, h2.chg (setCell_chg _ _ _ _) (fun g hg e => h.ne ((h3 g hg).symm.trans e)), h3, h4⟩, h.ne, h.sm⟩
  rw [setCell_block h1]
  simp
theorem TkAt.chg {w w' : World} {tk sb : Nat} {l : List ByteArray} {bad : Bool} {S : Nat → Prop} (h : TkAt w tk sb l bad) (hc : Chg S w w') (h1 : ¬ S tk) (h2 : ¬ S sb) : TkAt w' tk sb l bad := by
  obtain ⟨a, c, e1, e2, e3, e4⟩ := h.ex
  exact ⟨⟨a, c, (hc.block tk (block_lt e1) h1).trans e1, e2.chg hc (fun g hg e => h2 (by rw [← e3 g hg]; exact e)), e3, e4⟩, h.ne, h.sm⟩
theorem szT : ∀ W, (sizeOf 9).run Tryd.prog W = .ok 1 W := fun W => by simp [go_sem]

set_option maxHeartbeats 4000000 in
theorem word_any {w : World} {tk sb : Nat} {l : List ByteArray} {bad : Bool} (h : TkAt w tk sb l bad) :
    Calls Tryd.prog 16 #[.pointer (some ⟨tk, 0, none⟩)] w fun e w' => e = .returned (.string (l.headD ⟨#[]⟩)) ∧ TkAt w' tk sb l.tail (bad || l.isEmpty) ∧ Chg (· = tk) w w' := by
  have H := Lib.hid h
  obtain ⟨a, c, h1, h2, h3, h4⟩ := h.ex
  have HB := Lib.hid h1
  have HS := Lib.hid h2
  have HO := Lib.hid h3
  have c0 := cell_of_block h1 0
  have c1 := cell_of_block h1 1
  have z0 := free_of_block h1 0
  have z1 := free_of_block h1 1
  simp only [List.getElem?_toArray, List.getElem?_cons_zero, List.getElem?_cons_succ] at c0 c1
  cases l with
  | nil =>
    clear h h1 h2 h3 z0
    simp only [List.length_nil] at c0
    go_enter Tryd.func16, Tryd.ntmps16
    go_wp2_with fail
    go_ret
    exact ⟨rfl, by simpa using H.out.flag, setCell_chg _ _ _ _⟩
  | cons s l =>
    obtain ⟨b, o, s', rfl, hs', cx⟩ := strs_src (k := 0) h2 (by simp)
    obtain rfl : s = s' := by simpa using hs'
    have hsl := run_slice_lo (P := Tryd.prog) Tryd.underlying31 szT (some ⟨b, o, none⟩) (l.length + 1) c 1 (by omega)
    obtain ⟨a2, ha2⟩ : ∃ a2, a2 = cutA (some ⟨b, o, none⟩) c 1 := ⟨_, rfl⟩
    have hsrc2 := src_cut (l := 1) (h := l.length + 1) (m := c) h2 (by omega) (by simp) (by simpa using h4) (Nat.le_refl _)
    have e2 : l.length + 1 - 1 = l.length := by omega
    rw [← ha2, e2] at hsl hsrc2
    rw [show ((1 : Nat) : Int) = 1 from rfl] at hsl
    have hdt : ((strs (s :: l)).drop 1).take l.length = strs l := List.take_of_length_le (by simp [strs])
    rw [hdt] at hsrc2
    have hob : ∀ g, (Value.slice a2 l.length (c - 1)).ownBlock = some g → g = sb := fun g hg => by
      refine HO.out g ?_
      rw [ha2] at hg
      unfold cutA at hg
      split at hg
      · simpa [Value.ownBlock] using hg
      · simpa [Value.ownBlock, Go.WideShapes.add_plain] using hg
    have HS2 := Lib.hid hsrc2
    have HO2 := Lib.hid hob
    have HC2 : Hid (l.length ≤ c - 1) := Lib.hid (by simp at h4; omega)
    clear h h1 h2 h3 h4 hs' c1 z1 hsrc2 hob hdt ha2
    simp only [List.length_cons] at c0
    rw [Nat.add_zero] at cx
    have hne : ((l.length + 1 : Nat) : Int) ≠ 0 := by omega
    have hnb : (((l.length + 1 : Nat) : Int) == 0) = false := by simp; omega
    obtain ⟨n1, hn1⟩ : ∃ n1, n1 = l.length + 1 := ⟨_, rfl⟩
    rw [← hn1] at c0 hsl hne hnb
    have hpos : (0 : Int) < (n1 : Int) := by omega
    clear hn1 e2
    go_enter Tryd.func16, Tryd.ntmps16
    go_wp2_with fail
    go_ret
    refine ⟨rfl, ⟨⟨a2, c - 1, ?_, HS2.out.chg (setCell_chg _ _ _ _) (fun g hg e => H.out.ne ((HO2.out g hg).symm.trans e)), HO2.out, HC2.out⟩, H.out.ne, fun x hx => H.out.sm x (List.mem_cons_of_mem _ hx)⟩, setCell_chg _ _ _ _⟩
    rw [setCell_block HB.out]
    simp
set_option maxHeartbeats 4000000 in
theorem number_any {w : World} {tk sb : Nat} {l : List ByteArray} {bad : Bool} (h : TkAt w tk sb l bad) (hl : HasLib w) (htk : NoLib (· = tk)) :
    Calls Tryd.prog 15 #[.pointer (some ⟨tk, 0, none⟩)] w fun e w' => ∃ n, e = .returned (.int .i64 n) ∧ (∀ z, l.head?.bind numP = some z → z = n) ∧ TkAt w' tk sb l.tail (bad || (l.head?.bind numP).isNone) ∧ Chg (· = tk) w w' := by
  have H := Lib.hid h
  have HL := Lib.hid hl
  have HN := Lib.hid htk
  clear h hl htk
  go_enter Tryd.func15, Tryd.ntmps15
  go_wp2_with fail
  refine (word_any H.out).mono ?_
  rintro e w1 ⟨rfl, ht, hc⟩
  have HT := Lib.hid ht
  have HC := Lib.hid hc
  have HL1 := Lib.hid (HL.out.chg hc HN.out)
  have hsm : (l.headD ⟨#[]⟩).size ≤ 281474976710656 := by
    cases l with
    | nil => exact Nat.zero_le _
    | cons s l => exact H.out.sm s List.mem_cons_self
  have hhead : (l = [] ∧ l.head?.bind numP = none) ∨ (l.isEmpty = false ∧ l.head?.bind numP = numP (l.headD ⟨#[]⟩)) := by
    cases l with
    | nil => exact .inl ⟨rfl, rfl⟩
    | cons s l => exact .inr ⟨rfl, rfl⟩
  have HH := Lib.hid hhead
  generalize l.headD ⟨#[]⟩ = s at *
  clear ht hc hhead
  go_wp2_with fail
  refine (atoi_any HL1.out s hsm).mono ?_
  rintro e w2 (⟨v, hv, rfl, hx⟩ | ⟨hv, v, t, x, rfl, hx⟩)
  · have hvb := Lib.atoiAll_bounds hv
    have hnp := numP_ok hv
    have HNP := Lib.hid hnp
    have HT2 := Lib.hid (HT.out.ext hx)
    have HC2 := Lib.hid (HC.out.trans (Chg.of_ext (S := (· = tk)) hx) (fun _ _ e => e))
    have HL2 := Lib.hid (HL1.out.ext hx)
    obtain ⟨b0, hb0⟩ : ∃ b0, b0 = (bad || l.isEmpty) := ⟨_, rfl⟩
    have HB0 := Lib.hid hb0
    rw [← hb0] at HT2
    clear HT HC HL1 hx hv hnp hb0
    obtain ⟨a, c, h1, -⟩ := HT2.out.ex
    have c1 := cell_of_block h1 1
    have z1 := free_of_block h1 1
    simp only [List.getElem?_toArray, List.getElem?_cons_zero, List.getElem?_cons_succ] at c1
    clear h1
    cases b0 with
    | true =>
      go_wp2_with fail
      go_ret
      refine ⟨v, rfl, fun z hz => ?_, ?_, HC2.out.trans (setCell_chg _ _ _ _) (fun _ _ e => e)⟩
      · rcases HH.out with ⟨-, e⟩ | ⟨-, e⟩
        · rw [e] at hz; cases hz
        · rw [e, HNP.out] at hz
          split at hz
          · exact (Option.some.inj hz).symm
          · cases hz
      · rw [show (bad || (l.head?.bind numP).isNone) = true from by
          rcases HH.out with ⟨e0, e⟩ | ⟨e0, e⟩
          · rw [e]; simp
          · have := HB0.out; rw [e0] at this; simp at this; rw [this]; rfl]
        exact HT2.out.flag
    | false =>
      have hl0 : l.isEmpty = false ∧ bad = false := by have := HB0.out; simp at this; exact ⟨by cases l <;> simp_all, this.1⟩
      have hbd : l.head?.bind numP = numP s := by
        rcases HH.out with ⟨e0, -⟩ | ⟨-, e⟩
        · have := hl0.1; rw [e0] at this; simp at this
        · exact e
      have HBD := Lib.hid hbd
      have HL0 := Lib.hid hl0
      clear hbd hl0
      go_wp2_with fail
      refine (itoa_any HL2.out v hvb.1 hvb.2).mono ?_
      rintro e w3 ⟨rfl, hx3⟩
      have HT3 := Lib.hid (HT2.out.ext hx3)
      have HC3 := Lib.hid (HC2.out.trans (Chg.of_ext (S := (· = tk)) hx3) (fun _ _ e => e))
      clear c1 z1 hx3
      obtain ⟨a3, c3, h13, -⟩ := HT3.out.ex
      have c13 := cell_of_block h13 1
      have z13 := free_of_block h13 1
      simp only [List.getElem?_toArray, List.getElem?_cons_zero, List.getElem?_cons_succ] at c13
      clear h13
      go_wp2_with fail
      go_ret
      refine ⟨v, rfl, fun z hz => ?_, ?_, HC3.out.trans (setCell_chg _ _ _ _) (fun _ _ e => e)⟩
      · rw [HBD.out, HNP.out] at hz
        split at hz
        · exact (Option.some.inj hz).symm
        · cases hz
      · rw [HBD.out, HNP.out, HL0.out.2]
        have hq : (!((num v).toList == s.toList)) = (false || (if num v = s then some v else none).isNone) := by
          rw [same_eqQ]
          by_cases h : num v = s <;> simp [h]
        rw [← hq]
        exact HT3.out.flag
  · have HV := Lib.hid hv
    have HT2 := Lib.hid (HT.out.ext hx)
    have HC2 := Lib.hid (HC.out.trans (Chg.of_ext (S := (· = tk)) hx) (fun _ _ e => e))
    obtain ⟨b0, hb0⟩ : ∃ b0, b0 = (bad || l.isEmpty) := ⟨_, rfl⟩
    have HB0 := Lib.hid hb0
    rw [← hb0] at HT2
    clear HT HC HL1 hx hv hb0
    obtain ⟨a, c, h1, -⟩ := HT2.out.ex
    have c1 := cell_of_block h1 1
    have z1 := free_of_block h1 1
    simp only [List.getElem?_toArray, List.getElem?_cons_zero, List.getElem?_cons_succ] at c1
    clear h1
    have hbd : l.head?.bind numP = none := by
      rcases HH.out with ⟨-, e⟩ | ⟨-, e⟩
      · exact e
      · rw [e]; exact HV.out
    have HBD := Lib.hid hbd
    clear hbd
    cases b0 with
    | true =>
      go_wp2_with fail
      go_ret
      refine ⟨v, rfl, fun z hz => (by rw [HBD.out] at hz; cases hz), ?_, HC2.out.trans (setCell_chg _ _ _ _) (fun _ _ e => e)⟩
      rw [HBD.out, show (bad || (none : Option Int).isNone) = true by simp]
      exact HT2.out.flag
    | false =>
      go_wp2_with fail
      go_ret
      refine ⟨v, rfl, fun z hz => (by rw [HBD.out] at hz; cases hz), ?_, HC2.out.trans (setCell_chg _ _ _ _) (fun _ _ e => e)⟩
      rw [HBD.out, show (bad || (none : Option Int).isNone) = true by simp]
      exact HT2.out.flag
set_option maxHeartbeats 4000000 in
theorem of_any {w : World} {tk sb mb : Nat} {l : List ByteArray} {bad : Bool} {m : List (ByteArray × Int)} (h : TkAt w tk sb l bad) (hm : WordsAt w mb m) (hne : mb ≠ tk) :
    Calls Tryd.prog 17 #[.pointer (some ⟨tk, 0, none⟩), .map (some mb)] w fun e w' => ∃ n, e = .returned (.int .i64 n) ∧ (∀ z, l.head?.bind (aget m) = some z → z = n) ∧ TkAt w' tk sb l.tail (bad || (l.head?.bind (aget m)).isNone) ∧ Chg (· = tk) w w' := by
  have H := Lib.hid h
  have HM := Lib.hid hm
  clear h hm
  go_enter Tryd.func17, Tryd.ntmps17
  go_wp2_with fail
  refine (word_any H.out).mono ?_
  rintro e w1 ⟨rfl, ht, hc⟩
  have HT := Lib.hid ht
  have HC := Lib.hid hc
  have hm1 : WordsAt w1 mb m := HM.out.chg hc hne
  have hz : ∀ w : World, (zeroValue 3).run Tryd.prog w = .ok (.int .i64 0) w := fun _ => by kernel_rfl
  have hlk := hm1.lookup (P := Tryd.prog) (string_kind Tryd.underlying9) Tryd.underlying36 (.int .i64 0) (hz w1) (l.headD ⟨#[]⟩) true
  rw [show aget (mapV m) (l.headD ⟨#[]⟩) = (aget m (l.headD ⟨#[]⟩)).map (fun z => Value.int .i64 z) from aget_amap _ _ _] at hlk
  have hhead : (l = [] ∧ l.head?.bind (aget m) = none) ∨ (l.isEmpty = false ∧ l.head?.bind (aget m) = aget m (l.headD ⟨#[]⟩)) := by
    cases l with
    | nil => exact .inl ⟨rfl, rfl⟩
    | cons s l => exact .inr ⟨rfl, rfl⟩
  have HH := Lib.hid hhead
  generalize l.headD ⟨#[]⟩ = s at *
  obtain ⟨b0, hb0⟩ : ∃ b0, b0 = (bad || l.isEmpty) := ⟨_, rfl⟩
  have HB0 := Lib.hid hb0
  rw [← hb0] at HT
  obtain ⟨n, hn⟩ : ∃ n, n = (aget m s).getD 0 := ⟨_, rfl⟩
  obtain ⟨kn, hkn⟩ : ∃ kn, kn = (aget m s).isSome := ⟨_, rfl⟩
  have hval : (Option.map (fun z => Value.int .i64 z) (aget m s)).getD (.int .i64 0) = .int .i64 n := by rw [hn]; cases aget m s <;> rfl
  have hkn2 : (Option.map (fun z => Value.int .i64 z) (aget m s)).isSome = kn := by rw [hkn]; cases aget m s <;> rfl
  rw [hval, hkn2, if_pos rfl] at hlk
  have HN := Lib.hid hn
  have HK := Lib.hid hkn
  have hres : (∀ z, l.head?.bind (aget m) = some z → z = n) ∧ (bad || (l.head?.bind (aget m)).isNone) = (b0 || !kn) := by
    rcases hhead with ⟨e0, e⟩ | ⟨e0, e⟩
    · rw [e]; refine ⟨fun z hz => (by cases hz), ?_⟩; rw [hb0, e0]; simp
    · rw [e]
      refine ⟨fun z hz => (by rw [hn, hz]; rfl), ?_⟩
      rw [hb0, hkn, e0]
      cases aget m s <;> simp
  have HR := Lib.hid hres
  clear ht hc hm1 hhead hb0 hn hkn hval hkn2 hres hz
  obtain ⟨a, c, h1, -⟩ := HT.out.ex
  have c1 := cell_of_block h1 1
  have z1 := free_of_block h1 1
  simp only [List.getElem?_toArray, List.getElem?_cons_zero, List.getElem?_cons_succ] at c1
  clear h1
  cases b0 with
  | true =>
    go_wp2_with fail
    go_ret
    refine ⟨n, rfl, HR.out.1, ?_, HC.out.trans (setCell_chg _ _ _ _) (fun _ _ e => e)⟩
    rw [HR.out.2]
    exact HT.out.flag
  | false =>
    go_wp2_with fail
    go_ret
    refine ⟨n, rfl, HR.out.1, ?_, HC.out.trans (setCell_chg _ _ _ _) (fun _ _ e => e)⟩
    rw [HR.out.2]
    exact HT.out.flag
end Go.Proofs.YtfndeocebpoeeaaDoor
