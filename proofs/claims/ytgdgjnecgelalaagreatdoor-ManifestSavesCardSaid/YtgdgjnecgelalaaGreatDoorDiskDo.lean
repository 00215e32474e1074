/- What the closure of disk's Append comes to. -/
import Derived.Test.YtgdgjnecgelalaaGreatDoorDiskA2
import Derived.Test.YtgdgjnecgelalaaGreatDoorLex
import Derived.BigQuiet
import Derived.Deep.QuietTactic
import Derived.WalkSpells
import Derived.Test.YtgdgjnecgelalaaGreatDoorDiskB
import Derived.Sort.OwnSorted
namespace Go.Proofs.YtgdgjnecgelalaaGreatDoor
open Go.RowKit Go.Sort

/-- A slice that is read stays, if it has no elements, or its block stays. -/
theorem Src.chg0 {S : Nat → Prop} {w w' : World} {size : Nat} {v : Value} {n : Nat} {xs : List Value} (h : Src w size v n xs) (hc : Chg S w w') (hn : n = 0 ∨ ∀ g, v.ownBlock = some g → ¬ S g) : Src w' size v n xs := by
  rcases hn with rfl | hn
  · rcases h with h | ⟨ad, c, rfl, h2, h3, h4⟩
    · exact .inl h
    · have : xs = [] := List.length_eq_zero_iff.1 (by omega)
      subst this
      exact .inr ⟨ad, c, rfl, h2, fun j u hj => by simp at hj, h4⟩
  · exact h.chg hc hn

set_option maxHeartbeats 4000000 in
set_option maxRecDepth 100000 in
theorem append1_new {w : World} {d mb : Nat} {E : List (ByteArray × FileX)} {room used left ops : Int} (h : DiskRep w d mb E room used left ops)
    (bb dd nn : Nat) (name : ByteArray) (a : Option Addr) (n c : Nat)
    (hb : w.cell? ⟨bb, 0, none⟩ = some (.slice a n c)) (hd : w.cell? ⟨dd, 0, none⟩ = some (.pointer (some ⟨d, 0, none⟩))) (hn : w.cell? ⟨nn, 0, none⟩ = some (.string name))
    (hr : room ≤ 1073741824) (hr0 : 0 ≤ room) (hu : 0 ≤ used) (hu2 : used ≤ room) (hnm : n ≤ maxLen)
    (hroom : (n : Int) ≤ room - used) (hx : aget E name = none) (hmany : E.length < 512) (hfit : n ≤ 1048576) (bl : List UInt8) (hs : Src w 1 (.slice a n c) n (u8s bl)) (hap : n = 0 ∨ ∀ g, (Value.slice a n c).ownBlock = some g → g ∉ foot d mb E) (hbb : bb ∉ foot d mb E) (hdd : dd ∉ foot d mb E) (hnn : nn ∉ foot d mb E) :
    Calls Tryz.prog 53 #[.pointer (some ⟨bb, 0, none⟩), .pointer (some ⟨dd, 0, none⟩), .pointer (some ⟨nn, 0, none⟩)] w fun e w' => e = .returned (.int .i64 0) ∧ ∃ x', x'.f = ⟨bl, 0, false⟩ ∧ DiskRep w' d mb (aput E name x') room (used + n) left ops ∧ Chg (· ∈ foot d mb E) w w' ∧ ∀ b ∈ foot d mb (aput E name x'), b ∈ foot d mb E ∨ w.heap.size ≤ b := by
  have hbl : n = bl.length := by
    rcases hs with ⟨_, e1, e2⟩ | ⟨_, _, _, e2, _⟩
    · have := congrArg List.length e2; rw [u8s_length] at this; rw [e1, this]; rfl
    · rw [u8s_length] at e2; omega
  have Hbl := Lib.hid hbl; clear hbl
  unfold maxLen at hnm
  have hh := h.head
  have c0 : w.cell? ⟨d, 0, none⟩ = some (.map (some mb)) := by rw [cell_of_block hh]; rfl
  have c1 : w.cell? ⟨d, 1, none⟩ = some (.int .i64 room) := by rw [cell_of_block hh]; rfl
  have c2 : w.cell? ⟨d, 2, none⟩ = some (.int .i64 used) := by rw [cell_of_block hh]; rfl
  have Hh := Lib.hid hh
  clear hh
  have hz : ∀ w : World, (zeroValue 105).run Tryz.prog w = .ok (.pointer none) w := fun _ => by kernel_rfl
  have hlk : ∀ k, (Instr.lookup 69 (.map (some mb)) (.string name) false).run Tryz.prog (w.drewN k) = .ok (.pointer none) (w.drewN k) := by
    intro k
    have := (h.ext (Ext.drewN w k)).map.lookup (P := Tryz.prog) (string_kind Tryz.underlying9) Tryz.underlying69 (.pointer none) (hz _) name false
    rw [ptrs, aget_amap, hx] at this
    simpa only [Option.map_some, Option.map_none, Option.getD_some, Option.getD_none, Bool.false_eq_true, if_false] using this
  have hlen : ∀ k ty, (Builtin.len_ #[69] ty #[.map (some mb)]).run Tryz.prog (w.drewN k) = .ok (.int .i64 E.length) (w.drewN k) := by
    intro k ty
    have := (h.ext (Ext.drewN w k)).map.run_len (P := Tryz.prog) Tryz.underlying69 ty
    simpa [ptrs, amap] using this
  obtain ⟨N, hN⟩ : ∃ N, N = E.length := ⟨_, rfl⟩
  rw [← hN] at hlen hmany
  have HX := Lib.hid hx
  clear hx hN
  have hN6 : (N : Int) < (512 : Int) := by omega
  clear hmany
  go_enter Tryz.func53, Tryz.ntmps53
  go_wp2_with fail
  go_quiet (fail)
  go_wp2_with fail
  go_quiet (fail)
  go_wp2_with fail
  generalize hW1 : World.alloc _ _ = W1
  have hx1 : Ext w W1 := by subst hW1; exact (Ext.drewN w _).alloc _
  have hb1 : W1.heap[w.heap.size]? = some (.cells #[.slice none 0 0, .int .i64 0, .bool false] 107 (0, 0)) := by
    subst hW1; exact heap_alloc_new (w.drewN _) _
  have hz1 : w.heap.size < W1.heap.size := block_lt hb1
  clear hW1
  have lbb := World.block_lt_of_cell? w _ hb
  have ldd := World.block_lt_of_cell? w _ hd
  have lnn := World.block_lt_of_cell? w _ hn
  have ld := block_lt Hh.out
  have p1 : W1.cell? ⟨dd, 0, none⟩ = some (.pointer (some ⟨d, 0, none⟩)) := by rw [hx1.cell (p := ⟨dd, 0, none⟩) ldd]; exact hd
  have p2 : W1.cell? ⟨nn, 0, none⟩ = some (.string name) := by rw [hx1.cell (p := ⟨nn, 0, none⟩) lnn]; exact hn
  have p3 : W1.cell? ⟨d, 0, none⟩ = some (.map (some mb)) := by rw [hx1.cell (p := ⟨d, 0, none⟩) ld]; exact c0
  have Hb := Lib.hid hb; have Hd := Lib.hid hd; have Hx1 := Lib.hid hx1; have Hb1 := Lib.hid hb1
  clear hb hd hn c0 c1 c2 hlk hlen hx1 hb1
  refine wp_region_split_lit [] [0, 1, 2, 3, 4, 5] [6] (by kernel_rfl) (by kernel_rfl) (fun _ _ dd _ _ hh => by cases dd <;> exact hh) ?_
  simp only [pickOps, List.getElem?_cons_succ, List.getElem?_cons_zero]
  refine wpQuiet_nil ?_
  repeat (go_big_quiet_step (fail))
  refine wpQuiet_nil ?_
  intro w2 hw'
  have hx2 : Ext W1 w2 := by obtain ⟨k, rfl⟩ := hw'; exact Ext.drewN _ _
  clear hw'
  obtain ⟨w3, hup, hmap3, hchg3⟩ := (h.ext (Hx1.out.trans hx2)).map.update (P := Tryz.prog) (string_kind Tryz.underlying9) Tryz.underlying69 name (.pointer (some ⟨w.heap.size, 0, none⟩))
  have Hx2 := Lib.hid hx2; have Hm3 := Lib.hid hmap3; have Hc3 := Lib.hid hchg3
  clear hx2 hmap3 hchg3
  go_wp2_with fail
  clear hup p1 p2 p3
  have lmb := h.map.lt
  have hbbm : bb ≠ mb := fun e => hbb (by rw [e]; simp [foot])
  have hddm : dd ≠ mb := fun e => hdd (by rw [e]; simp [foot])
  have hdmb : d ≠ mb := by
    have := h.apart
    simp [foot] at this
    exact this.1.1
  have c3 : Chg (· = mb) w w3 := (Chg.of_ext (Hx1.out.trans Hx2.out)).trans Hc3.out (fun i hi e => e)
  have b3 : w3.heap[w.heap.size]? = some (.cells #[.slice none 0 0, .int .i64 0, .bool false] 107 (0, 0)) := by
    rw [Hc3.out.block _ (Nat.lt_of_lt_of_le hz1 Hx2.out.size) (by omega), Hx2.out.block hz1]; exact Hb1.out
  have b3d : w3.heap[d]? = some (.cells #[.map (some mb), .int .i64 room, .int .i64 used, .int .i64 left, .int .i64 ops] 71 (0, 0)) := by
    rw [c3.block d ld hdmb]; exact Hh.out
  have q1 : w3.cell? ⟨w.heap.size, 0, none⟩ = some (.slice none 0 0) := by rw [cell_of_block b3]; rfl
  have q2 : w3.cell? ⟨bb, 0, none⟩ = some (.slice a n c) := by rw [c3.cell (p := ⟨bb, 0, none⟩) lbb hbbm]; exact Hb.out
  have Hq2 := Lib.hid q2
  have HC3 := Lib.hid c3; have HB3 := Lib.hid b3; have HB3d := Lib.hid b3d
  clear c3 b3 b3d
  refine wp_region_split_lit [0] [1, 2, 3, 4, 5] [6, 7, 8, 9] (by kernel_rfl) (by kernel_rfl) (fun _ _ dd _ _ hh => by cases dd <;> exact hh) ?_
  simp only [pickOps, List.getElem?_cons_succ, List.getElem?_cons_zero]
  repeat (go_big_quiet_step (fail))
  refine wpQuiet_nil ?_
  repeat (go_big_quiet_step (fail))
  refine wpQuiet_nil ?_
  intro w4 hw'
  have hx4 : Ext w3 w4 := by obtain ⟨k, rfl⟩ := hw'; exact Ext.drewN _ _
  clear hw' q1 q2
  have hsrc : Src w4 1 (.slice a n c) n (u8s bl) := (hs.chg0 HC3.out (hap.imp id (fun hap g hg e => hap g hg (by rw [e]; simp [foot])))).ext hx4
  obtain ⟨i0, hi, hz0, hz1', hz2⟩ := info_parts info_u8
  obtain ⟨v', w5, happ, hrow5, hchg5, hloc⟩ := append_any (P := Tryz.prog) w4 56 56 5 i0 (.int .u8 0) 1 1 Tryz.underlying56 hi hz0 hz1' hz2 rfl (by decide) (Row.nil w4 5 1) hsrc (by unfold maxLen; omega) (by omega)
  obtain ⟨va, vc, rfl⟩ := hrow5.shape
  have hx5 : Ext w4 w5 := hchg5.ext (fun i _ e => by simp [Value.ownBlock] at e)
  have hz4 : w.heap.size < w4.heap.size := Nat.lt_of_lt_of_le (block_lt HB3.out) hx4.size
  have b5 : w5.heap[w.heap.size]? = some (.cells #[.slice none 0 0, .int .i64 0, .bool false] 107 (0, 0)) := by
    rw [hx5.block hz4, hx4.block (block_lt HB3.out)]; exact HB3.out
  have g3 : w5.cell? ⟨w.heap.size, 0, none⟩ = some (.slice none 0 0) := by rw [cell_of_block b5]; rfl
  have g4 : w5.frozen? ⟨w.heap.size, 0, none⟩ = false := free_of_block b5 0
  obtain ⟨w6, hw6⟩ : ∃ w6, w6 = w5.setCell ⟨w.heap.size, 0, none⟩ (.slice va (0 + n) vc) := ⟨_, rfl⟩
  have hdne : d ≠ w.heap.size := by omega
  have hchg6 : Chg (· = mb) w w6 := by
    rw [hw6]
    exact (HC3.out.trans (Chg.of_ext (S := fun _ => False) (hx4.trans hx5)) (fun _ _ e => e.elim)).trans (setCell_chg _ _ _ _) (fun i hi e => by omega)
  have b6 : w6.heap[w.heap.size]? = some (.cells #[.slice va (0 + n) vc, .int .i64 0, .bool false] 107 (0, 0)) := by
    rw [hw6, setCell_block b5]; rfl
  have b6d : w6.heap[d]? = some (.cells #[.map (some mb), .int .i64 room, .int .i64 used, .int .i64 left, .int .i64 ops] 71 (0, 0)) := by
    rw [hchg6.block d ld hdmb]; exact Hh.out
  have e1 : w6.cell? ⟨dd, 0, none⟩ = some (.pointer (some ⟨d, 0, none⟩)) := by rw [hchg6.cell (p := ⟨dd, 0, none⟩) ldd hddm]; exact Hd.out
  have e2 : w6.cell? ⟨bb, 0, none⟩ = some (.slice a n c) := by rw [hchg6.cell (p := ⟨bb, 0, none⟩) lbb hbbm]; exact Hb.out
  have e3 : w6.cell? ⟨d, 2, none⟩ = some (.int .i64 used) := by rw [cell_of_block b6d]; rfl
  have e4 : w6.frozen? ⟨d, 2, none⟩ = false := free_of_block b6d 2
  have m6 : MapIs (fun s : ByteArray => Value.string s) w6 mb (aput (ptrs E) name (.pointer (some ⟨w.heap.size, 0, none⟩))) := by
    rw [hw6]
    exact ((Hm3.out.ext (hx4.trans hx5))).chg (setCell_chg _ _ _ _) (by omega)
  have r6 : Row w6 5 1 (.slice va (0 + n) vc) n (u8s bl) := by
    rw [hw6]
    have := hrow5.chg (setCell_chg w5 w.heap.size 0 (.slice va (0 + n) vc)) (fun g hg e => by
      subst e
      rcases hloc with e | e
      · rw [e] at hg; simp [Value.ownBlock] at hg
      · rw [e] at hg; simp at hg; omega)
    simpa using this
  have hown : (Value.slice va (0 + n) vc).ownBlock = none ∨ (Value.slice va (0 + n) vc).ownBlock = some w4.heap.size := by
    rcases hloc with e | e
    · exact .inl e
    · exact .inr e
  have Hc6 := Lib.hid hchg6; have Hb6 := Lib.hid b6; have Hb6d := Lib.hid b6d; have Hm6 := Lib.hid m6; have Hr6 := Lib.hid r6; have Hown := Lib.hid hown
  have Hw6 := Lib.hid hw6.symm
  have Hx4 := Lib.hid hx4
  clear hchg6 b6 b6d m6 r6 hown hw6 hrow5 hchg5 hloc hx5 hx4 b5 hsrc hs
  go_wp2_with (at_builtin; refine wpList_append_run rfl _ _ _ rfl _ _ _ w5 rfl rfl happ ?_)
  simp only [Nat.zero_add] at *
  rw [Hw6.out]
  clear happ g3 g4
  refine wp_region_split_lit [] [0, 1, 2, 3, 4, 5, 6, 7, 8] [9] (by kernel_rfl) (by kernel_rfl) (fun _ _ dd _ _ hh => by cases dd <;> exact hh) ?_
  simp only [pickOps, List.getElem?_cons_succ, List.getElem?_cons_zero]
  refine wpQuiet_nil ?_
  repeat (go_big_quiet_step (fail))
  refine wpQuiet_nil ?_
  intro _ hw'
  obtain ⟨nq, rfl⟩ := hw'
  go_wp2_with fail
  go_ret
  have hch : Chg (fun b => b = d ∨ b = mb) w ((w6.drewN nq).setCell { block := d, off := 2 } (Value.int IntKind.i64 (used + ↑n))) :=
    ((Hc6.out.mono (T := fun b => b = d ∨ b = mb) (fun i hi e => .inr e)).trans (Chg.of_ext (S := fun _ => False) (Ext.drewN _ nq)) (fun _ _ e => e.elim)).trans (setCell_chg _ _ _ _) (fun i hi e => .inl e)
  have hd' : ((w6.drewN nq).setCell { block := d, off := 2 } (Value.int IntKind.i64 (used + ↑n))).heap[d]? = some (.cells #[.map (some mb), .int .i64 room, .int .i64 (used + n), .int .i64 left, .int .i64 ops] 71 (0, 0)) := setCell_block (w := w6.drewN nq) Hb6d.out _
  have hf1' : ((w6.drewN nq).setCell { block := d, off := 2 } (Value.int IntKind.i64 (used + ↑n))).heap[w.heap.size]? = some (.cells #[.slice va n vc, .int .i64 ((0 : Nat) : Int), .bool false] 107 (0, 0)) := (setCell_other (w := w6.drewN nq) (Ne.symm hdne) _).trans Hb6.out
  have hgd : (Value.slice va n vc).ownBlock ≠ some d := by
    rcases Hown.out with e | e <;> rw [e] <;> simp
    omega
  have hf2' : Row ((w6.drewN nq).setCell { block := d, off := 2 } (Value.int IntKind.i64 (used + ↑n))) 5 1 (.slice va n vc) bl.length (u8s bl) := by
    rw [← Hbl.out]
    exact (Hr6.out.ext (Ext.drewN _ nq)).chg (setCell_chg _ _ _ _) (fun g hg e => by subst e; exact hgd hg)
  have hm' : MapIs (fun s : ByteArray => Value.string s) ((w6.drewN nq).setCell { block := d, off := 2 } (Value.int IntKind.i64 (used + ↑n))) mb (aput (ptrs E) name (.pointer (some ⟨w.heap.size, 0, none⟩))) :=
    (Hm6.out.ext (Ext.drewN _ nq)).chg (setCell_chg _ _ _ _) (Ne.symm hdmb)
  have hT := DiskRep.add (x' := ⟨w.heap.size, .slice va n vc, ⟨bl, 0, false⟩⟩) h HX.out hch (fun b hb => hb) hd' hm' ⟨hf1', hf2'⟩ (by
      intro b hb
      simp only [FileX.blocks, List.mem_cons, Option.mem_toList] at hb
      rcases hb with e | e
      · omega
      · rcases Hown.out with e' | e' <;> rw [e'] at e <;> simp at e
        omega) (by
      rcases Hown.out with e | e <;> simp only [e] <;> simp
      omega)
  refine ⟨rfl, _, rfl, hT.1, hch.mono (fun i hi e => ?_), hT.2⟩
  rcases e with e | e
  · rw [e]; simp [foot]
  · rw [e]; simp [foot]

end Go.Proofs.YtgdgjnecgelalaaGreatDoor

/-! Rows of strings in memory; the sorted list, in plain words. -/

namespace Go.Proofs.YtgdgjnecgelalaaGreatDoor
open Go.RowKit Go.Sort Go.Lib

def bl (s : ByteArray) : List UInt8 := s.data.toList
def lb (l : List UInt8) : ByteArray := ⟨l.toArray⟩
@[simp] theorem lb_bl (s : ByteArray) : lb (bl s) = s := rfl
@[simp] theorem bl_lb (l : List UInt8) : bl (lb l) = l := rfl
theorem bl_inj {a b : ByteArray} (h : bl a = bl b) : a = b := by rw [← lb_bl a, h, lb_bl]
def strs (l : List ByteArray) : List Value := l.map Value.string
theorem strs_len (l : List ByteArray) : (strs l).length = l.length := by simp [strs]
theorem strs_one (l : List ByteArray) : ∀ u ∈ strs l, u.oneCell' = true := by
  intro u hu
  obtain ⟨s, _, rfl⟩ := List.mem_map.1 hu
  rfl
theorem strs_enc (l : List ByteArray) : strs l = (l.map bl).map encStr := by
  simp only [strs, List.map_map]
  apply List.map_congr_left
  intro s _
  rfl
theorem strs_enc' (l : List (List UInt8)) : l.map encStr = strs (l.map lb) := by
  simp only [strs, List.map_map]
  rfl

/-- The names, sorted. -/
def sortS (l : List ByteArray) : List ByteArray := ((l.map bl).mergeSort fun x y => decide (x ≤ y)).map lb
theorem sortS_perm (l : List ByteArray) : (sortS l).Perm l := by
  have h := (List.mergeSort_perm (l.map bl) fun x y => decide (x ≤ y)).map lb
  have e : (l.map bl).map lb = l := by simp [List.map_map, Function.comp_def]
  rw [e] at h
  exact h
theorem sortS_length (l : List ByteArray) : (sortS l).length = l.length := (sortS_perm l).length_eq
theorem le_trans' {a b c : List UInt8} (h : a ≤ b) (k : b ≤ c) : a ≤ c := List.le_trans h k
theorem sortS_sorted (l : List ByteArray) : (sortS l).Pairwise fun a b => bl a ≤ bl b := by
  have h : ((l.map bl).mergeSort fun x y => decide (x ≤ y)).Pairwise (fun x y => decide (x ≤ y) = true) := List.pairwise_mergeSort (fun a b c h k => by simp only [decide_eq_true_eq] at *; exact List.le_trans h k) (fun a b => by rcases List.le_total a b with h | h <;> simp [h]) (l.map bl)
  unfold sortS
  rw [List.pairwise_map]
  exact h.imp (fun h => by simpa using h)
/-- Two rising lists with the same members are one. -/
theorem sorted_unique : ∀ {a b : List ByteArray}, a.Perm b → a.Pairwise (fun x y => bl x ≤ bl y) → b.Pairwise (fun x y => bl x ≤ bl y) → a = b
  | [], b, h, _, _ => h.nil_eq
  | x :: a, [], h, _, _ => by have := h.length_eq; simp at this
  | x :: a, y :: b, h, ha, hb => by
    have hxy : x = y := by
      have h1 : x ∈ y :: b := h.subset (List.mem_cons_self ..)
      have h2 : y ∈ x :: a := h.symm.subset (List.mem_cons_self ..)
      rcases List.mem_cons.1 h1 with e | h1
      · exact e
      · rcases List.mem_cons.1 h2 with e | h2
        · exact e.symm
        · exact bl_inj (List.le_antisymm ((List.pairwise_cons.1 ha).1 y h2) ((List.pairwise_cons.1 hb).1 x h1))
    subst hxy
    rw [sorted_unique ((List.perm_cons _).1 h) (List.pairwise_cons.1 ha).2 (List.pairwise_cons.1 hb).2]
theorem perm_of_mem {a b : List ByteArray} (ha : a.Nodup) (hb : b.Nodup) (h : ∀ x, x ∈ a ↔ x ∈ b) : a.Perm b := (List.perm_ext_iff_of_nodup ha hb).2 h
theorem sortS_of_mem {a b : List ByteArray} (ha : a.Nodup) (hb : b.Nodup) (h : ∀ x, x ∈ a ↔ x ∈ b) : sortS a = sortS b :=
  sorted_unique (((sortS_perm a).trans (perm_of_mem ha hb h)).trans (sortS_perm b).symm) (sortS_sorted a) (sortS_sorted b)
theorem sortS_strict {l : List ByteArray} (hn : l.Nodup) : (sortS l).Pairwise fun a b => bl a < bl b := by
  have hn' : (sortS l).Nodup := (sortS_perm l).symm.nodup hn
  have h := (sortS_sorted l).and hn'
  refine h.imp (fun {a b} h => ?_)
  rcases List.le_iff_lt_or_eq.1 h.1 with h1 | h1
  · exact h1
  · exact absurd (bl_inj h1) h.2

/-- A place of a slice of strings. -/
theorem strs_src {w : World} {a : Option Addr} {n c : Nat} {l : List ByteArray} (h : Src w 1 (.slice a n c) n (strs l)) {k : Nat} (hk : k < n) :
    ∃ b off s, a = some ⟨b, off, none⟩ ∧ l[k]? = some s ∧ w.cell? ⟨b, off + k, none⟩ = some (.string s) := by
  rcases h with ⟨_, h, _⟩ | ⟨ad, c', h, hl, h2, _⟩
  · omega
  · simp at h
    obtain ⟨rfl, rfl⟩ := h
    rw [strs_len] at hl
    have hkl : k < l.length := by omega
    have hcell := h2 k (.string l[k]) (by simp [strs, List.getElem?_eq_getElem hkl])
    have hcell0 := h2 0 (.string (l[0]'(by omega))) (by simp [strs, List.getElem?_eq_getElem (show 0 < l.length by omega)])
    obtain ⟨b, off, spot⟩ := ad
    have hspot : spot = none := by simpa [Addr.add] using World.cell?_spot hcell0
    subst hspot
    refine ⟨b, off, l[k], rfl, List.getElem?_eq_getElem hkl, ?_⟩
    rw [← Go.WideShapes.add_plain]; exact hcell
theorem strs_src_len {w : World} {v : Value} {n : Nat} {l : List ByteArray} (h : Src w 1 v n (strs l)) : l.length = n := by
  rcases h with ⟨_, h, h2⟩ | ⟨_, _, _, h, _⟩
  · have := strs_len l; rw [h2] at this; simp at this; omega
  · rw [strs_len] at h; omega
theorem Row.strs_src {w : World} {e : TypeId} {v : Value} {n : Nat} {l : List ByteArray} (h : Row w e 1 v n (strs l)) : Src w 1 v n (strs l) := h.src (strs_one l)
end Go.Proofs.YtgdgjnecgelalaaGreatDoor

/-! Contracts of disk's none, isName, do. -/

namespace Go.Proofs.YtgdgjnecgelalaaGreatDoor
open Go.RowKit Go.Sort

set_option maxHeartbeats 1000000 in
theorem disk_none {w : World} {d mb : Nat} (hc : w.cell? ⟨d, 0, none⟩ = some (.map (some mb))) :
    Calls Tryz.prog 22 #[.pointer (some ⟨d, 0, none⟩)] w fun e w' => e = .returned (.bool false) ∧ w = w' := by
  have hn := fun (w : World) => run_eql_map_nil (P := Tryz.prog) w 69 _ _ (some mb) Tryz.underlying69
  go_enter Tryz.func22, Tryz.ntmps22
  go_wp2
  go_ret
  exact ⟨rfl, rfl⟩

def nameB (s : ByteArray) : Bool := decide (1 ≤ s.size) && decide (s.size ≤ 64)

theorem toList_isEmpty (b : ByteArray) : b.toList.isEmpty = (b.size == 0) := by
  have e : b.toList = b.data.toList := by simp [ByteArray.toList_eq]
  rw [e]
  obtain ⟨⟨l⟩⟩ := b
  cases l <;> simp [ByteArray.size]

set_option maxHeartbeats 1000000 in
theorem isName_any (s : ByteArray) (w : World) (hs : s.size ≤ maxLen) :
    Calls Tryz.prog 88 #[.string s] w fun e w' => e = .returned (.bool (nameB s)) ∧ w = w' := by
  unfold maxLen at hs
  have he := toList_isEmpty s
  by_cases h0 : s.size = 0
  · have Hf := Lib.hid (show nameB s = false by simp [nameB, h0])
    have he' : s.toList.isEmpty = true := by rw [he, h0]; rfl
    have he2 : s.toList = [] := by simpa using he'
    clear he h0
    go_enter Tryz.func88, Tryz.ntmps88
    go_wp2
    go_ret
    rw [Hf.out]
    exact ⟨rfl, rfl⟩
  · have Hf := Lib.hid (show nameB s = decide ((s.size : Int) ≤ 64) by
      have h1 : 1 ≤ s.size := by omega
      simp only [nameB, h1, decide_true, Bool.true_and, decide_eq_decide]; omega)
    have he' : s.toList.isEmpty = false := by rw [he]; simpa using h0
    have he2 : s.toList ≠ [] := by simpa using he'
    clear he h0
    go_enter Tryz.func88, Tryz.ntmps88
    go_wp2
    go_ret
    rw [Hf.out]
    exact ⟨by simp, rfl⟩

/-- A name's cell. -/
theorem strs_cell {w : World} {nb c : Nat} {ns : List ByteArray} (hs : Src w 1 (.slice (some ⟨nb, 0, none⟩) ns.length c) ns.length (strs ns)) {k : Nat} {s : ByteArray} (hk : ns[k]? = some s) : w.cell? ⟨nb, k, none⟩ = some (.string s) := by
  rcases hs with ⟨h, _⟩ | ⟨ad', c', h, _, h2, _⟩
  · simp at h
  · simp at h
    obtain ⟨rfl, rfl⟩ := h
    have := h2 k (.string s) (by simp [strs, hk])
    have e : (⟨nb, 0, none⟩ : Addr).add k = ⟨nb, k, none⟩ := by unfold Addr.add; split <;> simp_all
    rwa [e] at this

/-- What 'do' tells where names are wrong, or the disk is cut. -/
def doStops (ns : List ByteArray) (left : Int) : Option Int := if ns.all nameB = false then some 2 else if left = 0 then some 17 else none

/-- An operation counted. -/
def bump (w : World) (d : Nat) (left ops : Int) : World :=
  if 0 < left then (w.setCell ⟨d, 4, none⟩ (.int .i64 (ops + 1))).setCell ⟨d, 3, none⟩ (.int .i64 (left - 1)) else w.setCell ⟨d, 4, none⟩ (.int .i64 (ops + 1))

def DoPost (ns : List ByteArray) (left ops err : Int) (R : World → Prop) (d : Nat) (w : World) (e : Ending) (w' : World) : Prop :=
  match doStops ns left with
  | some x => e = .returned (.int .i64 x) ∧ w = w'
  | none => e = .returned (.int .i64 err) ∧ ((err ≠ 0 ∧ R w') ∨ (err = 0 ∧ ∃ w1, R w1 ∧ w' = bump w1 d left ops))

theorem DoPost.stop {ns : List ByteArray} {left ops err x : Int} {R : World → Prop} {d : Nat} {w : World} (h : doStops ns left = some x) : DoPost ns left ops err R d w (.returned (.int .i64 x)) w := by
  unfold DoPost; rw [h]; exact ⟨rfl, rfl⟩
theorem DoPost.bad {ns : List ByteArray} {left ops err : Int} {R : World → Prop} {d : Nat} {w w' : World} (h : doStops ns left = none) (he : err ≠ 0) (hR : R w') : DoPost ns left ops err R d w (.returned (.int .i64 err)) w' := by
  unfold DoPost; rw [h]; exact ⟨rfl, .inl ⟨he, hR⟩⟩
theorem DoPost.done {ns : List ByteArray} {left ops : Int} {R : World → Prop} {d : Nat} {w w1 : World} (h : doStops ns left = none) (hR : R w1) : DoPost ns left ops 0 R d w (.returned (.int .i64 0)) (bump w1 d left ops) := by
  unfold DoPost; rw [h]; exact ⟨rfl, .inr ⟨rfl, w1, hR, rfl⟩⟩

set_option maxHeartbeats 2000000 in
theorem do_any {w : World} {d mb : Nat} {room used left ops : Int} (hh : w.heap[d]? = some (.cells #[.map (some mb), .int .i64 room, .int .i64 used, .int .i64 left, .int .i64 ops] 71 (0, 0)))
    (nb c : Nat) (ns : List ByteArray) (hn : Src w 1 (.slice (some ⟨nb, 0, none⟩) ns.length c) ns.length (strs ns)) (hl : ∀ s ∈ ns, s.size ≤ maxLen) (hfew : ns.length ≤ 10) (hops : 0 ≤ ops) (hops2 : ops < 4611686018427387904) (hleft : -1 ≤ left) (hleft2 : left ≤ 9223372036854775807)
    (K : Nat) (caps : Array Value) (hcf : ∀ W, (callFunc K caps).run Tryz.prog W = .ok (.enter K caps) W) (err : Int) (R : World → Prop)
    (hK : left ≠ 0 → ns.all nameB = true → Calls Tryz.prog K caps w fun e w' => e = .returned (.int .i64 err) ∧ R w' ∧ (err = 0 → ∃ used', w'.heap[d]? = some (.cells #[.map (some mb), .int .i64 room, .int .i64 used', .int .i64 left, .int .i64 ops] 71 (0, 0)))) :
    Calls Tryz.prog 52 #[.pointer (some ⟨d, 0, none⟩), .slice (some ⟨nb, 0, none⟩) ns.length c, .func (.func K) #[] caps] w (DoPost ns left ops err R d w) := by
  have c0 : w.cell? ⟨d, 0, none⟩ = some (.map (some mb)) := by rw [cell_of_block hh]; rfl
  have c3 : w.cell? ⟨d, 3, none⟩ = some (.int .i64 left) := by rw [cell_of_block hh]; rfl
  have Hn := Lib.hid hn; have Hl := Lib.hid hl; have HK := Lib.hid hK; have Hh := Lib.hid hh
  clear hn hl hK hh
  obtain ⟨N, hN⟩ : ∃ N, N = ns.length := ⟨_, rfl⟩
  rw [← hN] at hfew ⊢
  have HN := Lib.hid hN; clear hN
  go_enter Tryz.func52, Tryz.ntmps52
  go_wp2_with (go_at_call 22; refine (disk_none c0).mono ?_; rintro e w' ⟨rfl, rfl⟩)
  go_loop [14] (fun i => ∃ k : Nat, k ≤ N ∧ i = .int .i64 k ∧ Hid ((ns.take k).all nameB = true)) (fun i => N - (intOf i).toNat)
  case atStart => exact ⟨0, Nat.zero_le _, rfl, rfl⟩
  case round =>
    obtain ⟨k, hk, rfl, hall⟩ := hrel
    by_cases hlt : k < N
    · obtain ⟨s, hs⟩ : ∃ s, ns[k]? = some s := ⟨ns[k]'(by rw [← HN.out]; exact hlt), by simp⟩
      have hcell := strs_cell Hn.out hs
      have hsz := Hl.out s (List.mem_of_getElem? hs)
      have Hs := Lib.hid hs; clear hs
      by_cases hb : nameB s = true
      · have hn2 : Hid ((ns.take (k + 1)).all nameB = true) := by
          show _ = _
          rw [List.take_add_one, Hs.out, List.all_append, hall.out]; simp [hb]
        have Hb := Lib.hid hb; clear hb
        go_wp2_with (go_at_call 88; refine (isName_any _ _ hsz).mono ?_; rintro e w' ⟨rfl, rfl⟩; rw [Hb.out])
        go_round
        case rel => exact ⟨k + 1, by omega, by go_num, hn2⟩
        case measure => simp [intOf]; omega
      · have hb' : nameB s = false := by simpa using hb
        have hst : doStops ns left = some 2 := by
          have : ns.all nameB = false := by rw [List.all_eq_false]; exact ⟨s, List.mem_of_getElem? Hs.out, by simp [hb']⟩
          simp [doStops, this]
        have Hst := Lib.hid hst; have Hb := Lib.hid hb'; clear hst hb hb'
        go_wp2_with (go_at_call 88; refine (isName_any _ _ hsz).mono ?_; rintro e w' ⟨rfl, rfl⟩; rw [Hb.out])
        go_ret
        exact DoPost.stop Hst.out
    · have hkN : k = N := by omega
      subst hkN
      have hall' : ns.all nameB = true := by
        have := hall.out
        rwa [HN.out, List.take_length] at this
      by_cases h0 : left = 0
      · have Hst := Lib.hid (show doStops ns left = some 17 by simp [doStops, hall', h0])
        have g0 : (left == 0) = true := by simp [h0]
        clear h0 hall'
        go_wp2_with fail
        go_ret
        exact DoPost.stop Hst.out
      · have Hst := Lib.hid (show doStops ns left = none by simp [doStops, hall', h0])
        have g0 : (left == 0) = false := by simp [h0]
        have HK' := Lib.hid (HK.out h0 hall'); clear HK hall' h0
        go_wp2_with fail
        refine HK'.out.mono ?_
        rintro e w1 ⟨rfl, hR, hb1⟩
        have HR := Lib.hid hR
        by_cases he : err = 0
        · subst he
          obtain ⟨used', hb1⟩ := hb1 rfl
          have d3 : w1.cell? ⟨d, 3, none⟩ = some (.int .i64 left) := by rw [cell_of_block hb1]; rfl
          have d4 : w1.cell? ⟨d, 4, none⟩ = some (.int .i64 ops) := by rw [cell_of_block hb1]; rfl
          have f3 : w1.frozen? ⟨d, 3, none⟩ = false := free_of_block hb1 3
          have f4 : w1.frozen? ⟨d, 4, none⟩ = false := free_of_block hb1 4
          clear hb1 hR HK'
          by_cases hp : 0 < left
          · have e1 := Lib.hid (show bump w1 d left ops = (w1.setCell ⟨d, 4, none⟩ (.int .i64 (ops + 1))).setCell ⟨d, 3, none⟩ (.int .i64 (left - 1)) by simp [bump, hp])
            go_wp2_with fail
            go_ret
            have := DoPost.done (d := d) (w := w) (ops := ops) Hst.out HR.out
            rw [e1.out] at this
            exact this
          · have e1 := Lib.hid (show bump w1 d left ops = w1.setCell ⟨d, 4, none⟩ (.int .i64 (ops + 1)) by simp [bump, hp])
            go_wp2_with fail
            go_ret
            have := DoPost.done (d := d) (w := w) (ops := ops) Hst.out HR.out
            rw [e1.out] at this
            exact this
        · have ge : (err != 0) = true := by simp [he]
          clear hb1 hR HK'
          go_wp2_with fail
          go_ret
          exact DoPost.bad Hst.out he HR.out

end Go.Proofs.YtgdgjnecgelalaaGreatDoor
