/- The document's answer: tidemillref12.Sorted, by insertion. -/
import Derived.Test.YteojffhkdfdmgaaRf12
import Derived.WalkLawsBesides
import Derived.IntWalk
namespace Go.Proofs.Yteojffhkdfdmgaa
open Go.RowKit Go.Sort Go.Lib

/-- A block that reads as strings at its beginning. -/
def StrBlk (w : World) (g cap : Nat) (L : List ByteArray) : Prop :=
  ∃ cur, w.heap[g]? = some (.cells cur 9 (0, 0)) ∧ cur.size = cap ∧ L.length ≤ cap ∧ cap ≤ maxLen ∧ cur.toList.take L.length = strs L
theorem StrBlk.row {w : World} {g cap : Nat} {L : List ByteArray} (h : StrBlk w g cap L) : Row w 9 1 (.slice (some ⟨g, 0, none⟩) L.length cap) L.length (strs L) := by
  obtain ⟨cur, h1, h2, h3, h4, h5⟩ := h
  exact ⟨by rw [strs_len]; omega, .inr ⟨g, cap, cur, rfl, Nat.zero_le _, h1, h3, h4, by omega, by rw [Nat.mul_one]; exact h5⟩⟩
theorem StrBlk.of_row {w : World} {v : Value} {L : List ByteArray} (h : Row w 9 1 v L.length (strs L)) (hp : 0 < L.length) : ∃ g cap, v = .slice (some ⟨g, 0, none⟩) L.length cap ∧ StrBlk w g cap L := by
  obtain ⟨_, ⟨_, h0⟩ | ⟨g, cap, cur, hv, _, h1, h2, h3, h4, h5⟩⟩ := h
  · omega
  · exact ⟨g, cap, hv, cur, h1, by omega, h2, h3, by rw [← h5, Nat.mul_one]⟩
theorem StrBlk.cell {w : World} {g cap : Nat} {L : List ByteArray} (h : StrBlk w g cap L) {k : Nat} {s : ByteArray} (hk : L[k]? = some s) : w.cell? ⟨g, k, none⟩ = some (.string s) := by
  obtain ⟨cur, h1, h2, h3, h4, h5⟩ := h
  rw [cell_of_block h1]
  have hkl := (List.getElem?_eq_some_iff.1 hk).1
  have := congrArg (fun l => l[k]?) h5
  simp only [List.getElem?_take, if_pos hkl, strs, List.getElem?_map, hk, Option.map_some] at this
  simpa using this
theorem StrBlk.free {w : World} {g cap : Nat} {L : List ByteArray} (h : StrBlk w g cap L) (k : Nat) : w.frozen? ⟨g, k, none⟩ = false := by
  obtain ⟨cur, h1, _⟩ := h
  exact free_of_block h1 k
theorem StrBlk.set {w : World} {g cap : Nat} {L : List ByteArray} (h : StrBlk w g cap L) (k : Nat) (s : ByteArray) : StrBlk (w.setCell ⟨g, k, none⟩ (.string s)) g cap (L.set k s) := by
  obtain ⟨cur, h1, h2, h3, h4, h5⟩ := h
  refine ⟨cur.setIfInBounds k (.string s), setCell_block h1 _, by simp [h2], by simpa using h3, h4, ?_⟩
  rw [Array.toList_setIfInBounds, List.length_set, List.take_set, h5]
  simp [strs, List.map_set]
theorem StrBlk.chg {S : Nat → Prop} {w w' : World} {g cap : Nat} {L : List ByteArray} (h : StrBlk w g cap L) (hc : Chg S w w') (hn : ¬ S g) : StrBlk w' g cap L := by
  obtain ⟨cur, h1, h2⟩ := h
  exact ⟨cur, (hc.block g (block_lt h1) hn).trans h1, h2⟩
theorem StrBlk.ext {w w' : World} {g cap : Nat} {L : List ByteArray} (h : StrBlk w g cap L) (hc : Ext w w') : StrBlk w' g cap L := h.chg (Chg.of_ext (S := fun _ => False) hc) id
theorem StrBlk.lt {w : World} {g cap : Nat} {L : List ByteArray} (h : StrBlk w g cap L) : g < w.heap.size := by
  obtain ⟨cur, h1, _⟩ := h
  exact block_lt h1

/-- Where x stands while it sinks. -/
structure Sinks (P : List ByteArray) (x : ByteArray) (k : Nat) (L : List ByteArray) : Prop where
  eq : L = P.take k ++ x :: P.drop k
  le : k ≤ P.length
  gt : ∀ y ∈ P.drop k, bl x < bl y
  sorted : P.Pairwise fun a b => bl a ≤ bl b
theorem Sinks.start {P : List ByteArray} {x : ByteArray} (h : P.Pairwise fun a b => bl a ≤ bl b) : Sinks P x P.length (P ++ [x]) :=
  ⟨by simp, Nat.le_refl _, by simp, h⟩
theorem Sinks.len {P L : List ByteArray} {x : ByteArray} {k : Nat} (h : Sinks P x k L) : L.length = P.length + 1 := by
  have := h.le
  rw [h.eq]; simp; omega
theorem Sinks.at {P L : List ByteArray} {x : ByteArray} {k : Nat} (h : Sinks P x k L) : L[k]? = some x := by
  have := h.le
  have e : (P.take k).length = k := by simp; omega
  rw [h.eq, List.getElem?_append_right (by omega), e]; simp
theorem Sinks.ahead {P L : List ByteArray} {x : ByteArray} {k : Nat} (h : Sinks P x (k + 1) L) : ∃ y, P[k]? = some y ∧ L[k]? = some y := by
  have := h.le
  have hk : k < P.length := by omega
  refine ⟨P[k], List.getElem?_eq_getElem hk, ?_⟩
  rw [h.eq, List.getElem?_append_left (by simp; omega), List.getElem?_take, if_pos (by omega), List.getElem?_eq_getElem hk]
theorem Sinks.step {P L : List ByteArray} {x y : ByteArray} {k : Nat} (h : Sinks P x (k + 1) L) (hy : P[k]? = some y) (hlt : bl x < bl y) : Sinks P x k ((L.set (k + 1) y).set k x) := by
  have hle := h.le
  obtain ⟨hk, rfl⟩ := List.getElem?_eq_some_iff.1 hy
  refine ⟨?_, by omega, fun z hz => ?_, h.sorted⟩
  · have e1 : (P.take k).length = k := by simp; omega
    have e2 : P.take (k + 1) = P.take k ++ [P[k]] := by rw [List.take_add_one, List.getElem?_eq_getElem hk]; rfl
    have e3 : P.drop k = P[k] :: P.drop (k + 1) := List.drop_eq_getElem_cons hk
    rw [h.eq, e2, e3]
    simp only [List.append_assoc, List.singleton_append]
    rw [List.set_append, if_neg (by omega), e1, show k + 1 - k = 1 by omega, List.set_append, if_neg (by omega), e1, Nat.sub_self]
    rfl
  · rw [List.drop_eq_getElem_cons hk] at hz
    rcases List.mem_cons.1 hz with rfl | hz
    · exact hlt
    · exact h.gt z hz
theorem Sinks.done {P L : List ByteArray} {x : ByteArray} {k : Nat} (h : Sinks P x k L) (hd : k = 0 ∨ ∃ y, P[k - 1]? = some y ∧ bl y ≤ bl x) : L.Pairwise fun a b => bl a ≤ bl b := by
  have hs := h.sorted
  rw [h.eq, List.pairwise_append]
  rw [← List.take_append_drop k P, List.pairwise_append] at hs
  refine ⟨hs.1, List.pairwise_cons.2 ⟨fun y hy => List.le_of_lt (h.gt y hy), hs.2.1⟩, fun a ha b hb => ?_⟩
  have hax : bl a ≤ bl x := by
    rcases hd with rfl | ⟨y, hy, hyx⟩
    · simp at ha
    · obtain ⟨i, hi⟩ := List.getElem?_of_mem ha
      rw [List.getElem?_take] at hi
      split at hi
      · rename_i hik
        obtain ⟨h1, rfl⟩ := List.getElem?_eq_some_iff.1 hi
        obtain ⟨h2, rfl⟩ := List.getElem?_eq_some_iff.1 hy
        refine List.le_trans ?_ hyx
        rcases Nat.lt_or_ge i (k - 1) with hlt | hge
        · exact List.pairwise_iff_getElem.1 h.sorted i (k - 1) h1 h2 hlt
        · have : i = k - 1 := by omega
          subst this; exact List.le_refl _
      · cases hi
  rcases List.mem_cons.1 hb with rfl | hb
  · exact hax
  · exact List.le_trans hax (List.le_of_lt (h.gt b hb))
theorem Sinks.perm {P L : List ByteArray} {x : ByteArray} {k : Nat} (h : Sinks P x k L) : L.Perm (P ++ [x]) := by
  rw [h.eq]
  refine List.perm_middle.trans ?_
  rw [List.take_append_drop]
  exact (List.perm_append_singleton x P).symm

set_option maxHeartbeats 8000000 in
set_option maxRecDepth 100000 in
theorem refSorted_any (w : World) (a : Option Addr) (n c : Nat) (l : List ByteArray) (hs : Src w 1 (.slice a n c) n (strs l)) (hn : n ≤ 4398046511104) :
    Calls Try.prog 18 #[.slice a n c] w fun e w' => ∃ v, e = .returned v ∧ StrsTo w (sortS l) v w' := by
  have HS := Lib.hid hs
  have LN := Lib.hid (strs_src_len hs)
  clear hs
  go_enter Try.func18, Try.ntmps18
  go_wp2_with fail
  go_loopw [3, 4] (fun v i wr => ∃ (k : Nat) (va : Option Addr) (vc : Nat) (P : List ByteArray), k ≤ n ∧ i = .int .i64 k ∧ v = .slice va k vc ∧ Hid (P.length = k ∧ P.Perm (l.take k) ∧ P.Pairwise (fun a b => bl a ≤ bl b) ∧ StrsTo w P (.slice va k vc) wr)) (fun _ i _ => n - (RowKit.intOf i).toNat)
  case atStart => exact ⟨0, none, 0, [], by omega, rfl, rfl, Lib.hid ⟨rfl, by simp, List.Pairwise.nil, Row.nil _ _ _, fun g hg => by simp [Value.ownBlock] at hg, Ext.refl w⟩⟩
  case round =>
    obtain ⟨k, va, vc, P, hk, rfl, rfl, HI⟩ := hrel
    by_cases hlt : k < n
    · obtain ⟨b1, o1, x, rfl, hx, c1⟩ := strs_src (HS.out.ext HI.out.2.2.2.ext) hlt
      have HX := Lib.hid hx
      have HR : Hid (Row wr 9 1 (.slice va k vc) k (strs P)) := Lib.hid (by have := HI.out.2.2.2.row; rwa [HI.out.1] at this)
      clear hx
      go_wp2_with (at_builtin; go_must (refine wpList_append_to (n := k) (m := 1) elem_str rfl _ _ rfl (v := .slice _ _ _) rfl rfl (HR.out.alloc _) (src_str' (heap_alloc_new _ _)) (by unfold maxLen; omega) (by omega) ?_; intro v2 w3 happ); obtain ⟨va2, vc2, rfl⟩ := happ.row.shape; have HAP := Lib.hid happ; clear happ)
      have happ := HAP.out
      clear HAP
      have hrow : Row w3 9 1 (.slice va2 (k + 1) vc2) (P ++ [x]).length (strs (P ++ [x])) := by
        have := happ.row
        rw [show strs (P ++ [x]) = strs P ++ strs [x] by simp [strs], List.length_append, HI.out.1]
        exact this
      obtain ⟨g, cap, hv2, hblk⟩ := StrBlk.of_row hrow (by simp)
      have hlen : (P ++ [x]).length = k + 1 := by have := HI.out.1; simp; omega
      rw [hlen] at hv2
      cases hv2
      have hg : w.heap.size ≤ g := by
        rcases happ.loc with e | e
        · exact HI.out.2.2.2.own g (by rw [← e]; rfl)
        · have := HI.out.2.2.2.ext.size; simp [Value.ownBlock] at e; omega
      have HX3 : Hid (Ext w w3) := Lib.hid (Chg.ext ((Chg.of_ext (HI.out.2.2.2.ext.alloc _)).trans happ.chg (fun _ _ h => h)) (fun i hi e => by have := HI.out.2.2.2.own i e; omega))
      have HB : Hid (StrBlk w3 g vc2 (P ++ [x])) := Lib.hid hblk
      have HSK : Hid (Sinks P x k (P ++ [x])) := Lib.hid (by have := Sinks.start (x := x) HI.out.2.2.1; rwa [HI.out.1] at this)
      have HP := Lib.hid HI.out.1
      clear happ hrow hblk hlen HR
      go_loopw [5] (fun i wq => ∃ (j : Nat) (L : List ByteArray), j ≤ k ∧ i = .int .i64 j ∧ Hid (Sinks P x j L ∧ StrBlk wq g vc2 L ∧ Ext w wq)) (fun i _ => (RowKit.intOf i).toNat)
      case atStart => exact ⟨k, _, Nat.le_refl _, by go_num, Lib.hid ⟨HSK.out, HB.out, HX3.out⟩⟩
      case round =>
        obtain ⟨j, L, hj, rfl, HJ⟩ := hrel
        have hjk : j < k + 1 := by omega
        have cx := HJ.out.2.1.cell HJ.out.1.at
        by_cases hgo : ∃ p y, j = p + 1 ∧ P[p]? = some y ∧ L[p]? = some y ∧ bl x < bl y
        · obtain ⟨p, y, hjp, hy, hly, hxy⟩ := hgo
          have cy := HJ.out.2.1.cell hly
          have hpk : p < k + 1 := by omega
          have hp1 : (j : Int) - 1 = (p : Int) := by omega
          have hw1 : IntKind.i64.wrap ((j : Int) - 1) = (p : Int) := by rw [IntWalk.i64_in _ (by omega)]; omega
          have hg0 : 0 < j := by omega
          have hlss : Op.bytesLess x.toList y.toList = true := by rw [less_eq]; simpa using hxy
          have HJP := Lib.hid hjp
          have HY := Lib.hid hy
          have HLY := Lib.hid hly
          have HXY := Lib.hid hxy
          have HP1 := Lib.hid hp1
          clear hjp hy hly hxy hp1
          go_wp2_with fail
          go_big_quiet (fail)
          generalize hwd : World.drewN wr _ = wd
          have HBD : Hid (StrBlk wd g vc2 L) := Lib.hid (HJ.out.2.1.ext (by rw [← hwd]; exact Ext.drewN _ _))
          have HXD : Hid (Ext w wd) := Lib.hid (HJ.out.2.2.trans (by rw [← hwd]; exact Ext.drewN _ _))
          clear hwd cx cy hw1
          have cx := HBD.out.cell HJ.out.1.at
          have cy := HBD.out.cell HLY.out
          have fx := HBD.out.free j
          have HB2 := Lib.hid (HBD.out.set j y)
          have cy2 := HB2.out.cell (k := p) (s := y) (by rw [List.getElem?_set_ne (by have := HJP.out; omega)]; exact HLY.out)
          have fy := HB2.out.free p
          have hp1 := HP1.out
          go_wp2_with fail
          go_roundw
          case rel => exact ⟨p, (L.set j y).set p x, by omega, rfl, Lib.hid ⟨by have h := Sinks.step (by have := HJ.out.1; rw [HJP.out] at this; exact this) HY.out HXY.out; rw [← HJP.out] at h; exact h, HB2.out.set p x, (HXD.out.setCell (by exact hg) _).setCell (by exact hg) _⟩⟩
          case measure => simp [RowKit.intOf]; have := HJP.out; omega
        · have HD : Hid (L.Pairwise fun a b => bl a ≤ bl b) := Lib.hid (HJ.out.1.done (by
            rcases Nat.eq_zero_or_pos j with h0 | h0
            · exact .inl h0
            · obtain ⟨p, rfl⟩ : ∃ p, j = p + 1 := ⟨j - 1, by omega⟩
              obtain ⟨y, h1, h2⟩ := HJ.out.1.ahead
              refine .inr ⟨y, h1, ?_⟩
              exact List.not_lt.1 (fun h => hgo ⟨p, y, rfl, h1, h2, h⟩)))
          have HL2 : Hid (L.length = k + 1 ∧ L.Perm (l.take (k + 1))) := Lib.hid ⟨by rw [HJ.out.1.len, HP.out], HJ.out.1.perm.trans (by rw [List.take_add_one, HX.out]; exact HI.out.2.1.append_right _)⟩
          rcases Nat.eq_zero_or_pos j with h0 | h0
          case' inl =>
            have hg0 : ¬ 0 < j := by omega
            clear hgo h0
          case' inr =>
            obtain ⟨p, hjp⟩ : ∃ p, j = p + 1 := ⟨j - 1, by omega⟩
            obtain ⟨y, hy, hly⟩ := (show Sinks P x (p + 1) L by have := HJ.out.1; rwa [hjp] at this).ahead
            have cy := HJ.out.2.1.cell hly
            have hpk : p < k + 1 := by omega
            have hw1 : IntKind.i64.wrap ((j : Int) - 1) = (p : Int) := by rw [IntWalk.i64_in _ (by omega)]; omega
            have hlss : Op.bytesLess x.toList y.toList = false := by
              rw [less_eq]
              simp only [decide_eq_false_iff_not]
              intro h
              exact hgo ⟨p, y, hjp, hy, hly, h⟩
            clear hgo hjp hy hly
          all_goals
            go_wp2_with fail
            go_big_quiet (fail)
            generalize hwd : World.drewN wr _ = wd
            have HBD : Hid (StrBlk wd g vc2 L) := Lib.hid (HJ.out.2.1.ext (by rw [← hwd]; exact Ext.drewN _ _))
            have HXD : Hid (Ext w wd) := Lib.hid (HJ.out.2.2.trans (by rw [← hwd]; exact Ext.drewN _ _))
            clear hwd cx
            go_wp2_with fail
            go_roundw
            case rel => exact ⟨k + 1, some ⟨g, 0, none⟩, vc2, L, by omega, by go_num, rfl, Lib.hid ⟨HL2.out.1, HL2.out.2, HD.out, by have h := HBD.out.row; rw [HL2.out.1] at h; rw [HL2.out.1]; exact h, fun g' hg' => by simp [Value.ownBlock] at hg'; omega, HXD.out⟩⟩
            case measure => simp [RowKit.intOf]; omega
    · have hkn : k = n := by omega
      have HE : Hid (StrsTo w (sortS l) (.slice va k vc) wr) := Lib.hid (by
        have h := HI.out
        have e : P = sortS l := sorted_unique (h.2.1.trans (by rw [List.take_of_length_le (by have := LN.out; omega)]; exact (sortS_perm l).symm)) h.2.2.1 (sortS_sorted l)
        rw [← e]; exact h.2.2.2)
      clear hkn
      go_wp2_with fail
      go_ret
      exact ⟨_, rfl, HE.out⟩
end Go.Proofs.Yteojffhkdfdmgaa
