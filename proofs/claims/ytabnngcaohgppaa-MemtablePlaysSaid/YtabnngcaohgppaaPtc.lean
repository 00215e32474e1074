/- tidemillref13.Same and merge.Cut. -/
import Derived.Test.YtabnngcaohgppaaPts
import Derived.Laws.StructEq
namespace Go.Proofs.Ytabnngcaohgppaa
open Go.RowKit Go.Sort Go.Lib

theorem Ext.drewN' {a w : World} (h : Ext a w) (k : Nat) : Ext a (w.drewN k) := h.trans (Ext.drewN _ _)

theorem take_snoc' {α : Type} {l : List α} {k : Nat} {x : α} (h : l[k]? = some x) : l.take (k + 1) = l.take k ++ [x] := by
  obtain ⟨h1, h2⟩ := List.getElem?_eq_some_iff.1 h
  rw [← h2, List.take_succ_eq_append_getElem h1]

set_option maxHeartbeats 2000000 in
set_option maxRecDepth 100000 in
theorem same_any (w : World) (a b : Option Addr) (n c m d : Nat) (l k : List Pt) (hl : Src w 3 (.slice a n c) n (pts l)) (hk : Src w 3 (.slice b m d) m (pts k)) (hn : n < 4611686018427387904) (hm : m < 4611686018427387904) :
    Calls Try.prog 19 #[.slice a n c, .slice b m d] w fun e w' => e = .returned (.bool (decide (l = k))) ∧ Ext w w' := by
  have HL := Lib.hid hl; have HK := Lib.hid hk
  have Ln := Lib.hid (src_len hl); have Km := Lib.hid (src_len hk)
  clear hl hk
  by_cases hnm : n = m
  · subst hnm
    go_enter Try.func19, Try.ntmps19
    go_wp2_with fail
    go_loopw [5] (fun i wr => ∃ j : Nat, j ≤ n ∧ i = .int .i64 j ∧ Hid (Ext w wr ∧ l.take j = k.take j)) (fun i _ => n - (intOf i).toNat)
    case atStart => exact ⟨0, by omega, rfl, Lib.hid ⟨Ext.refl _, rfl⟩⟩
    case round =>
      obtain ⟨j, hj, rfl, I⟩ := hrel
      by_cases hlt : j < n
      · obtain ⟨pb, po, p, rfl, hp, p0, p1, p2⟩ := pts_src (HL.out.ext I.out.1) hlt
        obtain ⟨qb, qo, q, rfl, hq, q0, q1, q2⟩ := pts_src (HK.out.ext I.out.1) hlt
        have HP := Lib.hid hp; have HQ := Lib.hid hq
        clear hp hq
        by_cases hpq : p = q
        · subst hpq
          go_wp2_with fail
          go_quiet (fail)
          go_wp2_with fail
          go_roundw
          case rel => exact ⟨j + 1, by omega, by go_num, Lib.hid ⟨I.out.1.drewN' _, by rw [take_snoc' HP.out, take_snoc' HQ.out, I.out.2]⟩⟩
          case measure => simp [intOf]; omega
        · have HF : Hid (l ≠ k) := Lib.hid (fun e => hpq (by have h1 := HP.out; rw [e, HQ.out] at h1; cases h1; rfl))
          obtain ⟨pt, pv, ps⟩ := p
          obtain ⟨qt, qv, qs⟩ := q
          have hd : pt ≠ qt ∨ (pt = qt ∧ pv ≠ qv) ∨ (pt = qt ∧ pv = qv ∧ ps ≠ qs) := by
            by_cases h1 : pt = qt
            · by_cases h2 : pv = qv
              · exact .inr (.inr ⟨h1, h2, fun h3 => hpq (by rw [h1, h2, h3])⟩)
              · exact .inr (.inl ⟨h1, h2⟩)
            · exact .inl h1
          clear hpq
          simp only at p0 p1 p2 q0 q1 q2
          rcases hd with hd | ⟨rfl, hd⟩ | ⟨rfl, rfl, hd⟩
          · have hb : (pt == qt) = false := beq_eq_false_iff_ne.2 hd
            have hb2 : (pt != qt) = true := bne_iff_ne.2 hd
            clear hd
            go_wp2_with fail
            go_quiet (fail)
            go_wp2_with fail
            go_ret
            exact ⟨by rw [decide_eq_false HF.out]; rfl, I.out.1.drewN' _⟩
          · have hb : (pv == qv) = false := beq_eq_false_iff_ne.2 hd
            have hb2 : (pv != qv) = true := bne_iff_ne.2 hd
            clear hd
            go_wp2_with fail
            go_quiet (fail)
            go_wp2_with fail
            go_ret
            exact ⟨by rw [decide_eq_false HF.out]; rfl, I.out.1.drewN' _⟩
          · have hb : (ps == qs) = false := beq_eq_false_iff_ne.2 hd
            have hb2 : (ps != qs) = true := bne_iff_ne.2 hd
            clear hd
            go_wp2_with fail
            go_quiet (fail)
            go_wp2_with fail
            go_ret
            exact ⟨by rw [decide_eq_false HF.out]; rfl, I.out.1.drewN' _⟩
      · have HF : Hid (l = k) := Lib.hid (by
          have := I.out.2
          rwa [List.take_of_length_le (by have := Ln.out; omega), List.take_of_length_le (by have := Km.out; omega)] at this)
        go_wp2_with fail
        go_ret
        exact ⟨by rw [decide_eq_true HF.out]; rfl, I.out.1⟩
  · have hf : l ≠ k := fun e => hnm (by rw [← Ln.out, ← Km.out, e])
    have HF := Lib.hid hf
    have hb : ((n : Int) != (m : Int)) = true := by rw [bne_iff_ne]; omega
    clear hf
    go_enter Try.func19, Try.ntmps19
    go_wp2_with fail
    go_ret
    exact ⟨by rw [decide_eq_false HF.out]; rfl, Ext.refl _⟩

/-- What Cut leaves: a row of its own. -/
structure CutTo (w : World) (out : List Pt) (v : Value) (w' : World) : Prop where
  row : Row w' 33 3 v out.length (pts out)
  own : ∀ g, v.ownBlock = some g → w.heap.size ≤ g
  ext : Ext w w'

theorem CutTo.snoc {w W w3 : World} {out : List Pt} {v v' : Value} {p : Pt} (h : CutTo w out v W) {W' : World} (hx : Ext W W') (ha : Appended W' 33 3 v (out.length + 1) (pts out ++ pts [p]) v' w3) : CutTo w (out ++ [p]) v' w3 := by
  have hs := h.ext.size
  have hs2 := hx.size
  refine ⟨by rw [List.length_append, pts_append]; exact ha.row, fun g hg => ?_, Chg.ext ((Chg.of_ext (h.ext.trans hx)).trans ha.chg (fun _ _ h => h)) (fun i hi e => ?_)⟩
  · rcases ha.loc with e | e
    · exact h.own g (e ▸ hg)
    · rw [e] at hg; cases hg; omega
  · have := h.own i e; omega
theorem CutTo.next {w W W' : World} {out : List Pt} {v : Value} (h : CutTo w out v W) (hx : Ext W W') : CutTo w out v W' := ⟨h.row.ext hx, h.own, h.ext.trans hx⟩
theorem CutTo.nil (w : World) : CutTo w [] (.slice none 0 0) w := ⟨Row.nil _ _ _, fun g hg => by simp [Value.ownBlock] at hg, Ext.refl _⟩

theorem cutL_snoc (f t : Int) (l : List Pt) (p : Pt) : cutL f t (l ++ [p]) = if f ≤ p.t ∧ p.t < t then cutL f t l ++ [p] else cutL f t l := by
  by_cases h : f ≤ p.t ∧ p.t < t
  · rw [if_pos h]; simp [cutL, List.filter_append, h.1, h.2]
  · rw [if_neg h]
    have : (decide (f ≤ p.t) && decide (p.t < t)) = false := by rw [Bool.eq_false_iff]; simpa using h
    simp [cutL, List.filter_append, this]
theorem cutL_len (f t : Int) (l : List Pt) : (cutL f t l).length ≤ l.length := List.length_filter_le _ _

set_option maxHeartbeats 4000000 in
set_option maxRecDepth 100000 in
theorem cut_any (w : World) (a : Option Addr) (n c : Nat) (f t : Int) (l : List Pt) (hl : Src w 3 (.slice a n c) n (pts l)) (hn : n < 4398046511104) :
    Calls Try.prog 26 #[.slice a n c, .int .i64 f, .int .i64 t] w fun e w' => ∃ v, e = .returned v ∧ CutTo w (cutL f t l) v w' := by
  have HL := Lib.hid hl
  have Ln := Lib.hid (src_len hl)
  clear hl
  go_enter Try.func26, Try.ntmps26
  go_wp2_with fail
  go_loopw [12, 7] (fun i s7 wr => ∃ (j : Nat) (oa : Option Addr) (oc on : Nat), j ≤ n ∧ i = .int .i64 j ∧ s7 = .slice oa on oc ∧ on ≤ j ∧ Hid (on = (cutL f t (l.take j)).length ∧ CutTo w (cutL f t (l.take j)) (.slice oa on oc) wr)) (fun i _ _ => n - (intOf i).toNat)
  case atStart => exact ⟨0, none, 0, 0, by omega, rfl, rfl, by omega, Lib.hid ⟨by simp [cutL], by simpa [cutL] using CutTo.nil w⟩⟩
  case round =>
    obtain ⟨j, oa, oc, on, hj, rfl, rfl, hon, I⟩ := hrel
    by_cases hlt : j < n
    · obtain ⟨pb, po, p, rfl, hp, p0, p1, p2⟩ := pts_src (HL.out.ext I.out.2.ext) hlt
      have HT := Lib.hid (take_snoc' hp)
      clear hp
      have HC := Lib.hid (cutL_snoc f t (l.take j) p)
      by_cases hin : f ≤ p.t ∧ p.t < t
      · obtain ⟨h1, h2⟩ := hin
        have HC' : Hid (cutL f t (l.take (j + 1)) = cutL f t (l.take j) ++ [p]) := Lib.hid (by rw [HT.out, HC.out, if_pos ⟨h1, h2⟩])
        go_wp2_with (at_builtin; go_must (refine wpList_append_to (m := 1) elem_pt rfl _ _ rfl (v := .slice _ _ _) rfl rfl (((I.out.2.row.alloc _)).alloc _) (src_pt' (heap_alloc2 _ _ _)) (by unfold maxLen; have := I.out.1; omega) (by have := I.out.1; omega) ?_; intro v' w3 happ); have K := Lib.hid (I.out.2.snoc (((Ext.refl _).alloc _).alloc _) happ); obtain ⟨oa', oc', rfl⟩ := happ.row.shape; clear happ)
        go_roundw
        case rel => exact ⟨j + 1, oa', oc', _, by omega, by go_num, rfl, by have := I.out.1; omega, Lib.hid (by rw [HC'.out]; exact ⟨by simp, K.out⟩)⟩
        case measure => simp [intOf]; omega
      · have HC' : Hid (cutL f t (l.take (j + 1)) = cutL f t (l.take j)) := Lib.hid (by rw [HT.out, HC.out, if_neg hin])
        by_cases h1 : f ≤ p.t
        · have h2 : ¬ p.t < t := fun h => hin ⟨h1, h⟩
          go_wp2_with fail
          go_roundw
          case rel => exact ⟨j + 1, oa, oc, on, by omega, by go_num, rfl, by omega, Lib.hid (by rw [HC'.out]; exact ⟨I.out.1, I.out.2.next ((Ext.refl _).alloc _)⟩)⟩
          case measure => simp [intOf]; omega
        · go_wp2_with fail
          go_roundw
          case rel => exact ⟨j + 1, oa, oc, on, by omega, by go_num, rfl, by omega, Lib.hid (by rw [HC'.out]; exact ⟨I.out.1, I.out.2.next ((Ext.refl _).alloc _)⟩)⟩
          case measure => simp [intOf]; omega
    · have HF : Hid (l.take j = l) := Lib.hid (List.take_of_length_le (by have := Ln.out; omega))
      go_wp2_with fail
      go_ret
      refine ⟨_, rfl, ?_⟩
      have := I.out.2; rw [HF.out] at this; exact this

end Go.Proofs.Ytabnngcaohgppaa
