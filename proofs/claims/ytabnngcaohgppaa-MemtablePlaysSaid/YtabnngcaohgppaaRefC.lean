/- tidemillref15.Cut. -/
import Derived.Test.YtabnngcaohgppaaRef15
namespace Go.Proofs.Ytabnngcaohgppaa
open Go.RowKit Go.Sort Go.Lib

set_option maxHeartbeats 4000000 in
set_option maxRecDepth 100000 in
theorem refCut_any (w : World) (a : Option Addr) (n c : Nat) (f t : Int) (l : List Pt) (hl : Src w 3 (.slice a n c) n (pts l)) (hn : n < 4398046511104) :
    Calls Try.prog 33 #[.slice a n c, .int .i64 f, .int .i64 t] w fun e w' => ∃ v, e = .returned v ∧ CutTo w (cutL f t l) v w' := by
  have HL := Lib.hid hl
  have Ln := Lib.hid (src_len hl)
  clear hl
  go_enter Try.func33, Try.ntmps33
  go_wp2_with fail
  go_loopw [8, 7] (fun i s7 wr => ∃ (j : Nat) (oa : Option Addr) (oc on : Nat), j ≤ n ∧ i = .int .i64 j ∧ s7 = .slice oa on oc ∧ on ≤ j ∧ Hid (on = (cutL f t (l.take j)).length ∧ CutTo w (cutL f t (l.take j)) (.slice oa on oc) wr)) (fun i _ _ => n - (intOf i).toNat)
  case atStart => exact ⟨0, none, 0, 0, by omega, rfl, rfl, by omega, Lib.hid ⟨by simp [cutL], by simpa [cutL] using CutTo.nil w⟩⟩
  case round =>
    obtain ⟨j, oa, oc, on, hj, rfl, rfl, hon, I⟩ := hrel
    by_cases hlt : j < n
    · obtain ⟨pb, po, p, rfl, hp, p0, p1, p2⟩ := pts_src (HL.out.ext I.out.2.ext) hlt
      have HT := Lib.hid (take_snoc' hp)
      clear hp
      have HC := Lib.hid (cutL_snoc f t (l.take j) p)
      by_cases hin : f ≤ p.t ∧ p.t < t
      · obtain ⟨h1, h2⟩ := hin
        have HC' : Hid (cutL f t (l.take (j + 1)) = cutL f t (l.take j) ++ [p]) := Lib.hid (by rw [HT.out, HC.out, if_pos ⟨h1, h2⟩])
        go_wp2_with (at_builtin; go_must (refine wpList_append_to (m := 1) elem_pt rfl _ _ rfl (v := .slice _ _ _) rfl rfl (I.out.2.row.alloc _) (src_pt' (p := p) (heap_alloc_new _ _)) (by unfold maxLen; have := I.out.1; omega) (by have := I.out.1; omega) ?_; intro v' w3 happ); have K := Lib.hid (I.out.2.snoc ((Ext.refl _).alloc _) happ); obtain ⟨oa', oc', rfl⟩ := happ.row.shape; clear happ)
        go_roundw
        case rel => exact ⟨j + 1, oa', oc', _, by omega, by go_num, rfl, by have := I.out.1; omega, Lib.hid (by rw [HC'.out]; exact ⟨by simp, K.out⟩)⟩
        case measure => simp [intOf]; omega
      · have HC' : Hid (cutL f t (l.take (j + 1)) = cutL f t (l.take j)) := Lib.hid (by rw [HT.out, HC.out, if_neg hin])
        by_cases h1 : f ≤ p.t
        · have h2 : ¬ p.t < t := fun h => hin ⟨h1, h⟩
          go_wp2_with fail
          go_roundw
          case rel => exact ⟨j + 1, oa, oc, on, by omega, by go_num, rfl, by omega, Lib.hid (by rw [HC'.out]; exact ⟨I.out.1, I.out.2⟩)⟩
          case measure => simp [intOf]; omega
        · go_wp2_with fail
          go_roundw
          case rel => exact ⟨j + 1, oa, oc, on, by omega, by go_num, rfl, by omega, Lib.hid (by rw [HC'.out]; exact ⟨I.out.1, I.out.2⟩)⟩
          case measure => simp [intOf]; omega
    · have HF : Hid (l.take j = l) := Lib.hid (List.take_of_length_le (by have := Ln.out; omega))
      go_wp2_with fail
      go_ret
      refine ⟨_, rfl, ?_⟩
      have := I.out.2; rw [HF.out] at this; exact this

end Go.Proofs.Ytabnngcaohgppaa
