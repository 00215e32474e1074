/- tidemillref03: Put, PutText. -/
import Derived.Test.YtafaagkhgdggbaaDoorR03
namespace Go.Proofs.YtafaagkhgdggbaaDoor
open Go.RowKit Go.Sort Go.Lib

theorem MadeTo.app {w0 w w' : World} {e : TypeId} {size n : Nat} {v v' : Value} {ys : List Value} (hown : ∀ g, v.ownBlock = some g → w0.heap.size ≤ g) (hx : Ext w0 w) (ha : Appended w e size v n ys v' w') : MadeTo w0 e size v' n ys w' :=
  ⟨ha.row, fun g hg => by
    rcases ha.loc with e | e
    · exact hown g (e ▸ hg)
    · rw [e] at hg; cases hg; exact hx.size,
   Chg.ext ((Chg.of_ext hx).trans ha.chg (fun _ _ e => e)) (fun i hi e => by have := hown i e; omega)⟩
theorem MadeTo.trans {w0 w1 w2 : World} {e : TypeId} {size n : Nat} {v : Value} {xs : List Value} (hx : Ext w0 w1) (h : MadeTo w1 e size v n xs w2) : MadeTo w0 e size v n xs w2 :=
  ⟨h.row, fun g hg => Nat.le_trans hx.size (h.own g hg), hx.trans h.ext⟩
theorem row_empty {W : World} {b : Nat} {t : TypeId} (h : W.heap[b]? = some (.cells #[] t (0, 0))) : Row W t 1 (.slice (some ⟨b, 0, none⟩) 0 0) 0 [] :=
  ⟨rfl, .inr ⟨b, 0, #[], rfl, Nat.zero_le _, h, Nat.le_refl _, by unfold maxLen; omega, rfl, rfl⟩⟩

/-- What has been put so far. -/
structure Put3R (w : World) (xs full : List UInt8) (u n : Nat) (v : Value) (wr : World) : Prop where
  st : MadeTo w 5 1 v n (u8s xs) wr
  len : n = xs.length
  eq : xs ++ varP u = full

set_option maxHeartbeats 4000000 in
set_option maxRecDepth 100000 in
theorem ref3Put_any (w : World) (a : Option Addr) (n c : Nat) (l : List UInt8) (u : Nat) (hu : u < 2 ^ 64) (hl : Src w 1 (.slice a n c) n (u8s l)) (hn : n ≤ 70368744177664) :
    Calls Tryd.prog 27 #[.slice a n c, .int .u64 (u : Int)] w fun e w' => ∃ v, e = .returned v ∧ MadeTo w 5 1 v (l ++ varP u).length (u8s (l ++ varP u)) w' := by
  have HL := Lib.hid hl
  have HLEN := Lib.hid (u8s_src_len hl)
  clear hl
  go_enter Tryd.func27, Tryd.ntmps27
  go_wp2_with (at_builtin; go_must (refine wpList_append_to elem_u8 rfl _ _ rfl (n := 0) (m := n) (v := .slice _ _ _) rfl rfl (row_empty (heap_alloc_new _ _)) (HL.out.ext ((Ext.refl w).alloc _)) (by unfold maxLen; omega) (by omega) ?_; intro v' w4 happ); have HM := Lib.hid (MadeTo.app (w0 := w) (fun g hg => by simp [Value.ownBlock] at hg; omega) ((Ext.refl w).alloc _) happ); obtain ⟨va, vc, rfl⟩ := happ.row.shape; clear happ)
  have H0 : Hid (Put3R w l (l ++ varP u) u n (.slice va (0 + n) vc) w4) := Lib.hid ⟨by have := HM.out; simpa using this, HLEN.out.symm, rfl⟩
  clear HM
  go_loopw [1, 5] (fun su sv wr => ∃ (u' m : Nat) (va : Option Addr) (vc : Nat) (xs : List UInt8), su = .int .u64 (u' : Int) ∧ sv = .slice va m vc ∧ u' < 2 ^ 64 ∧ m ≤ n + 10 ∧ Hid (Put3R w xs (l ++ varP u) u' m (.slice va m vc) wr)) (fun su _ _ => (RowKit.intOf su).toNat)
  case atStart => exact ⟨u, n, va, vc, l, rfl, by simp, hu, by omega, by have := H0; simpa using this⟩
  case round =>
    clear H0
    obtain ⟨u', m, va, vc, xs, rfl, rfl, hu', hm, HR⟩ := hrel
    by_cases hlt : u' < 128
    · have hlt' : (u' : Int) < 128 := by omega
      have HF : Hid (xs ++ varP u' = l ++ varP u) := Lib.hid HR.out.eq
      obtain ⟨x, hx⟩ : ∃ x : UInt8, u' = x.toNat := ⟨UInt8.ofNat u', by rw [UInt8.toNat_ofNat']; omega⟩
      have HP : Hid (varP u' = [x]) := Lib.hid (by rw [varP_lt hlt, hx]; simp)
      subst hx
      go_wp2_with (at_builtin; go_must (refine wpList_append_start elem_u8 rfl _ _ rfl rfl rfl (Start.row (HR.out.st.row.ext ((Ext.refl _).alloc _)) HR.out.st.own) (HR.out.st.ext.trans ((Ext.refl _).alloc _)) (src_byte (x := x) (heap_alloc_new _ _)) (by omega) (by unfold maxLen; omega) (by omega) ?_; intro v' w4 hmade); have HM := Lib.hid hmade; clear hmade)
      go_ret
      refine ⟨_, rfl, ?_⟩
      rw [← HF.out, HP.out, u8s_append, List.length_append, ← HR.out.len]
      exact HM.out
    · have hlt' : ¬ (u' : Int) < 128 := by omega
      obtain ⟨x, hx⟩ : ∃ x : UInt8, u' % 128 + 128 = x.toNat := ⟨UInt8.ofNat (u' % 128 + 128), by rw [UInt8.toNat_ofNat']; omega⟩
      have hx2 : (u' : Int) % 128 + 128 = (x.toNat : Int) := by omega
      have HP : Hid (varP u' = x :: varP (u' / 128)) := Lib.hid (by rw [varP_ge hlt, hx]; simp)
      clear hx
      go_wp2_with (at_builtin; go_must (refine wpList_append_start elem_u8 rfl _ _ rfl rfl rfl (Start.row (HR.out.st.row.ext ((Ext.refl _).alloc _)) HR.out.st.own) (HR.out.st.ext.trans ((Ext.refl _).alloc _)) (src_byte (x := x) (heap_alloc_new _ _)) (by omega) (by unfold maxLen; omega) (by omega) ?_; intro v' w4 hmade); have HM := Lib.hid hmade; obtain ⟨va', vc', rfl⟩ := hmade.row.shape; clear hmade)
      have HE : Hid ((xs ++ [x]) ++ varP (u' / 128) = l ++ varP u ∧ m + 1 ≤ n + 10) := Lib.hid (by
        have h1 := HR.out.eq
        rw [HP.out] at h1
        refine ⟨by rw [← h1]; simp, ?_⟩
        have h2 := congrArg List.length h1
        have h3 := varP_10 hu
        have h4 := HR.out.len
        have h5 := varP_pos (u' / 128)
        have h6 := HLEN.out
        simp at h2
        omega)
      go_roundw
      case rel => exact ⟨u' / 128, m + 1, va', vc', xs ++ [x], by first | rfl | go_num, rfl, by omega, HE.out.2, Lib.hid ⟨by rw [u8s_append]; exact HM.out, by simp; exact HR.out.len, HE.out.1⟩⟩
      case measure => simp [RowKit.intOf]; omega

set_option maxHeartbeats 4000000 in
set_option maxRecDepth 100000 in
theorem ref3PutText_any (w : World) (a : Option Addr) (n c : Nat) (l : List UInt8) (s : ByteArray) (hl : Src w 1 (.slice a n c) n (u8s l)) (hn : n ≤ 35184372088832) (hs : s.size ≤ 35184372088832) :
    Calls Tryd.prog 28 #[.slice a n c, .string s] w fun e w' => ∃ v, e = .returned v ∧ MadeTo w 5 1 v (l ++ (varP s.size ++ s.data.toList)).length (u8s (l ++ (varP s.size ++ s.data.toList))) w' := by
  have HL := Lib.hid hl
  have hlen := u8s_src_len hl
  have hsz : s.data.toList.length = s.size := by simp
  have hP := varP_10 (u := s.size) (by omega)
  have hbd : (l ++ varP s.size).length + s.size ≤ 140737488355328 := by rw [List.length_append]; omega
  have HBD := Lib.hid hbd
  have HSZ := Lib.hid hsz
  clear hl hP hbd hlen hsz
  go_enter Tryd.func28, Tryd.ntmps28
  go_wp2_with fail
  refine (ref3Put_any w a n c l s.size (by omega) HL.out (by omega)).mono ?_
  rintro e w1 ⟨v, rfl, hm⟩
  obtain ⟨N, hN⟩ : ∃ N, N = (l ++ varP s.size).length := ⟨_, rfl⟩
  rw [← hN] at hm
  have HN := Lib.hid hN
  clear hN
  obtain ⟨va, vc, rfl⟩ := hm.row.shape
  have HM := Lib.hid hm
  clear hm
  go_wp2_with (at_builtin; go_must (refine wpList_append_str rfl _ _ rfl rfl rfl HM.out (by unfold maxLen; rw [HN.out]; have := HBD.out; omega) (by rw [HN.out]; exact HBD.out) ?_; intro v' w4 hmade); have HM4 := Lib.hid hmade; clear hmade)
  go_ret
  refine ⟨_, rfl, ?_⟩
  rw [← List.append_assoc, u8s_append, List.length_append, ← HN.out, HSZ.out]
  exact HM4.out
end Go.Proofs.YtafaagkhgdggbaaDoor
