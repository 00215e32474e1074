/- tidemillref12: Read, Bytes. -/
import Derived.Test.YtafaagkhgdggbaaDoorSrd
namespace Go.Proofs.YtafaagkhgdggbaaDoor
open Go.RowKit Go.Sort Go.Lib

/-- What Read leaves. -/
def Ref12To (w : World) (r : Except Int (List ByteArray × Nat)) (e : Ending) (w' : World) : Prop :=
  match r with
  | .error x => e = .returned (.tuple #[.slice none 0 0, .int .i64 0, .int .i64 x]) ∧ Ext w w'
  | .ok (acc, at') => ∃ v, e = .returned (.tuple #[v, .int .i64 (at' : Int), .int .i64 0]) ∧ MadeTo w 9 1 v acc.length (strs acc) w'

/-- In a round. -/
structure Ref12R (w : World) (l : List UInt8) (N k at' : Nat) (acc : List ByteArray) (v : Value) (wr : World) : Prop where
  st : MadeTo w 9 1 v k (strs acc) wr
  len : acc.length = k
  eq : readN l (N - k) at' acc = serR l

theorem ref3Text64 (w : World) (a : Option Addr) (n c : Nat) (l : List UInt8) (hl : Src w 1 (.slice a n c) n (u8s l)) (hnc : n ≤ c) (hn : n < 4611686018427387904) :
    Calls Tryd.prog 20 #[.slice a n c, .int .i64 64] w fun e w' => e = .returned (.tuple #[.string ⟨(txtR l 64).1.toArray⟩, .int .i64 ((txtR l 64).2.1 : Int), .int .i64 (txtR l 64).2.2]) ∧ w = w' :=
  ref3Text_any w a n c l 64 (by omega) hl hnc hn

set_option maxHeartbeats 8000000 in
set_option maxRecDepth 100000 in
theorem ref12Read_any (w : World) (a : Option Addr) (n c : Nat) (l : List UInt8) (hl : Src w 1 (.slice a n c) n (u8s l)) (hnc : n ≤ c) (hn : n < 4611686018427387904) :
    Calls Tryd.prog 6 #[.slice a n c] w (Ref12To w (serR l)) := by
  have HL := Lib.hid hl
  have hlen := u8s_src_len hl
  clear hl
  obtain ⟨u, k0, e0, hv⟩ : ∃ u k e, varR l = (u, k, e) := ⟨_, _, _, rfl⟩
  obtain ⟨hb1, hb2, hb3, _⟩ := varR_bounds l
  rw [hv] at hb1 hb2 hb3
  simp only at hb1 hb2 hb3
  rw [hlen] at hb2
  have HV := Lib.hid hv
  have HLEN := Lib.hid hlen
  clear hv hlen
  by_cases he : e0 = 0
  · subst he
    by_cases h1 : 1024 < u
    · have h1' : (1024 : Int) < (u : Int) := by omega
      have HT : Hid (serR l = .error 3) := Lib.hid (by unfold serR; rw [HV.out]; simp only; rw [if_neg (by omega), if_pos h1])
      go_enter Tryd.func6, Tryd.ntmps6
      go_wp2_with fail
      refine (ref3Read_any w a n c l HL.out hn).mono ?_
      rw [HV.out]
      rintro e' w1 ⟨rfl, rfl⟩
      go_wp2_with fail
      go_ret3
      rw [HT.out]
      exact ⟨rfl, Ext.refl _⟩
    · have h1' : ¬ (1024 : Int) < (u : Int) := by omega
      have HS0 : Hid (readN l u k0 [] = serR l) := Lib.hid (by unfold serR; rw [HV.out]; simp only; rw [if_neg (by omega), if_neg h1])
      go_enter Tryd.func6, Tryd.ntmps6
      go_wp2_with fail
      refine (ref3Read_any w a n c l HL.out hn).mono ?_
      rw [HV.out]
      rintro e' w1 ⟨rfl, rfl⟩
      have H0 : Hid (Ref12R w l u 0 k0 [] (.slice none 0 0) w) := Lib.hid ⟨⟨Row.nil _ _ _, fun g hg => by simp [Value.ownBlock] at hg, Ext.refl _⟩, rfl, HS0.out⟩
      clear HS0
      go_wp2_with fail
      go_loopw [6, 8, 9] (fun sa sv si wr => ∃ (k at' : Nat) (acc : List ByteArray) (va : Option Addr) (vc : Nat), k ≤ u ∧ si = .int .i64 k ∧ sa = .int .i64 at' ∧ sv = .slice va k vc ∧ at' ≤ n ∧ Hid (Ref12R w l u k at' acc (.slice va k vc) wr)) (fun _ _ si _ => u - (RowKit.intOf si).toNat)
      case atStart => exact ⟨0, k0, [], none, 0, by omega, rfl, rfl, rfl, hb2, H0⟩
      case round =>
        clear H0
        obtain ⟨k, at', acc, va, vc, hk, rfl, rfl, rfl, hat, HR⟩ := hrel
        by_cases hlt : k < u
        · obtain ⟨s, m, e, ht⟩ : ∃ s m e, txtR (l.drop at') 64 = (s, m, e) := ⟨_, _, _, rfl⟩
          obtain ⟨t1, t2, _⟩ := txtR_bounds (l.drop at') 64
          rw [ht] at t1
          simp only [List.length_drop] at t1
          rw [HLEN.out] at t1
          have hs1 := run_slice_lo Tryd.underlying22 sz_u8 a n c at' hat
          have hs2 := run_sliceAt_lo Tryd.underlying22 sz_u8 a n c at' hat
          have HSRC := Lib.hid (src_bytes_lo (HL.out.ext HR.out.st.ext) hat hnc)
          have HTX := Lib.hid ht
          have hsub : u - k = (u - (k + 1)) + 1 := by omega
          have hsz : s.length ≤ 64 := by have h3 := (txtR_bounds (l.drop at') 64).2.2; rw [ht] at h3; simp only at h3; omega
          clear ht t2
          by_cases hee : e = 0
          · subst hee
            obtain ⟨S, hS⟩ : ∃ S, S = lb s := ⟨_, rfl⟩
            have hSz : S.size ≤ maxLen := by rw [hS]; show s.toArray.size ≤ maxLen; unfold maxLen; simp; omega
            have HSZ := Lib.hid hSz
            have HSS := Lib.hid hS
            have hval : bl S = s := by rw [hS]; simp
            have HVAL := Lib.hid hval
            clear hSz hval
            have HFIND : Hid (∀ W, Ext wr W → Calls Tryd.prog 22 #[.slice va k vc, .string S] W fun e w' => e = .returned (.int .i64 (findZ acc S)) ∧ W = w') := Lib.hid (fun W hW => refFind_any W va k vc acc S ((HR.out.st.row.src (strs_one _)).ext hW) (by omega))
            by_cases hvl : validL (bl S) = true
            · by_cases hmem : S ∈ acc
              · have HERR : Hid (serR l = .error 11) := Lib.hid (by rw [← HR.out.eq, hsub]; exact readN_bad HTX.out (fun h => h.2 (by rw [← HSS.out]; exact hmem)))
                have hf : (0 : Int) ≤ findZ acc S := by unfold findZ; rw [if_pos hmem]; omega
                have HVL : Hid (validL S.data.toList = true) := Lib.hid hvl
                clear hS
                go_wp2_with fail
                refine (ref3Text64 wr _ _ _ _ HSRC.out (by omega) (by omega)).mono ?_
                rw [HTX.out]
                simp only
                rintro e' w3 ⟨rfl, rfl⟩
                rw [show (⟨s.toArray⟩ : ByteArray) = S from HSS.out.symm]
                go_wp2_with (first
                  | (go_at_call 21; refine (refName_any S _ HSZ.out).mono ?_; rw [HVL.out]; rintro e' w4 ⟨rfl, rfl⟩)
                  | (go_at_call 22; refine (HFIND.out _ (Ext.refl _)).mono ?_; rintro e' w4 ⟨rfl, rfl⟩))
                go_ret3
                rw [HERR.out]
                exact ⟨rfl, HR.out.st.ext⟩
              · have HNX : Hid (readN l (u - (k + 1)) (at' + m) (acc ++ [S]) = serR l) := Lib.hid (by
                  have h1 := HR.out.eq
                  rw [hsub, readN_step HTX.out (by rw [← HVAL.out]; exact hvl) (by rw [← HSS.out]; exact hmem)] at h1
                  rw [HSS.out]; exact h1)
                have hf : ¬ (0 : Int) ≤ findZ acc S := by unfold findZ; rw [if_neg hmem]; omega
                have HVL : Hid (validL S.data.toList = true) := Lib.hid hvl
                clear hS
                go_wp2_with fail
                refine (ref3Text64 wr _ _ _ _ HSRC.out (by omega) (by omega)).mono ?_
                rw [HTX.out]
                simp only
                rintro e' w3 ⟨rfl, rfl⟩
                rw [show (⟨s.toArray⟩ : ByteArray) = S from HSS.out.symm]
                go_wp2_with (first
                  | (go_at_call 21; refine (refName_any S _ HSZ.out).mono ?_; rw [HVL.out]; rintro e' w4 ⟨rfl, rfl⟩)
                  | (go_at_call 22; refine (HFIND.out _ (Ext.refl _)).mono ?_; rintro e' w4 ⟨rfl, rfl⟩)
                  | (at_builtin; go_must (refine wpList_append_start elem_str rfl _ _ rfl rfl rfl (Start.row (HR.out.st.row.ext ((Ext.refl _).alloc _)) HR.out.st.own) (HR.out.st.ext.trans ((Ext.refl _).alloc _)) (src_str' (heap_alloc_new _ _)) (by omega) (by unfold maxLen; omega) (by omega) ?_; intro v' w4 hmade); have HM := Lib.hid hmade; obtain ⟨va', vc', rfl⟩ := hmade.row.shape; clear hmade))
                go_roundw
                case rel => exact ⟨k + 1, at' + m, acc ++ [S], va', vc', by omega, by go_num, by go_num, rfl, by omega, Lib.hid ⟨by rw [show strs (acc ++ [S]) = strs acc ++ strs [S] by simp [strs]]; exact HM.out, by simp; exact HR.out.len, HNX.out⟩⟩
                case measure => simp [RowKit.intOf]; omega
            · have HERR : Hid (serR l = .error 11) := Lib.hid (by rw [← HR.out.eq, hsub]; exact readN_bad HTX.out (fun h => hvl (by rw [HVAL.out]; exact h.1)))
              have HVL : Hid (validL S.data.toList = false) := Lib.hid (Bool.eq_false_iff.2 hvl)
              clear hS
              go_wp2_with fail
              refine (ref3Text64 wr _ _ _ _ HSRC.out (by omega) (by omega)).mono ?_
              rw [HTX.out]
              simp only
              rintro e' w3 ⟨rfl, rfl⟩
              rw [show (⟨s.toArray⟩ : ByteArray) = S from HSS.out.symm]
              go_wp2_with (go_at_call 21; refine (refName_any S _ HSZ.out).mono ?_; rw [HVL.out]; rintro e' w4 ⟨rfl, rfl⟩)
              go_ret3
              rw [HERR.out]
              exact ⟨rfl, HR.out.st.ext⟩
          · have HERR : Hid (serR l = .error e) := Lib.hid (by rw [← HR.out.eq, hsub]; exact readN_err HTX.out hee)
            have hee' : (e != 0) = true := by simpa using hee
            go_wp2_with fail
            refine (ref3Text64 wr _ _ _ _ HSRC.out (by omega) (by omega)).mono ?_
            rw [HTX.out]
            simp only
            rintro e' w3 ⟨rfl, rfl⟩
            go_wp2_with fail
            go_ret3
            rw [HERR.out]
            exact ⟨rfl, HR.out.st.ext⟩
        · have HOK : Hid (serR l = .ok (acc, at')) := Lib.hid (by rw [← HR.out.eq, show u - k = 0 by omega]; rfl)
          go_wp2_with fail
          go_ret3
          rw [HOK.out]
          exact ⟨_, rfl, by rw [HR.out.len]; exact HR.out.st⟩
  · have HT : Hid (serR l = .error e0) := Lib.hid (by unfold serR; rw [HV.out]; simp only; rw [if_pos he])
    have he' : (e0 != 0) = true := by simpa using he
    go_enter Tryd.func6, Tryd.ntmps6
    go_wp2_with fail
    refine (ref3Read_any w a n c l HL.out hn).mono ?_
    rw [HV.out]
    rintro e' w1 ⟨rfl, rfl⟩
    go_wp2_with fail
    go_ret3
    rw [HT.out]
    exact ⟨rfl, Ext.refl _⟩
end Go.Proofs.YtafaagkhgdggbaaDoor
