/- tidemillref12.Bytes. -/
import Derived.Test.YtafaagkhgdggbaaDoorS12
namespace Go.Proofs.YtafaagkhgdggbaaDoor
open Go.RowKit Go.Sort Go.Lib

set_option maxHeartbeats 4000000 in
set_option maxRecDepth 100000 in
theorem ref12Bytes_any (w : World) (a : Option Addr) (n c : Nat) (l : List ByteArray) (hs : Src w 1 (.slice a n c) n (strs l)) (hn : n ≤ 1024) (hz : ∀ s ∈ l, s.size ≤ 1000) :
    Calls Tryd.prog 13 #[.slice a n c] w fun e w' => ∃ v, e = .returned v ∧ MadeTo w 5 1 v (serB l).length (u8s (serB l)) w' := by
  have HS := Lib.hid hs
  have hlen := strs_src_len hs
  have HZ := Lib.hid hz
  have HLEN := Lib.hid hlen
  clear hs hz hlen
  go_enter Tryd.func13, Tryd.ntmps13
  go_wp2_with fail
  refine (ref3Put_any w none 0 0 [] n (by omega) (.inl ⟨rfl, rfl, rfl⟩) (by omega)).mono ?_
  rintro e w1 ⟨v, rfl, hm⟩
  rw [List.nil_append] at hm
  obtain ⟨N, hN⟩ : ∃ N, N = (varP n).length := ⟨_, rfl⟩
  have hN10 : N ≤ 10 := by rw [hN]; exact varP_10 (by omega)
  rw [← hN] at hm
  obtain ⟨va, vc, rfl⟩ := hm.row.shape
  have HM2 : Hid (BytesR w (varP n ++ namesB (l.take 0)) N (.slice va N vc) w1) := Lib.hid ⟨by simpa [namesB] using hm, by simpa [namesB] using hN⟩
  clear hm hN
  go_wp2_with fail
  go_loopw [3, 4] (fun sv si wr => ∃ (k m : Nat) (va : Option Addr) (vc : Nat), k ≤ n ∧ si = .int .i64 k ∧ sv = .slice va m vc ∧ m ≤ 10 + k * 1010 ∧ Hid (BytesR w (varP n ++ namesB (l.take k)) m (.slice va m vc) wr)) (fun _ si _ => n - (RowKit.intOf si).toNat)
  case atStart => exact ⟨0, N, va, vc, by omega, rfl, rfl, by omega, HM2⟩
  case round =>
    clear HM2
    obtain ⟨k, m, va, vc, hk, rfl, rfl, hm, HR⟩ := hrel
    by_cases hlt : k < n
    · obtain ⟨sb, so, s, rfl, hs, s0⟩ := strs_src (HS.out.ext HR.out.st.ext) hlt
      have hsz := HZ.out s (List.mem_of_getElem? hs)
      have HTK : Hid (namesB (l.take (k + 1)) = namesB (l.take k) ++ nameB s) := Lib.hid (by rw [List.take_add_one, hs]; exact namesB_snoc _ _)
      clear hs
      go_wp2_with fail
      refine (ref3PutText_any _ va m vc (varP n ++ namesB (l.take k)) s (HR.out.st.row.src (u8s_one _)) (by omega) (by omega)).mono ?_
      rintro e w3 ⟨v, rfl, hmm⟩
      obtain ⟨M, hM⟩ : ∃ M, M = ((varP n ++ namesB (l.take k)) ++ (varP s.size ++ s.data.toList)).length := ⟨_, rfl⟩
      rw [← hM] at hmm
      obtain ⟨va', vc', rfl⟩ := hmm.row.shape
      have hMl : M ≤ 10 + (k + 1) * 1010 := by
        have h1 := nameB_len hsz
        have h2 := HR.out.len
        unfold nameB at h1
        rw [hM, List.length_append, ← h2]
        omega
      have HN : Hid (BytesR w (varP n ++ namesB (l.take (k + 1))) M (.slice va' M vc') w3) := Lib.hid ⟨by
        rw [HTK.out, ← List.append_assoc]
        exact hmm.trans HR.out.st.ext, by rw [HTK.out, ← List.append_assoc]; exact hM⟩
      clear hmm hM HR
      go_wp2_with fail
      go_roundw
      case rel => exact ⟨k + 1, M, va', vc', by omega, by go_num, rfl, hMl, HN⟩
      case measure => simp [RowKit.intOf]; omega
    · have HF : Hid (varP n ++ namesB (l.take k) = serB l) := Lib.hid (by rw [List.take_of_length_le (by rw [HLEN.out]; omega)]; unfold serB; rw [HLEN.out])
      go_wp2_with fail
      go_ret
      refine ⟨_, rfl, ?_⟩
      rw [← HF.out, ← HR.out.len]
      exact HR.out.st
end Go.Proofs.YtafaagkhgdggbaaDoor
