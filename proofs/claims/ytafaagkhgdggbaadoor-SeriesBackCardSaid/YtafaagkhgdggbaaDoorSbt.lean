/- series.Dict.Bytes and tidemillref12.Bytes. -/
import Derived.Test.YtafaagkhgdggbaaDoorR04
import Derived.Test.YtafaagkhgdggbaaDoorNam
namespace Go.Proofs.YtafaagkhgdggbaaDoor
open Go.RowKit Go.Sort Go.Lib

/-- A name as bytes. -/
def nameB (s : ByteArray) : List UInt8 := varP s.size ++ s.data.toList
/-- Names as bytes. -/
def namesB (l : List ByteArray) : List UInt8 := l.flatMap nameB
def serB (l : List ByteArray) : List UInt8 := varP l.length ++ namesB l
theorem namesB_snoc (l : List ByteArray) (s : ByteArray) : namesB (l ++ [s]) = namesB l ++ nameB s := by simp [namesB]
theorem nameB_len {s : ByteArray} (h : s.size ≤ 1000) : (nameB s).length ≤ 1010 := by
  have h1 := varP_10 (u := s.size) (by omega)
  have h2 : s.data.toList.length = s.size := by simp
  unfold nameB
  rw [List.length_append]; omega
theorem namesB_len {l : List ByteArray} (h : ∀ s ∈ l, s.size ≤ 1000) : (namesB l).length ≤ l.length * 1010 := by
  induction l with
  | nil => simp [namesB]
  | cons s l ih =>
    have h1 := nameB_len (h s (by simp))
    have h2 := ih (fun t ht => h t (List.mem_cons_of_mem _ ht))
    simp only [namesB, List.flatMap_cons, List.length_append, List.length_cons] at h2 ⊢
    omega
theorem row_le {w : World} {e : TypeId} {size n m c : Nat} {a : Option Addr} {xs : List Value} (h : Row w e size (.slice a m c) n xs) : m ≤ c := by
  obtain ⟨_, ⟨e, _⟩ | ⟨g, cap, cur, e, _, _, h2, _⟩⟩ := h
  · simp at e; omega
  · simp at e; omega

/-- What has been put so far. -/
structure BytesR (w : World) (xs : List UInt8) (n : Nat) (v : Value) (wr : World) : Prop where
  st : MadeTo w 5 1 v n (u8s xs) wr
  len : n = xs.length

set_option maxHeartbeats 4000000 in
set_option maxRecDepth 100000 in
theorem dict_bytes {w : World} {d mb : Nat} {l : List ByteArray} (h : DictAt w d mb l) (hz : ∀ s ∈ l, s.size ≤ 1000) :
    Calls Tryd.prog 12 #[.pointer (some ⟨d, 0, none⟩)] w fun e w' => ∃ v, e = .returned v ∧ MadeTo w 5 1 v (serB l).length (u8s (serB l)) w' := by
  have hc := h.cell
  have hfew := h.few
  have hl := fun ty => h.map.run_len (P := Tryd.prog) Tryd.underlying57 ty
  rw [dictOf_length] at hl
  have H := Lib.hid h
  have HZ := Lib.hid hz
  clear h hz
  go_enter Tryd.func12, Tryd.ntmps12
  go_wp2_with (go_at_call 23; refine (dict_none H.out).mono ?_; rintro e w' ⟨rfl, rfl⟩)
  refine (varPut_any w none 0 0 [] l.length (by omega) (.inl ⟨rfl, rfl, rfl⟩) (Nat.le_refl _) (by omega)).mono ?_
  rintro e w1 ⟨v, rfl, hm⟩
  rw [List.nil_append] at hm
  obtain ⟨N, hN⟩ : ∃ N, N = (varP l.length).length := ⟨_, rfl⟩
  have hN10 : N ≤ 10 := by rw [hN]; exact varP_10 (by omega)
  rw [← hN] at hm
  obtain ⟨va, vc, rfl⟩ := hm.row.shape
  have HM : Hid (BytesR w (varP l.length ++ namesB (l.take 0)) N (.slice va N vc) w1) := Lib.hid ⟨by simpa [namesB] using hm, by simpa [namesB] using hN⟩
  clear hm hN hl hc
  go_wp2_with fail
  refine (dict_names (H.out.ext HM.out.st.ext)).mono ?_
  rintro e w2 ⟨v, rfl, hs⟩
  obtain ⟨sa, sc, rfl⟩ := hs.row.shape
  have HS := Lib.hid hs.row.strs_src
  have HM2 : Hid (BytesR w (varP l.length ++ namesB (l.take 0)) N (.slice va N vc) w2) := Lib.hid ⟨⟨HM.out.st.row.ext hs.ext, HM.out.st.own, HM.out.st.ext.trans hs.ext⟩, HM.out.len⟩
  clear hs HM
  go_wp2_with fail
  go_loopw [3, 18] (fun sv si wr => ∃ (k m : Nat) (va : Option Addr) (vc : Nat), k ≤ l.length ∧ si = .int .i64 k ∧ sv = .slice va m vc ∧ m ≤ 10 + k * 1010 ∧ Hid (BytesR w (varP l.length ++ namesB (l.take k)) m (.slice va m vc) wr ∧ Ext w2 wr)) (fun _ si _ => l.length - (RowKit.intOf si).toNat)
  case atStart => exact ⟨0, N, va, vc, by omega, rfl, rfl, by omega, Lib.hid ⟨HM2.out, Ext.refl _⟩⟩
  case round =>
    clear HM2
    obtain ⟨k, m, va, vc, hk, rfl, rfl, hm, HR⟩ := hrel
    by_cases hlt : k < l.length
    · obtain ⟨sb, so, s, rfl, hs, s0⟩ := strs_src (HS.out.ext HR.out.2) hlt
      have hsz := HZ.out s (List.mem_of_getElem? hs)
      have HTK : Hid (namesB (l.take (k + 1)) = namesB (l.take k) ++ nameB s) := Lib.hid (by rw [List.take_add_one, hs]; exact namesB_snoc _ _)
      clear hs
      go_wp2_with fail
      refine (varPutText_any _ va m vc (varP l.length ++ namesB (l.take k)) s (HR.out.1.st.row.src (u8s_one _)) (row_le HR.out.1.st.row) (by omega) (by omega)).mono ?_
      rintro e w3 ⟨v, rfl, hmm⟩
      obtain ⟨M, hM⟩ : ∃ M, M = ((varP l.length ++ namesB (l.take k)) ++ (varP s.size ++ s.data.toList)).length := ⟨_, rfl⟩
      rw [← hM] at hmm
      obtain ⟨va', vc', rfl⟩ := hmm.row.shape
      have hMl : M ≤ 10 + (k + 1) * 1010 := by
        have h1 := nameB_len hsz
        have h2 := HR.out.1.len
        unfold nameB at h1
        rw [hM, List.length_append, ← h2]
        omega
      have HN : Hid (BytesR w (varP l.length ++ namesB (l.take (k + 1))) M (.slice va' M vc') w3 ∧ Ext w2 w3) := Lib.hid ⟨⟨by
        rw [HTK.out, ← List.append_assoc]
        exact hmm.trans HR.out.1.st.ext, by rw [HTK.out, ← List.append_assoc]; exact hM⟩, HR.out.2.trans hmm.ext⟩
      clear hmm hM HR
      go_wp2_with fail
      go_roundw
      case rel => exact ⟨k + 1, M, va', vc', by omega, by go_num, rfl, hMl, HN⟩
      case measure => simp [RowKit.intOf]; omega
    · have HF : Hid (varP l.length ++ namesB (l.take k) = serB l) := Lib.hid (by rw [List.take_of_length_le (by omega)]; rfl)
      go_wp2_with fail
      go_ret
      refine ⟨_, rfl, ?_⟩
      rw [← HF.out, ← HR.out.1.len]
      exact HR.out.1.st
end Go.Proofs.YtafaagkhgdggbaaDoor
