/- What is put is read: numbers, texts (plain). -/
import Derived.Test.YtafaagkhgdggbaaDoorSrp
namespace Go.Proofs.YtafaagkhgdggbaaDoor
open Go.RowKit Go.Sort Go.Lib

theorem ofNat_toNat {x : Nat} (h : x < 256) : (UInt8.ofNat x).toNat = x := by rw [UInt8.toNat_ofNat']; omega
/-- A number's bytes: all but the last one go on. -/
theorem varP_parts (u : Nat) : ∃ init last, varP u = init ++ [last] ∧ (∀ c ∈ init, 128 ≤ c.toNat) ∧ last.toNat < 128 ∧ (0 < init.length → 0 < last.toNat) ∧ valL (varP u) = u := by
  induction u using Nat.strongRecOn with
  | _ u ih =>
    by_cases h : u < 128
    · refine ⟨[], UInt8.ofNat u, by rw [varP_lt h]; rfl, by simp, by rw [ofNat_toNat (by omega)]; exact h, by simp, ?_⟩
      rw [varP_lt h]
      simp only [valL]
      rw [ofNat_toNat (by omega)]
      omega
    · obtain ⟨init, last, e, h1, h2, h3, h4⟩ := ih (u / 128) (by omega)
      refine ⟨UInt8.ofNat (u % 128 + 128) :: init, last, by rw [varP_ge h, e]; rfl, ?_, h2, fun _ => ?_, ?_⟩
      · intro c hc
        rcases List.mem_cons.1 hc with rfl | hc
        · rw [ofNat_toNat (by omega)]; omega
        · exact h1 c hc
      · rcases Nat.eq_zero_or_pos init.length with h0 | h0
        · have hi : init = [] := List.length_eq_zero_iff.1 h0
          subst hi
          rw [List.nil_append] at e
          rw [e] at h4
          simp only [valL] at h4
          omega
        · exact h3 h0
      · rw [varP_ge h]
        simp only [valL]
        rw [h4, ofNat_toNat (by omega)]
        omega

theorem varR_put {u : Nat} (hu : u < 2 ^ 64) (rest : List UInt8) : varR (varP u ++ rest) = (u, (varP u).length, 0) := by
  obtain ⟨init, last, e, h1, h2, h3, h4⟩ := varP_parts u
  have h10 := varP_10 hu
  have hlen : (varP u).length = init.length + 1 := by rw [e]; simp
  have hl : (varP u ++ rest)[init.length]? = some last := by rw [e]; simp
  have hc : conts (varP u ++ rest) = init.length := (conts_of (fun i hi => by
    refine ⟨init[i], ?_, h1 _ (List.getElem_mem hi)⟩
    rw [e, List.append_assoc, List.getElem?_append_left hi, List.getElem?_eq_getElem hi])).2.1 last hl h2
  have ht : (varP u ++ rest).take (init.length + 1) = varP u := by rw [← hlen]; exact List.take_left
  rw [varR_ok hc (by omega) hl ?_, ht, h4, hlen]
  rintro (⟨h9, hb⟩ | ⟨h0, hz⟩)
  · have : valL (varP u) = valL init + last.toNat % 128 * 128 ^ init.length := by rw [e, valL_snoc]
    rw [h4, h9] at this
    have e9 : (128 : Nat) ^ 9 = 2 ^ 63 := by decide
    have : 2 ≤ last.toNat % 128 := by omega
    have : 2 * 128 ^ 9 ≤ last.toNat % 128 * 128 ^ 9 := Nat.mul_le_mul_right _ this
    omega
  · have := h3 h0; omega

/-- A number whose last byte is missing has no end. -/
theorem varR_cut {u : Nat} (hu : u < 2 ^ 64) {j : Nat} (hj : j < (varP u).length) : varR ((varP u).take j) = (0, 0, 10) := by
  obtain ⟨init, last, e, h1, h2, h3, h4⟩ := varP_parts u
  have h10 := varP_10 hu
  have hlen : (varP u).length = init.length + 1 := by rw [e]; simp
  have hji : j ≤ init.length := by omega
  have ht : (varP u).take j = init.take j := by rw [e, List.take_append_of_le_length hji]
  rw [ht]
  have hno : (init.take j)[j]? = none := List.getElem?_eq_none (by simp; omega)
  have hc : conts (init.take j) = j := (conts_of (l := init.take j) (k := j) (fun i hi => by
    refine ⟨init[i], ?_, h1 _ (List.getElem_mem (by omega))⟩
    rw [List.getElem?_take, if_pos hi, List.getElem?_eq_getElem (by omega)])).2.2 hno
  exact varR_end hc (by omega) hno

theorem name_len (s : ByteArray) : s.data.toList.length = s.size := by simp
theorem txtR_put {s : ByteArray} (hs : s.size ≤ 64) (rest : List UInt8) : txtR (nameB s ++ rest) 64 = (s.data.toList, (nameB s).length, 0) := by
  have hv : varR (nameB s ++ rest) = (s.size, (varP s.size).length, 0) := by
    unfold nameB
    rw [List.append_assoc]
    exact varR_put (by omega) _
  have hn := name_len s
  unfold txtR
  rw [hv]
  simp only
  rw [if_neg (by simp), if_neg (by omega), if_neg (by simp [nameB])]
  unfold nameB
  rw [List.append_assoc, List.drop_left, ← hn, List.take_left]
  simp
theorem txtR_cut {s : ByteArray} (hs : s.size ≤ 64) {j : Nat} (hj : j < (nameB s).length) : txtR ((nameB s).take j) 64 = ([], 0, 10) := by
  have hn := name_len s
  unfold nameB at hj ⊢
  rw [List.length_append, hn] at hj
  by_cases h : j < (varP s.size).length
  · have hv : varR ((varP s.size ++ s.data.toList).take j) = (0, 0, 10) := by
      rw [List.take_append_of_le_length (by omega)]
      exact varR_cut (by omega) h
    unfold txtR
    rw [hv]
    simp
  · have ht : (varP s.size ++ s.data.toList).take j = varP s.size ++ s.data.toList.take (j - (varP s.size).length) := by
      rw [List.take_append, List.take_of_length_le (by omega)]
    have hv := varR_put (u := s.size) (by omega) (s.data.toList.take (j - (varP s.size).length))
    rw [ht]
    unfold txtR
    rw [hv]
    simp only
    rw [if_neg (by simp), if_neg (by omega), if_pos (by simp; omega)]

theorem readN_put {more l : List UInt8} : ∀ (L acc : List ByteArray) (at' : Nat), l.drop at' = namesB L ++ more → (∀ s ∈ L, validL (bl s) = true) → (acc ++ L).Nodup → readN l L.length at' acc = .ok (acc ++ L, at' + (namesB L).length)
  | [], acc, at', _, _, _ => by simp [readN, namesB]
  | s :: L, acc, at', h, hv, hn => by
    have hs := hv s (by simp)
    have hsz : s.size ≤ 64 := by
      unfold validL at hs
      simp at hs
      have h2 := name_len s
      have h3 := hs.2
      unfold bl at h3
      omega
    have e : l.drop at' = nameB s ++ (namesB L ++ more) := by rw [h]; simp [namesB]
    have ht := txtR_put hsz (namesB L ++ more)
    rw [← e] at ht
    have hm : s ∉ acc := fun hm => by
      rw [List.nodup_append] at hn
      exact hn.2.2 s hm s (by simp) rfl
    rw [List.length_cons, readN_step (s := bl s) ht hs (by rw [lb_bl]; exact hm), lb_bl]
    have h2 : l.drop (at' + (nameB s).length) = namesB L ++ more := by
      rw [← List.drop_drop, e, List.drop_left]
    rw [readN_put L (acc ++ [s]) _ h2 (fun t ht => hv t (List.mem_cons_of_mem _ ht)) (by simpa using hn)]
    simp [namesB]
    omega
theorem readN_cut {l : List UInt8} : ∀ (L acc : List ByteArray) (at' j : Nat), l.drop at' = (namesB L).take j → j < (namesB L).length → (∀ s ∈ L, validL (bl s) = true) → (acc ++ L).Nodup → readN l L.length at' acc = .error 10
  | [], acc, at', j, _, hj, _, _ => by simp [namesB] at hj
  | s :: L, acc, at', j, h, hj, hv, hn => by
    have hs := hv s (by simp)
    have hsz : s.size ≤ 64 := by
      unfold validL at hs
      simp at hs
      have h2 := name_len s
      have h3 := hs.2
      unfold bl at h3
      omega
    have hcons : namesB (s :: L) = nameB s ++ namesB L := by simp [namesB]
    rw [hcons] at h hj
    rw [List.length_append] at hj
    have hm : s ∉ acc := fun hm => by
      rw [List.nodup_append] at hn
      exact hn.2.2 s hm s (by simp) rfl
    rw [List.length_cons]
    by_cases hjs : j < (nameB s).length
    · rw [List.take_append_of_le_length (by omega)] at h
      have ht := txtR_cut hsz hjs
      rw [← h] at ht
      exact readN_err ht (by decide)
    · have e : l.drop at' = nameB s ++ (namesB L).take (j - (nameB s).length) := by
        rw [h, List.take_append, List.take_of_length_le (by omega)]
      have ht := txtR_put hsz ((namesB L).take (j - (nameB s).length))
      rw [← e] at ht
      rw [readN_step (s := bl s) ht hs (by rw [lb_bl]; exact hm), lb_bl]
      have h2 : l.drop (at' + (nameB s).length) = (namesB L).take (j - (nameB s).length) := by
        rw [← List.drop_drop, e, List.drop_left]
      exact readN_cut L (acc ++ [s]) _ _ h2 (by omega) (fun t ht => hv t (List.mem_cons_of_mem _ ht)) (by simpa using hn)

theorem serR_put {L : List ByteArray} (hl : L.length ≤ 1024) (hv : ∀ s ∈ L, validL (bl s) = true) (hn : L.Nodup) (more : List UInt8) : serR (serB L ++ more) = .ok (L, (serB L).length) := by
  have hr := varR_put (u := L.length) (by omega) (namesB L ++ more)
  unfold serR serB
  rw [List.append_assoc, hr]
  simp only
  rw [if_neg (by simp), if_neg (by omega), readN_put (more := more) L [] _ (by rw [List.drop_left]) hv (by simpa using hn)]
  simp
theorem serB_pos (L : List ByteArray) : 0 < (serB L).length := by
  have := varP_pos L.length
  unfold serB; rw [List.length_append]; omega
theorem serR_cut {L : List ByteArray} (hl : L.length ≤ 1024) (hv : ∀ s ∈ L, validL (bl s) = true) (hn : L.Nodup) : serR ((serB L).take ((serB L).length - 1)) = .error 10 := by
  have hp := varP_pos L.length
  by_cases h0 : L = []
  · subst h0
    have : serR ((varP 0).take ((varP 0).length - 1)) = .error 10 := by
      have := varR_cut (u := 0) (by omega) (j := (varP 0).length - 1) (by have := varP_pos 0; omega)
      unfold serR
      rw [this]
      simp
    simpa [serB, namesB] using this
  · have hpos : 0 < (namesB L).length := by
      cases L with
      | nil => exact absurd rfl h0
      | cons s L =>
        have := varP_pos s.size
        simp only [namesB, List.flatMap_cons, nameB, List.length_append]
        omega
    have e : (serB L).take ((serB L).length - 1) = varP L.length ++ (namesB L).take ((namesB L).length - 1) := by
      unfold serB
      rw [List.length_append, List.take_append, List.take_of_length_le (by omega)]
      congr 2
      omega
    have hr := varR_put (u := L.length) (by omega) ((namesB L).take ((namesB L).length - 1))
    rw [e]
    unfold serR
    rw [hr]
    simp only
    rw [if_neg (by simp), if_neg (by omega)]
    exact readN_cut L [] _ ((namesB L).length - 1) (by rw [List.drop_left]) (by omega) hv (by simpa using hn)
end Go.Proofs.YtafaagkhgdggbaaDoor
