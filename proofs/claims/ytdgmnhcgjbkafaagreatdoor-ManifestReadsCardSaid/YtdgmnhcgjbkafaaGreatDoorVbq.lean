/- What is put is read: numbers (plain). -/
import Derived.Test.YtdgmnhcgjbkafaaGreatDoorR04
namespace Go.Proofs.YtdgmnhcgjbkafaaGreatDoor
open Go.RowKit Go.Sort Go.Lib

theorem ofNat_toNat {x : Nat} (h : x < 256) : (UInt8.ofNat x).toNat = x := by rw [UInt8.toNat_ofNat']; omega
/-- A number's bytes: all but the last one go on. -/
theorem varP_parts (u : Nat) : ∃ init last, varP u = init ++ [last] ∧ (∀ c ∈ init, 128 ≤ c.toNat) ∧ last.toNat < 128 ∧ (0 < init.length → 0 < last.toNat) ∧ valL (varP u) = u := by
  induction u using Nat.strongRecOn with
  | _ u ih =>
    by_cases h : u < 128
    · refine ⟨[], UInt8.ofNat u, by rw [varP_lt h]; rfl, by simp, by rw [ofNat_toNat (by omega)]; exact h, by simp, ?_⟩
      rw [varP_lt h]
      simp only [valL]
      rw [ofNat_toNat (by omega)]
      omega
    · obtain ⟨init, last, e, h1, h2, h3, h4⟩ := ih (u / 128) (by omega)
      refine ⟨UInt8.ofNat (u % 128 + 128) :: init, last, by rw [varP_ge h, e]; rfl, ?_, h2, fun _ => ?_, ?_⟩
      · intro c hc
        rcases List.mem_cons.1 hc with rfl | hc
        · rw [ofNat_toNat (by omega)]; omega
        · exact h1 c hc
      · rcases Nat.eq_zero_or_pos init.length with h0 | h0
        · have hi : init = [] := List.length_eq_zero_iff.1 h0
          subst hi
          rw [List.nil_append] at e
          rw [e] at h4
          simp only [valL] at h4
          omega
        · exact h3 h0
      · rw [varP_ge h]
        simp only [valL]
        rw [h4, ofNat_toNat (by omega)]
        omega

theorem varR_put {u : Nat} (hu : u < 2 ^ 64) (rest : List UInt8) : varR (varP u ++ rest) = (u, (varP u).length, 0) := by
  obtain ⟨init, last, e, h1, h2, h3, h4⟩ := varP_parts u
  have h10 := varP_10 hu
  have hlen : (varP u).length = init.length + 1 := by rw [e]; simp
  have hl : (varP u ++ rest)[init.length]? = some last := by rw [e]; simp
  have hc : conts (varP u ++ rest) = init.length := (conts_of (fun i hi => by
    refine ⟨init[i], ?_, h1 _ (List.getElem_mem hi)⟩
    rw [e, List.append_assoc, List.getElem?_append_left hi, List.getElem?_eq_getElem hi])).2.1 last hl h2
  have ht : (varP u ++ rest).take (init.length + 1) = varP u := by rw [← hlen]; exact List.take_left
  rw [varR_ok hc (by omega) hl ?_, ht, h4, hlen]
  rintro (⟨h9, hb⟩ | ⟨h0, hz⟩)
  · have : valL (varP u) = valL init + last.toNat % 128 * 128 ^ init.length := by rw [e, valL_snoc]
    rw [h4, h9] at this
    have e9 : (128 : Nat) ^ 9 = 2 ^ 63 := by decide
    have : 2 ≤ last.toNat % 128 := by omega
    have : 2 * 128 ^ 9 ≤ last.toNat % 128 * 128 ^ 9 := Nat.mul_le_mul_right _ this
    omega
  · have := h3 h0; omega

end Go.Proofs.YtdgmnhcgjbkafaaGreatDoor
