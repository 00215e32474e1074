/- A mark that is put is read (plain). -/
import Derived.Test.YtdgmnhcgjbkafaaGreatDoorWtd
import Derived.Test.YtdgmnhcgjbkafaaGreatDoorVbq
namespace Go.Proofs.YtdgmnhcgjbkafaaGreatDoor
open Go.RowKit Go.Sort Go.Lib

theorem i64n_u64n {g : Int} (h0 : -9223372036854775808 ≤ g) (h1 : g ≤ 9223372036854775807) : i64n (u64n g) = g := by
  unfold i64n u64n wrap64
  omega
theorem varR_one (u : Nat) (hu : u < 2 ^ 64) : varR (varP u) = (u, (varP u).length, 0) := by
  have := varR_put hu []
  simpa using this
theorem mark_back (m : Mk) (hm : m.ok) : ((markR (markP m)).2.2 = 0 ∧ (markR (markP m)).1 = m) ↔ mkR m = true := by
  obtain ⟨s, t, g⟩ := m
  have hg := i64n_u64n hm.g0 hm.g1
  have hz := i64_zig hm.t0 hm.t1
  simp only at hg hz
  cases s
  · have e1 : markR (markP ⟨false, t, g⟩) = markIf ⟨false, 0, g⟩ ((varP (u64n g)).length + (varP 0).length) := by
      unfold markR markP
      rw [varR_put (u64n_lt g)]
      simp only [ne_eq, not_true, if_false, hg]
      unfold markC
      simp only [Bool.false_eq_true, if_false, List.drop_left']
      rw [varR_one 0 (by decide)]
      simp
    rw [e1]
    unfold markIf
    split
    · rename_i h
      have : mkR ⟨false, t, g⟩ = true ↔ t = 0 := by
        simp [mkR] at h ⊢
        rintro rfl; exact h
      rw [this]
      constructor
      · rintro ⟨_, h⟩; exact ((Mk.mk.injEq ..).mp h).2.1.symm
      · rintro rfl; exact ⟨rfl, rfl⟩
    · rename_i h
      constructor
      · rintro ⟨h, _⟩; simp [markE] at h
      · intro h2
        exfalso
        apply h
        simp [mkR] at h2 ⊢
        obtain ⟨h3, rfl⟩ := h2
        exact h3
  · have e1 : markR (markP ⟨true, t, g⟩) = markIf ⟨true, t, g⟩ ((varP (u64n g)).length + (varP 1).length + (varP (zig t)).length) := by
      unfold markR markP
      rw [varR_put (u64n_lt g)]
      simp only [ne_eq, not_true, if_false, hg]
      unfold markC
      simp only [if_true, List.drop_left']
      rw [varR_put (by decide)]
      simp only [ne_eq, not_true, if_false, if_true, Nat.one_ne_zero]
      unfold markD
      rw [← List.append_assoc, List.drop_left' (by rw [List.length_append]), varR_one _ hz]
      simp only [ne_eq, not_true, if_false, zag_zig]
    rw [e1]
    unfold markIf
    split
    · rename_i h; simp [h]
    · rename_i h; simp [h, markE]
end Go.Proofs.YtdgmnhcgjbkafaaGreatDoor
