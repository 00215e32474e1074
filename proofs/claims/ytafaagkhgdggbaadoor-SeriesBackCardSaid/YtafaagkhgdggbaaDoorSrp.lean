/- The reading of names, in plain words. -/
import Derived.Test.YtafaagkhgdggbaaDoorSbt
import Derived.Test.YtafaagkhgdggbaaDoorRf12
namespace Go.Proofs.YtafaagkhgdggbaaDoor
open Go.RowKit Go.Sort Go.Lib

/-- So many names are read from a place on. -/
def readN (l : List UInt8) : Nat → Nat → List ByteArray → Except Int (List ByteArray × Nat)
  | 0, at', acc => .ok (acc, at')
  | n + 1, at', acc =>
    if (txtR (l.drop at') 64).2.2 ≠ 0 then .error (txtR (l.drop at') 64).2.2
    else if validL (txtR (l.drop at') 64).1 = true ∧ lb (txtR (l.drop at') 64).1 ∉ acc then readN l n (at' + (txtR (l.drop at') 64).2.1) (acc ++ [lb (txtR (l.drop at') 64).1])
    else .error 11
def serR (l : List UInt8) : Except Int (List ByteArray × Nat) :=
  if (varR l).2.2 ≠ 0 then .error (varR l).2.2 else if 1024 < (varR l).1 then .error 3 else readN l (varR l).1 (varR l).2.1 []

theorem txtR_bounds (l : List UInt8) (most : Int) : (txtR l most).2.1 ≤ l.length ∧ ((txtR l most).2.2 = 0 ∨ (txtR l most).2.2 = 3 ∨ (txtR l most).2.2 = 10 ∨ (txtR l most).2.2 = 11) ∧ ((txtR l most).1.length : Int) ≤ max most 0 := by
  obtain ⟨_, h2, _, _⟩ := varR_bounds l
  have h4 := varR_err l
  unfold txtR
  split
  · refine ⟨by simp, ?_, by simp; omega⟩
    rcases h4 with h | h | h
    · exact absurd h (by assumption)
    · exact .inr (.inr (.inl h))
    · exact .inr (.inr (.inr h))
  · split
    · exact ⟨by simp, .inr (.inl rfl), by simp; omega⟩
    · split
      · exact ⟨by simp, .inr (.inr (.inl rfl)), by simp; omega⟩
      · refine ⟨by simp only; omega, .inl rfl, ?_⟩
        simp only [List.length_take, List.length_drop]
        omega

/-- What an error says. -/
theorem readN_step {l : List UInt8} {n at' : Nat} {acc : List ByteArray} {s : List UInt8} {k : Nat} (h : txtR (l.drop at') 64 = (s, k, 0)) (hv : validL s = true) (hm : lb s ∉ acc) : readN l (n + 1) at' acc = readN l n (at' + k) (acc ++ [lb s]) := by
  rw [readN, h]
  simp [hv, hm]
theorem readN_bad {l : List UInt8} {n at' : Nat} {acc : List ByteArray} {s : List UInt8} {k : Nat} (h : txtR (l.drop at') 64 = (s, k, 0)) (hv : ¬ (validL s = true ∧ lb s ∉ acc)) : readN l (n + 1) at' acc = .error 11 := by
  rw [readN, h]
  simp only
  rw [if_neg (by simp), if_neg hv]
theorem readN_err {l : List UInt8} {n at' : Nat} {acc : List ByteArray} {s : List UInt8} {k : Nat} {e : Int} (h : txtR (l.drop at') 64 = (s, k, e)) (he : e ≠ 0) : readN l (n + 1) at' acc = .error e := by
  rw [readN, h]
  simp only
  rw [if_pos he]

theorem src_bytes_lo {w : World} {a : Option Addr} {n c k : Nat} {l : List UInt8} (h : Src w 1 (.slice a n c) n (u8s l)) (hk : k ≤ n) (hnc : n ≤ c) : Src w 1 (.slice (cutA a c k) (n - k) (c - k)) (n - k) (u8s (l.drop k)) := by
  have hl := u8s_src_len h
  have := src_cut (h := n) (l := k) (m := c) h hk (Nat.le_refl _) hnc (Nat.le_refl _)
  rw [show u8s (l.drop k) = ((u8s l).drop k).take (n - k) by simp only [u8s]; rw [← List.map_drop, List.take_of_length_le (by simp; omega)]]
  exact this
end Go.Proofs.YtafaagkhgdggbaaDoor
