/- slices.Sort of a row of strings. -/
import Derived.Test.YtfablbhkmddnbaaDoorStr
import Derived.Test.YtfablbhkmddnbaaDoorShelf
namespace Go.Proofs.YtfablbhkmddnbaaDoor
open Go.RowKit Go.Sort Go.Lib

/-- A row of strings, sorted. -/
theorem sort_any {w : World} {e : TypeId} {v : Value} {n : Nat} {l : List ByteArray} (h : Row w e 1 v n (strs l)) (hn : n < 4611686018427387904) :
    Calls Tryd.prog 29 #[v] w fun r w' => r = .returned (.tuple #[]) ∧ Row w' e 1 v n (strs (sortS l)) ∧ Chg (fun k => v.ownBlock = some k) w w' := by
  have hlen : n = l.length := by have := h.1; rw [strs_len] at this; omega
  rcases h.2 with ⟨rfl, h0⟩ | ⟨g, cap, cur, rfl, hbase, hb, h1, h2, h3, h4⟩
  · refine (Tryd.slices_Sort_string_none none 0 w).mono ?_
    rintro r w' ⟨rfl, rfl⟩
    have hl : l = [] := List.length_eq_zero_iff.1 (by omega)
    subst hl
    have e0 : sortS [] = [] := List.length_eq_zero_iff.1 (by rw [sortS_length]; rfl)
    exact ⟨rfl, by rw [e0]; exact h, Chg.refl _ _⟩
  · subst hlen
    have h4' : cur.toList.take (l.map bl).length = (l.map bl).map encStr := by rw [← strs_enc, List.length_map]; simpa using h4
    have hH := holds_of_block (ss := l.map bl) hb h4'
    have key := Tryd.slices_Sort_string g 0 cap (l.map bl) w hH (block_lt hb) (by simpa using hn)
    rw [List.length_map] at key
    refine key.mono ?_
    rintro r w' ⟨rfl, m, os, rfl⟩
    refine ⟨rfl, ?_, Chg.of_grown (grownBy_sorted _) |>.mono (fun i _ hi => by simpa [Value.ownBlock] using hi)⟩
    have := ownsRow_sorted (w := w) (base := 0) (g := g) (cap := cap) (n := m) (os := os) (ss := l.map bl) (ts := (l.map bl).mergeSort fun x y => decide (x ≤ y)) (by simp) hbase hb (by simpa using h1) h2 h3
    rw [List.length_map] at this
    rw [sortS, ← strs_enc']
    exact this

end Go.Proofs.YtfablbhkmddnbaaDoor
