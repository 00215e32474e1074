/- manifest.Bytes (under way): the plain form. -/
import Derived.Test.YtdgmnhcgjbkafaaGreatDoorMga
import Derived.Test.YtdgmnhcgjbkafaaGreatDoorFrs
namespace Go.Proofs.YtdgmnhcgjbkafaaGreatDoor
open Go.RowKit Go.Sort Go.Lib

def filP (p : Fl) : List UInt8 := txtP p.nm ++ varP (zig p.a) ++ varP (zig p.b) ++ varP (u64n p.k)
def tirP (p : Tr) : List UInt8 := varP (u64n p.w) ++ varP (u64n p.o) ++ (if p.m then varP (u64n 1) ++ varP (zig p.u) ++ txtP p.f else varP (u64n 0))
/-- A state as bytes. -/
def staP (s : Sta) : List UInt8 := varP (u64n s.x) ++ varP (u64n s.r) ++ varP (u64n s.q) ++ markP s.km ++ varP (u64n (s.fl.length : Int)) ++ s.fl.flatMap filP ++ varP (u64n (s.ti.length : Int)) ++ s.ti.flatMap tirP
theorem flR_parts {p : Fl} (h : flR p = true) : p.nm.size ≤ 64 ∧ (-1152921504606846976 ≤ p.a ∧ p.a ≤ 1152921504606846976) ∧ (-1152921504606846976 ≤ p.b ∧ p.b ≤ 1152921504606846976) ∧ 0 < p.k ∧ p.k ≤ 1152921504606846976 := by
  simp [flR, nmB, tmB, z60, inB] at h
  omega
theorem trR_parts {p : Tr} (h : trR p = true) : 1 ≤ p.w ∧ p.w ≤ 1099511627776 ∧ 0 ≤ p.o ∧ p.o < p.w ∧ (p.m = true → p.f.size ≤ 64 ∧ (-1152921504606846976 ≤ p.u ∧ p.u ≤ 1152921504606846976)) := by
  obtain ⟨d, q, u, m, f⟩ := p
  cases m
  · simp [trR] at h ⊢; omega
  · simp [trR, nmB, tmB] at h ⊢; omega
theorem filP_len {p : Fl} (h : flR p = true) : (filP p).length ≤ 104 := by
  obtain ⟨h1, ⟨h2, h3⟩, ⟨h4, h5⟩, _, _⟩ := flR_parts h
  have e1 := txtP_len (s := p.nm) (by omega)
  have e2 := varP_10 (i64_zig (n := p.a) (by omega) (by omega))
  have e3 := varP_10 (i64_zig (n := p.b) (by omega) (by omega))
  have e4 := varP_10 (u64n_lt p.k)
  unfold filP
  simp only [List.length_append]
  omega
theorem tirP_len {p : Tr} (h : trR p = true) : (tirP p).length ≤ 114 := by
  obtain ⟨_, _, _, _, h5⟩ := trR_parts h
  have e1 := varP_10 (u64n_lt p.w)
  have e2 := varP_10 (u64n_lt p.o)
  have e3 := varP_10 (u64n_lt 1)
  have e4 := varP_10 (u64n_lt 0)
  unfold tirP
  simp only [List.length_append]
  split
  · rename_i hm
    obtain ⟨h6, h7, h8⟩ := h5 hm
    have e5 := txtP_len (s := p.f) (by omega)
    have e6 := varP_10 (i64_zig (n := p.u) (by omega) (by omega))
    simp only [List.length_append]
    omega
  · omega
theorem staR_parts {s : Sta} (h : staR s = true) : s.fl.length ≤ 512 ∧ s.ti.length ≤ 4 ∧ (∀ p ∈ s.fl, flR p = true) ∧ (∀ p ∈ s.ti, trR p = true) := by
  simp only [staR, staB, Bool.and_eq_true, decide_eq_true_eq, List.all_eq_true] at h
  exact ⟨h.1.1.1.2, h.1.1.2, h.1.2, h.2⟩
end Go.Proofs.YtdgmnhcgjbkafaaGreatDoor
