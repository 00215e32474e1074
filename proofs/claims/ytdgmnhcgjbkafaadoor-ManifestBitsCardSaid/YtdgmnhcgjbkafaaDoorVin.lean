/- Numbers that may be below 0, put and read (varint's and the document's). -/
import Derived.Test.YtdgmnhcgjbkafaaDoorZig
import Derived.Test.YtdgmnhcgjbkafaaDoorR04
namespace Go.Proofs.YtdgmnhcgjbkafaaDoor
open Go.RowKit Go.Sort Go.Lib

/-- Bytes that were put behind others. -/
def PutTo (w : World) (l : List UInt8) (e : Ending) (w' : World) : Prop := ∃ a c, e = .returned (.slice a l.length c) ∧ MadeTo w 5 1 (.slice a l.length c) l.length (u8s l) w'
theorem PutTo.of {w w' : World} {l : List UInt8} {e : Ending} (h : ∃ v, e = .returned v ∧ MadeTo w 5 1 v l.length (u8s l) w') : PutTo w l e w' := by
  obtain ⟨v, rfl, h⟩ := h
  obtain ⟨a, c, rfl⟩ := h.row.shape
  exact ⟨a, c, rfl, h⟩
theorem i64_zig {n : Int} (h0 : -9223372036854775808 ≤ n) (h1 : n ≤ 9223372036854775807) : zig n < 2 ^ 64 := zig_lt h0 h1

theorem varPut' (w : World) (a : Option Addr) (n c : Nat) (l : List UInt8) (u : Nat) (hu : u < 2 ^ 64) (hl : Src w 1 (.slice a n c) n (u8s l)) (hnc : n ≤ c) (hn : n ≤ 70368744177664) :
    Calls Tryd.prog 9 #[.slice a n c, .int .u64 (u : Int)] w (PutTo w (l ++ varP u)) := (varPut_any w a n c l u hu hl hnc hn).mono fun _ _ h => .of h
theorem varPutText' (w : World) (a : Option Addr) (n c : Nat) (l : List UInt8) (s : ByteArray) (hl : Src w 1 (.slice a n c) n (u8s l)) (hnc : n ≤ c) (hn : n ≤ 35184372088832) (hs : s.size ≤ 35184372088832) :
    Calls Tryd.prog 12 #[.slice a n c, .string s] w (PutTo w (l ++ (varP s.size ++ s.data.toList))) := (varPutText_any w a n c l s hl hnc hn hs).mono fun _ _ h => .of h
set_option maxHeartbeats 4000000 in
set_option maxRecDepth 100000 in
theorem varPutInt_any (w : World) (a : Option Addr) (n c : Nat) (l : List UInt8) (z : Int) (h0 : -9223372036854775808 ≤ z) (h1 : z ≤ 9223372036854775807) (hl : Src w 1 (.slice a n c) n (u8s l)) (hnc : n ≤ c) (hn : n ≤ 70368744177664) :
    Calls Tryd.prog 11 #[.slice a n c, .int .i64 z] w (PutTo w (l ++ varP (zig z))) := by
  have HL := Lib.hid hl
  have HC := Lib.hid (varPut' w a n c l (zig z) (i64_zig h0 h1) hl hnc hn)
  generalize l ++ varP (zig z) = L at HC ⊢
  clear hl HL
  go_enter Tryd.func11, Tryd.ntmps11
  go_wp2_with fail
  refine (zig_any z w h0 h1).mono ?_
  rintro e w' ⟨rfl, rfl⟩
  go_wp2_with fail
  refine HC.out.mono ?_
  rintro e w1 ⟨a1, c1, rfl, h1⟩
  have H1 := Lib.hid h1
  clear h1
  go_wp2_with fail
  go_ret
  exact ⟨a1, c1, rfl, H1.out⟩
theorem varR_zero {l : List UInt8} (h : (varR l).2.2 ≠ 0) : (varR l).1 = 0 ∧ (varR l).2.1 = 0 := by
  unfold varR at h ⊢
  split
  · exact ⟨rfl, rfl⟩
  · rename_i h10
    rw [if_neg h10] at h
    revert h
    cases l[conts l]? with
    | none => intro _; exact ⟨rfl, rfl⟩
    | some c =>
      simp only
      split
      · intro _; exact ⟨rfl, rfl⟩
      · intro h; exact absurd rfl h

set_option maxHeartbeats 4000000 in
set_option maxRecDepth 100000 in
theorem varReadInt_any (w : World) (a : Option Addr) (n c : Nat) (l : List UInt8) (hl : Src w 1 (.slice a n c) n (u8s l)) (hn : n < 4611686018427387904) (hg : HasET w) :
    Calls Tryd.prog 35 #[.slice a n c] w fun e w' => e = .returned (.tuple #[.int .i64 (zag (varR l).1), .int .i64 ((varR l).2.1 : Int), .int .i64 (varR l).2.2]) ∧ Ext w w' := by
  have HC := Lib.hid (varRead_any w a n c l hl hn hg)
  have hb := (varR_bounds l).1
  generalize varR l = r at *
  clear hl hg
  go_enter Tryd.func35, Tryd.ntmps35
  go_wp2_with fail
  refine HC.out.mono ?_
  rintro e w1 ⟨rfl, hx⟩
  have HX := Lib.hid hx
  clear hx
  go_wp2_with fail
  refine (zag_any r.1 w1 hb).mono ?_
  rintro e w' ⟨rfl, rfl⟩
  go_wp2_with fail
  go_ret3
  exact ⟨rfl, HX.out⟩
end Go.Proofs.YtdgmnhcgjbkafaaDoor
