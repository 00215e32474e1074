/- Numbers that may be below 0, put and read (varint's and the document's). -/
import Derived.Test.YtdgmnhcgjbkafaaGreatDoorZig
import Derived.Test.YtdgmnhcgjbkafaaGreatDoorR04
namespace Go.Proofs.YtdgmnhcgjbkafaaGreatDoor
open Go.RowKit Go.Sort Go.Lib

/-- Bytes that were put behind others. -/
def PutTo (w : World) (l : List UInt8) (e : Ending) (w' : World) : Prop := ∃ a c, e = .returned (.slice a l.length c) ∧ MadeTo w 5 1 (.slice a l.length c) l.length (u8s l) w'
theorem PutTo.of {w w' : World} {l : List UInt8} {e : Ending} (h : ∃ v, e = .returned v ∧ MadeTo w 5 1 v l.length (u8s l) w') : PutTo w l e w' := by
  obtain ⟨v, rfl, h⟩ := h
  obtain ⟨a, c, rfl⟩ := h.row.shape
  exact ⟨a, c, rfl, h⟩
theorem i64_zig {n : Int} (h0 : -9223372036854775808 ≤ n) (h1 : n ≤ 9223372036854775807) : zig n < 2 ^ 64 := zig_lt h0 h1

theorem varPut' (w : World) (a : Option Addr) (n c : Nat) (l : List UInt8) (u : Nat) (hu : u < 2 ^ 64) (hl : Src w 1 (.slice a n c) n (u8s l)) (hnc : n ≤ c) (hn : n ≤ 70368744177664) :
    Calls Tryz.prog 13 #[.slice a n c, .int .u64 (u : Int)] w (PutTo w (l ++ varP u)) := (varPut_any w a n c l u hu hl hnc hn).mono fun _ _ h => .of h
theorem ref3Put' (w : World) (a : Option Addr) (n c : Nat) (l : List UInt8) (u : Nat) (hu : u < 2 ^ 64) (hl : Src w 1 (.slice a n c) n (u8s l)) (hn : n ≤ 70368744177664) :
    Calls Tryz.prog 66 #[.slice a n c, .int .u64 (u : Int)] w (PutTo w (l ++ varP u)) := (ref3Put_any w a n c l u hu hl hn).mono fun _ _ h => .of h
theorem varPutText' (w : World) (a : Option Addr) (n c : Nat) (l : List UInt8) (s : ByteArray) (hl : Src w 1 (.slice a n c) n (u8s l)) (hnc : n ≤ c) (hn : n ≤ 35184372088832) (hs : s.size ≤ 35184372088832) :
    Calls Tryz.prog 16 #[.slice a n c, .string s] w (PutTo w (l ++ (varP s.size ++ s.data.toList))) := (varPutText_any w a n c l s hl hnc hn hs).mono fun _ _ h => .of h
theorem ref3PutText' (w : World) (a : Option Addr) (n c : Nat) (l : List UInt8) (s : ByteArray) (hl : Src w 1 (.slice a n c) n (u8s l)) (hn : n ≤ 35184372088832) (hs : s.size ≤ 35184372088832) :
    Calls Tryz.prog 48 #[.slice a n c, .string s] w (PutTo w (l ++ (varP s.size ++ s.data.toList))) := (ref3PutText_any w a n c l s hl hn hs).mono fun _ _ h => .of h

set_option maxHeartbeats 4000000 in
set_option maxRecDepth 100000 in
theorem varPutInt_any (w : World) (a : Option Addr) (n c : Nat) (l : List UInt8) (z : Int) (h0 : -9223372036854775808 ≤ z) (h1 : z ≤ 9223372036854775807) (hl : Src w 1 (.slice a n c) n (u8s l)) (hnc : n ≤ c) (hn : n ≤ 70368744177664) :
    Calls Tryz.prog 15 #[.slice a n c, .int .i64 z] w (PutTo w (l ++ varP (zig z))) := by
  have HL := Lib.hid hl
  have HC := Lib.hid (varPut' w a n c l (zig z) (i64_zig h0 h1) hl hnc hn)
  generalize l ++ varP (zig z) = L at HC ⊢
  clear hl HL
  go_enter Tryz.func15, Tryz.ntmps15
  go_wp2_with fail
  refine (zig_any z w h0 h1).mono ?_
  rintro e w' ⟨rfl, rfl⟩
  go_wp2_with fail
  refine HC.out.mono ?_
  rintro e w1 ⟨a1, c1, rfl, h1⟩
  have H1 := Lib.hid h1
  clear h1
  go_wp2_with fail
  go_ret
  exact ⟨a1, c1, rfl, H1.out⟩
set_option maxHeartbeats 4000000 in
set_option maxRecDepth 100000 in
theorem ref3PutInt_any (w : World) (a : Option Addr) (n c : Nat) (l : List UInt8) (z : Int) (h0 : -9223372036854775808 ≤ z) (h1 : z ≤ 9223372036854775807) (hl : Src w 1 (.slice a n c) n (u8s l)) (hn : n ≤ 70368744177664) :
    Calls Tryz.prog 49 #[.slice a n c, .int .i64 z] w (PutTo w (l ++ varP (zig z))) := by
  have HL := Lib.hid hl
  have HC := Lib.hid (ref3Put' w a n c l (zig z) (i64_zig h0 h1) hl hn)
  generalize l ++ varP (zig z) = L at HC ⊢
  clear hl HL
  go_enter Tryz.func49, Tryz.ntmps49
  go_wp2_with fail
  refine (ref1zig_any z w h0 h1).mono ?_
  rintro e w' ⟨rfl, rfl⟩
  go_wp2_with fail
  refine HC.out.mono ?_
  rintro e w1 ⟨a1, c1, rfl, h1⟩
  have H1 := Lib.hid h1
  clear h1
  go_wp2_with fail
  go_ret
  exact ⟨a1, c1, rfl, H1.out⟩
theorem varR_zero {l : List UInt8} (h : (varR l).2.2 ≠ 0) : (varR l).1 = 0 ∧ (varR l).2.1 = 0 := by
  unfold varR at h ⊢
  split
  · exact ⟨rfl, rfl⟩
  · rename_i h10
    rw [if_neg h10] at h
    revert h
    cases l[conts l]? with
    | none => intro _; exact ⟨rfl, rfl⟩
    | some c =>
      simp only
      split
      · intro _; exact ⟨rfl, rfl⟩
      · intro h; exact absurd rfl h

set_option maxHeartbeats 4000000 in
set_option maxRecDepth 100000 in
theorem varReadInt_any (w : World) (a : Option Addr) (n c : Nat) (l : List UInt8) (hl : Src w 1 (.slice a n c) n (u8s l)) (hn : n < 4611686018427387904) (hg : HasET w) :
    Calls Tryz.prog 60 #[.slice a n c] w fun e w' => e = .returned (.tuple #[.int .i64 (zag (varR l).1), .int .i64 ((varR l).2.1 : Int), .int .i64 (varR l).2.2]) ∧ Ext w w' := by
  have HC := Lib.hid (varRead_any w a n c l hl hn hg)
  have hb := (varR_bounds l).1
  generalize varR l = r at *
  clear hl hg
  go_enter Tryz.func60, Tryz.ntmps60
  go_wp2_with fail
  refine HC.out.mono ?_
  rintro e w1 ⟨rfl, hx⟩
  have HX := Lib.hid hx
  clear hx
  go_wp2_with fail
  refine (zag_any r.1 w1 hb).mono ?_
  rintro e w' ⟨rfl, rfl⟩
  go_wp2_with fail
  go_ret3
  exact ⟨rfl, HX.out⟩
set_option maxHeartbeats 4000000 in
set_option maxRecDepth 100000 in
theorem ref3ReadInt_any (w : World) (a : Option Addr) (n c : Nat) (l : List UInt8) (hl : Src w 1 (.slice a n c) n (u8s l)) (hn : n < 4611686018427387904) :
    Calls Tryz.prog 58 #[.slice a n c] w fun e w' => e = .returned (.tuple #[.int .i64 (zag (varR l).1), .int .i64 ((varR l).2.1 : Int), .int .i64 (varR l).2.2]) ∧ w = w' := by
  have HC := Lib.hid (ref3Read_any w a n c l hl hn)
  have hb := (varR_bounds l).1
  have HZ := Lib.hid (varR_zero (l := l))
  generalize varR l = r at *
  obtain ⟨u, k, x⟩ := r
  simp only at hb HZ HC ⊢
  clear hl
  by_cases hx : x = 0
  · subst hx
    go_enter Tryz.func58, Tryz.ntmps58
    go_wp2_with fail
    refine HC.out.mono ?_
    rintro e w1 ⟨rfl, rfl⟩
    go_wp2_with fail
    refine (ref1zag_any u w hb).mono ?_
    rintro e w' ⟨rfl, rfl⟩
    go_wp2_with fail
    go_ret3
    exact ⟨rfl, rfl⟩
  · have hne : (x != 0) = true := by simp [hx]
    have HZ2 := Lib.hid (HZ.out hx)
    clear hx HZ
    go_enter Tryz.func58, Tryz.ntmps58
    go_wp2_with fail
    refine HC.out.mono ?_
    rintro e w1 ⟨rfl, rfl⟩
    go_wp2_with fail
    go_ret3
    rw [HZ2.out.1, HZ2.out.2]
    exact ⟨rfl, rfl⟩
end Go.Proofs.YtdgmnhcgjbkafaaGreatDoor
