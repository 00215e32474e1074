/- tidemillref03: Put, PutText. -/
import Derived.Test.YtgdgjnecgelalaaGreatDoorR03
import Derived.Test.YtgdgjnecgelalaaGreatDoorErr
import Derived.Test.YtgdgjnecgelalaaGreatDoorVpt
import Derived.Test.YtgdgjnecgelalaaGreatDoorLex
import Derived.Test.YtgdgjnecgelalaaGreatDoorMap
import Derived.OrdersHeld
import Derived.Lib.QuietBelow
namespace Go.Proofs.YtgdgjnecgelalaaGreatDoor
open Go.RowKit Go.Sort Go.Lib

theorem MadeTo.app {w0 w w' : World} {e : TypeId} {size n : Nat} {v v' : Value} {ys : List Value} (hown : ∀ g, v.ownBlock = some g → w0.heap.size ≤ g) (hx : Ext w0 w) (ha : Appended w e size v n ys v' w') : MadeTo w0 e size v' n ys w' :=
  ⟨ha.row, fun g hg => by
    rcases ha.loc with e | e
    · exact hown g (e ▸ hg)
    · rw [e] at hg; cases hg; exact hx.size,
   Chg.ext ((Chg.of_ext hx).trans ha.chg (fun _ _ e => e)) (fun i hi e => by have := hown i e; omega)⟩
theorem MadeTo.trans {w0 w1 w2 : World} {e : TypeId} {size n : Nat} {v : Value} {xs : List Value} (hx : Ext w0 w1) (h : MadeTo w1 e size v n xs w2) : MadeTo w0 e size v n xs w2 :=
  ⟨h.row, fun g hg => Nat.le_trans hx.size (h.own g hg), hx.trans h.ext⟩
theorem row_empty {W : World} {b : Nat} {t : TypeId} (h : W.heap[b]? = some (.cells #[] t (0, 0))) : Row W t 1 (.slice (some ⟨b, 0, none⟩) 0 0) 0 [] :=
  ⟨rfl, .inr ⟨b, 0, #[], rfl, Nat.zero_le _, h, Nat.le_refl _, by unfold maxLen; omega, rfl, rfl⟩⟩

/-- What has been put so far. -/
structure Put3R (w : World) (xs full : List UInt8) (u n : Nat) (v : Value) (wr : World) : Prop where
  st : MadeTo w 5 1 v n (u8s xs) wr
  len : n = xs.length
  eq : xs ++ varP u = full

set_option maxHeartbeats 4000000 in
set_option maxRecDepth 100000 in
theorem ref3Put_any (w : World) (a : Option Addr) (n c : Nat) (l : List UInt8) (u : Nat) (hu : u < 2 ^ 64) (hl : Src w 1 (.slice a n c) n (u8s l)) (hn : n ≤ 70368744177664) :
    Calls Tryz.prog 125 #[.slice a n c, .int .u64 (u : Int)] w fun e w' => ∃ v, e = .returned v ∧ MadeTo w 5 1 v (l ++ varP u).length (u8s (l ++ varP u)) w' := by
  have HL := Lib.hid hl
  have HLEN := Lib.hid (u8s_src_len hl)
  clear hl
  go_enter Tryz.func125, Tryz.ntmps125
  go_wp2_with (at_builtin; go_must (refine wpList_append_to elem_u8 rfl _ _ rfl (n := 0) (m := n) (v := .slice _ _ _) rfl rfl (row_empty (heap_alloc_new _ _)) (HL.out.ext ((Ext.refl w).alloc _)) (by unfold maxLen; omega) (by omega) ?_; intro v' w4 happ); have HM := Lib.hid (MadeTo.app (w0 := w) (fun g hg => by simp [Value.ownBlock] at hg; omega) ((Ext.refl w).alloc _) happ); obtain ⟨va, vc, rfl⟩ := happ.row.shape; clear happ)
  have H0 : Hid (Put3R w l (l ++ varP u) u n (.slice va (0 + n) vc) w4) := Lib.hid ⟨by have := HM.out; simpa using this, HLEN.out.symm, rfl⟩
  clear HM
  go_loopw [1, 5] (fun su sv wr => ∃ (u' m : Nat) (va : Option Addr) (vc : Nat) (xs : List UInt8), su = .int .u64 (u' : Int) ∧ sv = .slice va m vc ∧ u' < 2 ^ 64 ∧ m ≤ n + 10 ∧ Hid (Put3R w xs (l ++ varP u) u' m (.slice va m vc) wr)) (fun su _ _ => (RowKit.intOf su).toNat)
  case atStart => exact ⟨u, n, va, vc, l, rfl, by simp, hu, by omega, by have := H0; simpa using this⟩
  case round =>
    clear H0
    obtain ⟨u', m, va, vc, xs, rfl, rfl, hu', hm, HR⟩ := hrel
    by_cases hlt : u' < 128
    · have hlt' : (u' : Int) < 128 := by omega
      have HF : Hid (xs ++ varP u' = l ++ varP u) := Lib.hid HR.out.eq
      obtain ⟨x, hx⟩ : ∃ x : UInt8, u' = x.toNat := ⟨UInt8.ofNat u', by rw [UInt8.toNat_ofNat']; omega⟩
      have HP : Hid (varP u' = [x]) := Lib.hid (by rw [varP_lt hlt, hx]; simp)
      subst hx
      go_wp2_with (at_builtin; go_must (refine wpList_append_start elem_u8 rfl _ _ rfl rfl rfl (Start.row (HR.out.st.row.ext ((Ext.refl _).alloc _)) HR.out.st.own) (HR.out.st.ext.trans ((Ext.refl _).alloc _)) (src_byte (x := x) (heap_alloc_new _ _)) (by omega) (by unfold maxLen; omega) (by omega) ?_; intro v' w4 hmade); have HM := Lib.hid hmade; clear hmade)
      go_ret
      refine ⟨_, rfl, ?_⟩
      rw [← HF.out, HP.out, u8s_append, List.length_append, ← HR.out.len]
      exact HM.out
    · have hlt' : ¬ (u' : Int) < 128 := by omega
      obtain ⟨x, hx⟩ : ∃ x : UInt8, u' % 128 + 128 = x.toNat := ⟨UInt8.ofNat (u' % 128 + 128), by rw [UInt8.toNat_ofNat']; omega⟩
      have hx2 : (u' : Int) % 128 + 128 = (x.toNat : Int) := by omega
      have HP : Hid (varP u' = x :: varP (u' / 128)) := Lib.hid (by rw [varP_ge hlt, hx]; simp)
      clear hx
      go_wp2_with (at_builtin; go_must (refine wpList_append_start elem_u8 rfl _ _ rfl rfl rfl (Start.row (HR.out.st.row.ext ((Ext.refl _).alloc _)) HR.out.st.own) (HR.out.st.ext.trans ((Ext.refl _).alloc _)) (src_byte (x := x) (heap_alloc_new _ _)) (by omega) (by unfold maxLen; omega) (by omega) ?_; intro v' w4 hmade); have HM := Lib.hid hmade; obtain ⟨va', vc', rfl⟩ := hmade.row.shape; clear hmade)
      have HE : Hid ((xs ++ [x]) ++ varP (u' / 128) = l ++ varP u ∧ m + 1 ≤ n + 10) := Lib.hid (by
        have h1 := HR.out.eq
        rw [HP.out] at h1
        refine ⟨by rw [← h1]; simp, ?_⟩
        have h2 := congrArg List.length h1
        have h3 := varP_10 hu
        have h4 := HR.out.len
        have h5 := varP_pos (u' / 128)
        have h6 := HLEN.out
        simp at h2
        omega)
      go_roundw
      case rel => exact ⟨u' / 128, m + 1, va', vc', xs ++ [x], by first | rfl | go_num, rfl, by omega, HE.out.2, Lib.hid ⟨by rw [u8s_append]; exact HM.out, by simp; exact HR.out.len, HE.out.1⟩⟩
      case measure => simp [RowKit.intOf]; omega

set_option maxHeartbeats 4000000 in
set_option maxRecDepth 100000 in
theorem ref3PutText_any (w : World) (a : Option Addr) (n c : Nat) (l : List UInt8) (s : ByteArray) (hl : Src w 1 (.slice a n c) n (u8s l)) (hn : n ≤ 35184372088832) (hs : s.size ≤ 35184372088832) :
    Calls Tryz.prog 96 #[.slice a n c, .string s] w fun e w' => ∃ v, e = .returned v ∧ MadeTo w 5 1 v (l ++ (varP s.size ++ s.data.toList)).length (u8s (l ++ (varP s.size ++ s.data.toList))) w' := by
  have HL := Lib.hid hl
  have hlen := u8s_src_len hl
  have hsz : s.data.toList.length = s.size := by simp
  have hP := varP_10 (u := s.size) (by omega)
  have hbd : (l ++ varP s.size).length + s.size ≤ 140737488355328 := by rw [List.length_append]; omega
  have HBD := Lib.hid hbd
  have HSZ := Lib.hid hsz
  clear hl hP hbd hlen hsz
  go_enter Tryz.func96, Tryz.ntmps96
  go_wp2_with fail
  refine (ref3Put_any w a n c l s.size (by omega) HL.out (by omega)).mono ?_
  rintro e w1 ⟨v, rfl, hm⟩
  obtain ⟨N, hN⟩ : ∃ N, N = (l ++ varP s.size).length := ⟨_, rfl⟩
  rw [← hN] at hm
  have HN := Lib.hid hN
  clear hN
  obtain ⟨va, vc, rfl⟩ := hm.row.shape
  have HM := Lib.hid hm
  clear hm
  go_wp2_with (at_builtin; go_must (refine wpList_append_str rfl _ _ rfl rfl rfl HM.out (by unfold maxLen; rw [HN.out]; have := HBD.out; omega) (by rw [HN.out]; exact HBD.out) ?_; intro v' w4 hmade); have HM4 := Lib.hid hmade; clear hmade)
  go_ret
  refine ⟨_, rfl, ?_⟩
  rw [← List.append_assoc, u8s_append, List.length_append, ← HN.out, HSZ.out]
  exact HM4.out
end Go.Proofs.YtgdgjnecgelalaaGreatDoor

/-! Numbers that may be below 0, put and read (varint's and the document's). -/

namespace Go.Proofs.YtgdgjnecgelalaaGreatDoor
open Go.RowKit Go.Sort Go.Lib

/-- Bytes that were put behind others. -/
def PutTo (w : World) (l : List UInt8) (e : Ending) (w' : World) : Prop := ∃ a c, e = .returned (.slice a l.length c) ∧ MadeTo w 5 1 (.slice a l.length c) l.length (u8s l) w'
theorem PutTo.of {w w' : World} {l : List UInt8} {e : Ending} (h : ∃ v, e = .returned v ∧ MadeTo w 5 1 v l.length (u8s l) w') : PutTo w l e w' := by
  obtain ⟨v, rfl, h⟩ := h
  obtain ⟨a, c, rfl⟩ := h.row.shape
  exact ⟨a, c, rfl, h⟩
theorem i64_zig {n : Int} (h0 : -9223372036854775808 ≤ n) (h1 : n ≤ 9223372036854775807) : zig n < 2 ^ 64 := zig_lt h0 h1

theorem varPut' (w : World) (a : Option Addr) (n c : Nat) (l : List UInt8) (u : Nat) (hu : u < 2 ^ 64) (hl : Src w 1 (.slice a n c) n (u8s l)) (hnc : n ≤ c) (hn : n ≤ 70368744177664) :
    Calls Tryz.prog 41 #[.slice a n c, .int .u64 (u : Int)] w (PutTo w (l ++ varP u)) := (varPut_any w a n c l u hu hl hnc hn).mono fun _ _ h => .of h
theorem ref3Put' (w : World) (a : Option Addr) (n c : Nat) (l : List UInt8) (u : Nat) (hu : u < 2 ^ 64) (hl : Src w 1 (.slice a n c) n (u8s l)) (hn : n ≤ 70368744177664) :
    Calls Tryz.prog 125 #[.slice a n c, .int .u64 (u : Int)] w (PutTo w (l ++ varP u)) := (ref3Put_any w a n c l u hu hl hn).mono fun _ _ h => .of h
theorem varPutText' (w : World) (a : Option Addr) (n c : Nat) (l : List UInt8) (s : ByteArray) (hl : Src w 1 (.slice a n c) n (u8s l)) (hnc : n ≤ c) (hn : n ≤ 35184372088832) (hs : s.size ≤ 35184372088832) :
    Calls Tryz.prog 44 #[.slice a n c, .string s] w (PutTo w (l ++ (varP s.size ++ s.data.toList))) := (varPutText_any w a n c l s hl hnc hn hs).mono fun _ _ h => .of h
theorem ref3PutText' (w : World) (a : Option Addr) (n c : Nat) (l : List UInt8) (s : ByteArray) (hl : Src w 1 (.slice a n c) n (u8s l)) (hn : n ≤ 35184372088832) (hs : s.size ≤ 35184372088832) :
    Calls Tryz.prog 96 #[.slice a n c, .string s] w (PutTo w (l ++ (varP s.size ++ s.data.toList))) := (ref3PutText_any w a n c l s hl hn hs).mono fun _ _ h => .of h

set_option maxHeartbeats 4000000 in
set_option maxRecDepth 100000 in
theorem varPutInt_any (w : World) (a : Option Addr) (n c : Nat) (l : List UInt8) (z : Int) (h0 : -9223372036854775808 ≤ z) (h1 : z ≤ 9223372036854775807) (hl : Src w 1 (.slice a n c) n (u8s l)) (hnc : n ≤ c) (hn : n ≤ 70368744177664) :
    Calls Tryz.prog 43 #[.slice a n c, .int .i64 z] w (PutTo w (l ++ varP (zig z))) := by
  have HL := Lib.hid hl
  have HC := Lib.hid (varPut' w a n c l (zig z) (i64_zig h0 h1) hl hnc hn)
  generalize l ++ varP (zig z) = L at HC ⊢
  clear hl HL
  go_enter Tryz.func43, Tryz.ntmps43
  go_wp2_with fail
  refine (zig_any z w h0 h1).mono ?_
  rintro e w' ⟨rfl, rfl⟩
  go_wp2_with fail
  refine HC.out.mono ?_
  rintro e w1 ⟨a1, c1, rfl, h1⟩
  have H1 := Lib.hid h1
  clear h1
  go_wp2_with fail
  go_ret
  exact ⟨a1, c1, rfl, H1.out⟩
set_option maxHeartbeats 4000000 in
set_option maxRecDepth 100000 in
theorem ref3PutInt_any (w : World) (a : Option Addr) (n c : Nat) (l : List UInt8) (z : Int) (h0 : -9223372036854775808 ≤ z) (h1 : z ≤ 9223372036854775807) (hl : Src w 1 (.slice a n c) n (u8s l)) (hn : n ≤ 70368744177664) :
    Calls Tryz.prog 97 #[.slice a n c, .int .i64 z] w (PutTo w (l ++ varP (zig z))) := by
  have HL := Lib.hid hl
  have HC := Lib.hid (ref3Put' w a n c l (zig z) (i64_zig h0 h1) hl hn)
  generalize l ++ varP (zig z) = L at HC ⊢
  clear hl HL
  go_enter Tryz.func97, Tryz.ntmps97
  go_wp2_with fail
  refine (ref1zig_any z w h0 h1).mono ?_
  rintro e w' ⟨rfl, rfl⟩
  go_wp2_with fail
  refine HC.out.mono ?_
  rintro e w1 ⟨a1, c1, rfl, h1⟩
  have H1 := Lib.hid h1
  clear h1
  go_wp2_with fail
  go_ret
  exact ⟨a1, c1, rfl, H1.out⟩
theorem varR_zero {l : List UInt8} (h : (varR l).2.2 ≠ 0) : (varR l).1 = 0 ∧ (varR l).2.1 = 0 := by
  unfold varR at h ⊢
  split
  · exact ⟨rfl, rfl⟩
  · rename_i h10
    rw [if_neg h10] at h
    revert h
    cases l[conts l]? with
    | none => intro _; exact ⟨rfl, rfl⟩
    | some c =>
      simp only
      split
      · intro _; exact ⟨rfl, rfl⟩
      · intro h; exact absurd rfl h

set_option maxHeartbeats 4000000 in
set_option maxRecDepth 100000 in
theorem varReadInt_any (w : World) (a : Option Addr) (n c : Nat) (l : List UInt8) (hl : Src w 1 (.slice a n c) n (u8s l)) (hn : n < 4611686018427387904) (hg : HasET w) :
    Calls Tryz.prog 108 #[.slice a n c] w fun e w' => e = .returned (.tuple #[.int .i64 (zag (varR l).1), .int .i64 ((varR l).2.1 : Int), .int .i64 (varR l).2.2]) ∧ Ext w w' := by
  have HC := Lib.hid (varRead_any w a n c l hl hn hg)
  have hb := (varR_bounds l).1
  generalize varR l = r at *
  clear hl hg
  go_enter Tryz.func108, Tryz.ntmps108
  go_wp2_with fail
  refine HC.out.mono ?_
  rintro e w1 ⟨rfl, hx⟩
  have HX := Lib.hid hx
  clear hx
  go_wp2_with fail
  refine (zag_any r.1 w1 hb).mono ?_
  rintro e w' ⟨rfl, rfl⟩
  go_wp2_with fail
  go_ret3
  exact ⟨rfl, HX.out⟩
set_option maxHeartbeats 4000000 in
set_option maxRecDepth 100000 in
theorem ref3ReadInt_any (w : World) (a : Option Addr) (n c : Nat) (l : List UInt8) (hl : Src w 1 (.slice a n c) n (u8s l)) (hn : n < 4611686018427387904) :
    Calls Tryz.prog 106 #[.slice a n c] w fun e w' => e = .returned (.tuple #[.int .i64 (zag (varR l).1), .int .i64 ((varR l).2.1 : Int), .int .i64 (varR l).2.2]) ∧ w = w' := by
  have HC := Lib.hid (ref3Read_any w a n c l hl hn)
  have hb := (varR_bounds l).1
  have HZ := Lib.hid (varR_zero (l := l))
  generalize varR l = r at *
  obtain ⟨u, k, x⟩ := r
  simp only at hb HZ HC ⊢
  clear hl
  by_cases hx : x = 0
  · subst hx
    go_enter Tryz.func106, Tryz.ntmps106
    go_wp2_with fail
    refine HC.out.mono ?_
    rintro e w1 ⟨rfl, rfl⟩
    go_wp2_with fail
    refine (ref1zag_any u w hb).mono ?_
    rintro e w' ⟨rfl, rfl⟩
    go_wp2_with fail
    go_ret3
    exact ⟨rfl, rfl⟩
  · have hne : (x != 0) = true := by simp [hx]
    have HZ2 := Lib.hid (HZ.out hx)
    clear hx HZ
    go_enter Tryz.func106, Tryz.ntmps106
    go_wp2_with fail
    refine HC.out.mono ?_
    rintro e w1 ⟨rfl, rfl⟩
    go_wp2_with fail
    go_ret3
    rw [HZ2.out.1, HZ2.out.2]
    exact ⟨rfl, rfl⟩
end Go.Proofs.YtgdgjnecgelalaaGreatDoor

/-! A region that draws its order, with effects over which loads may float: what reads alike in every world of a class S is taken first; each effect comes up alone, and keeps S. -/

namespace Go.Proofs.YtgdgjnecgelalaaGreatDoor
open Go Go.Sort Go.RowKit

section
variable {P : Program} {md : Region.Mode} {S : World → Prop} {Q : Exit → Act → World → Prop}

/-- What follows an effect: S anew, then the rest. -/
def thenHeld (S : World → Prop) (Q : Exit → Act → World → Prop) (K : Act → World → Prop) : Exit → Act → World → Prop
  | .normal, a, w => S w ∧ K a w
  | e, a, w => Q e a w

/-- Parts: some operations that read, then an effect. -/
def wpHeld (P : Program) (l : List Oper) (S : World → Prop) (Q : Exit → Act → World → Prop) : List (List Nat × Option Nat) → Act → World → Prop
  | [], a, w => Q .normal a w
  | (ps, none) :: s, a, w => wpQuiet P l.toArray S (fun a1 => wpHeld P l S Q s a1 w) (pickOps l ps) a
  | (ps, some i) :: s, a, w => wpQuiet P l.toArray S (fun a1 => wpList P l.toArray (thenHeld S Q (wpHeld P l S Q s)) (pickOps l [i]) a1 w) (pickOps l ps) a

def isLen (o : Op) : Bool := match o with
  | .call c => (match c.callee with | .builtin .len => true | _ => false)
  | _ => false

theorem run_isLen {o : Oper} (h : isLen o.op = true) (ρ : Operand → Value) (w w' : World) (n : Next) (hr : (execOp ρ o).run P w = .ok n w') : ∃ v, n = .value v := by
  unfold isLen at h
  split at h
  · rename_i c hc
    split at h
    · rename_i hb
      unfold execOp at hr
      rw [hc] at hr
      simp only [resolve, hb, invoke, builtin, Sem.run_bind, Sem.run_pure, Result.andThen_ok] at hr
      generalize hx : Sem.run P (Builtin.len_ _ _ _) w = r at hr
      cases r with
      | ok x w1 => simp [Result.andThen] at hr; exact ⟨x, hr.1.symm⟩
      | halt x w1 => simp [Result.andThen] at hr
    · simp at h
  · simp at h

def readsB (o : Op) : Bool := isVal o || isLen o
theorem run_reads {o : Oper} (h : readsB o.op = true) (ρ : Operand → Value) (w w' : World) (n : Next) (hr : (execOp ρ o).run P w = .ok n w') : ∃ v, n = .value v := by
  simp only [readsB, Bool.or_eq_true] at h
  rcases h with h | h
  · exact run_isVal h ρ w w' n hr
  · exact run_isLen h ρ w w' n hr

/-- May all of these be taken first, one behind the other? What is listed then. -/
def takesB (md : Region.Mode) (ops : Array Oper) : List Nat → Array Bool → Option (Array Bool)
  | [], listed => some listed
  | i :: ps, listed => if ((Region.ready md ops listed).contains i && Region.free md ops listed i && (match ops[i]? with | some o => readsB o.op | none => false)) = true then takesB md ops ps (listed.setIfInBounds i true) else none

def heldB (md : Region.Mode) (ops : Array Oper) : List (List Nat × Option Nat) → Array Bool → Bool
  | [], listed => (Region.ready md ops listed).isEmpty
  | (ps, e) :: s, listed => match takesB md ops ps listed with
    | none => false
    | some l1 => match e with
      | none => heldB md ops s l1
      | some i => decide (Region.ready md ops l1 = [i]) && heldB md ops s (l1.setIfInBounds i true)

/-- How many operations there are in all. -/
def countOf : List (List Nat × Option Nat) → Nat
  | [] => 0
  | (ps, none) :: s => ps.length + countOf s
  | (ps, some _) :: s => ps.length + (countOf s + 1)

theorem wpAnyH_takes {l : List Oper} {K : Act → Prop} {w : World} {g : Nat} (hs : Region.noSelect l.toArray = true) (hQ : ∀ c a d v w, Q (.panic c) (a.put d v) w → Q (.panic c) a w) (hS : S w) :
    ∀ (ps : List Nat) (listed l1 : Array Bool) (a : Act), takesB md l.toArray ps listed = some l1 → (∀ a1, K a1 → wpAnyH P md l.toArray Q S g l1 a1 w) →
      wpQuiet P l.toArray S K (pickOps l ps) a → wpAnyH P md l.toArray Q S (ps.length + g) listed a w
  | [], listed, l1, a, hB, hK, h => by
    simp [takesB] at hB; subst hB
    rw [List.length_nil, Nat.zero_add]; exact hK a h
  | i :: ps, listed, l1, a, hB, hK, h => by
    simp only [takesB] at hB
    by_cases hc : ((Region.ready md l.toArray listed).contains i && Region.free md l.toArray listed i && (match l.toArray[i]? with | some o => readsB o.op | none => false)) = true
    · rw [if_pos hc] at hB
      simp only [Bool.and_eq_true] at hc
      obtain ⟨⟨hr, hf⟩, hv⟩ := hc
      have hr' : i ∈ Region.ready md l.toArray listed := by simpa using hr
      obtain ⟨_, o, ho, _⟩ := mem_ready.1 hr'
      rw [ho] at hv
      have ho' : l[i]? = some o := by simpa using ho
      rw [pickOps_cons ho'] at h
      have hst : qOp P l.toArray S i (wpQuiet P l.toArray S K (pickOps l ps)) a := by unfold qOp; simp only [ho]; exact h
      obtain ⟨v, hy, hK'⟩ := yieldsIn_of_qOp ho hst
      have hy' : YieldsIf P l.toArray S o v a := by
        rcases hy with ⟨hw, hh⟩ | hh
        · refine .inl ⟨hw, fun w hSw => ?_⟩
          have h1 := hh w hSw
          unfold Oper.quietAt at h1
          cases hrun : (execOp a.eval o).run P w with
          | halt x w' => rw [hrun] at h1; simp [Oper.quietUpon] at h1
          | ok n w' =>
            rw [hrun] at h1
            obtain ⟨u, rfl⟩ := run_reads hv _ _ _ _ hrun
            simp only [Oper.quietUpon] at h1
            rw [h1.1, h1.2]
        · exact .inr hh
      rw [show (i :: ps).length + g = (ps.length + g) + 1 by simp; omega]
      exact wpAnyH_take ho hs hf hr (fun c a w => hQ c a _ _ w) hy' hS (wpAnyH_takes hs hQ hS ps _ _ _ hB hK hK')
    · rw [if_neg hc] at hB; simp at hB

theorem wpAnyH_of_held {l : List Oper} (hs : Region.noSelect l.toArray = true) (hQ : ∀ c a d v w, Q (.panic c) (a.put d v) w → Q (.panic c) a w) :
    ∀ (s : List (List Nat × Option Nat)) (listed : Array Bool) (a : Act) (w : World), heldB md l.toArray s listed = true → S w → wpHeld P l S Q s a w → wpAnyH P md l.toArray Q S (countOf s) listed a w
  | [], listed, a, w, hB, _, h => ⟨by simpa [heldB] using hB, h⟩
  | (ps, none) :: s, listed, a, w, hB, hS, h => by
    simp only [heldB] at hB
    split at hB
    · simp at hB
    · rename_i l1 hl1
      exact wpAnyH_takes hs hQ hS ps listed l1 a hl1 (fun a1 h1 => wpAnyH_of_held hs hQ s l1 a1 w hB hS h1) h
  | (ps, some i) :: s, listed, a, w, hB, hS, h => by
    simp only [heldB] at hB
    split at hB
    · simp at hB
    · rename_i l1 hl1
      simp only [Bool.and_eq_true, decide_eq_true_eq] at hB
      refine wpAnyH_takes hs hQ hS ps listed l1 a hl1 (fun a1 h1 => ?_) h
      have hi : i ∈ Region.ready md l.toArray l1 := by rw [hB.1]; simp
      obtain ⟨_, o, ho, _⟩ := mem_ready.1 hi
      have ho' : l[i]? = some o := by simpa using ho
      rw [pickOps_cons ho'] at h1
      simp only [pickOps, wpList] at h1
      refine wpAnyH_all hB.1 (by simp) fun j hj => ?_
      simp at hj; subst hj
      unfold wpOp
      simp only [ho]
      split
      · rename_i hw
        simp only [hw, if_true] at h1
        rcases h1 with h1 | ⟨h1, a0, w0, h2⟩
        · refine .inl ?_
          unfold Oper.wp at h1 ⊢
          generalize (execOp a1.eval o).run P w = r at *
          cases r with
          | ok n w' =>
            cases n <;> simp only [Oper.upon] at h1 ⊢
            case value u => exact ⟨h1.1, wpAnyH_of_held hs hQ s _ _ _ hB.2 h1.1 h1.2⟩
            case skip => exact ⟨h1.1, wpAnyH_of_held hs hQ s _ _ _ hB.2 h1.1 h1.2⟩
            case defer d => exact ⟨h1.1, wpAnyH_of_held hs hQ s _ _ _ hB.2 h1.1 h1.2⟩
            case enter f args =>
              refine Calls.mono h1 fun e w'' he => ?_
              cases e with
              | returned u => exact ⟨he.1, wpAnyH_of_held hs hQ s _ _ _ hB.2 he.1 he.2⟩
              | panicked c => exact he
              | outgrown => obtain ⟨x, y, hxy⟩ := he; exact ⟨x, y, hxy⟩
            case row row args => exact Rows.mono h1 fun u w'' he => ⟨he.1, wpAnyH_of_held hs hQ s _ _ _ hB.2 he.1 he.2⟩
          | halt x w' =>
            cases x <;> simp only [Oper.upon] at h1 ⊢
            case panic u => exact h1
        · exact .inr ⟨h1, a0, w0, h2⟩
      · rename_i hw
        simp only [hw] at h1
        exact ⟨h1.1, wpAnyH_of_held hs hQ s _ _ _ hB.2 h1.1 h1.2⟩

/-- The region, in parts. -/
theorem wp_region_parts {id : Nat} {a : Act} {w : World} {l : List Oper} (S : World → Prop) (s : List (List Nat × Option Nat)) (hm : P.follows .mixedOrders = true)
    (hB : (Region.noSelect l.toArray && heldB .any l.toArray s (Array.replicate l.toArray.size false) && decide (countOf s = l.toArray.size)) = true)
    (hQ : ∀ c a d v w, Q (.panic c) (a.put d v) w → Q (.panic c) a w) (hS : S { w with drawn := w.drawn + 1 }) (h : wpHeld P l S Q s a { w with drawn := w.drawn + 1 }) :
    (Code.region id l.toArray true).wp P Q a w := by
  simp only [Bool.and_eq_true, decide_eq_true_eq] at hB
  obtain ⟨⟨h1, h2⟩, h3⟩ := hB
  refine wp_region_held (S := S) hm ?_
  rw [← h3]
  have := wpAnyH_of_held (P := P) (S := S) (Q := Q) h1 hQ s _ a _ h2 hS h
  rw [h3] at this ⊢
  exact this

end
end Go.Proofs.YtgdgjnecgelalaaGreatDoor
