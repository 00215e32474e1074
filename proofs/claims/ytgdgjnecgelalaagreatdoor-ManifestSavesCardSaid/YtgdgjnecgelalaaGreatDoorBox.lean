/- Slices that are made empty, with room; arrays as slices. -/
import Derived.Test.YtgdgjnecgelalaaGreatDoorByt
import Derived.Laws.MakeOwn
import Derived.Test.YtgdgjnecgelalaaGreatDoorHeld
import Derived.Test.YtgdgjnecgelalaaGreatDoorPlan
import Derived.Deep.DeepCutAuto
import Derived.Test.YtgdgjnecgelalaaGreatDoorApp
import Derived.Deep.MidRow
import Derived.Laws.ResultCell
import Derived.Laws.CopyRow
namespace Go.Proofs.YtgdgjnecgelalaaGreatDoor
open Go.RowKit Go.Sort Go.Lib

theorem make_room {P : Program} {t e : TypeId} {size bytes : Nat} (E : ElemOk P t e size bytes) (w : World) (c : Nat) (hc : c ≤ 1000000000000) (hb : bytes ≤ 200) :
    ∃ w', (Instr.makeSlice t (.int .i64 0) (.int .i64 (c : Int))).run P w = .ok (.slice (some ⟨w.heap.size, 0, none⟩) 0 c) w' ∧ MadeTo w e size (.slice (some ⟨w.heap.size, 0, none⟩) 0 c) 0 [] w' := by
  obtain ⟨i, z, hi, hz, h1, h2, h3⟩ := E.info
  obtain ⟨w', r1, r2, r3⟩ := run_make_own (P := P) (w := w) w.heap.size t e i z size E.und hi hz h1 .i64 .i64 c (by rw [h2]; have := Nat.mul_le_mul hb hc; omega) (by unfold maxLen; omega) (Nat.le_refl _)
  refine ⟨w', r1, ?_, fun g hg => ?_, (Chg.of_grown r3).ext (fun i hi e => by simp at e)⟩
  · obtain ⟨q1, q2⟩ := r2
    refine ⟨q1, q2.imp id ?_⟩
    rintro ⟨g, cap, cur, p1, _, p3⟩
    exact ⟨g, cap, cur, p1, Nat.zero_le _, p3⟩
  · have e2 : w.heap.size = g := Option.some.inj hg; omega
theorem wpList_makeS_run {P : Program} {w : World} {ops : Array Oper} {rest : List Oper} {o : Oper} {a : Act} {Q : Exit → Act → World → Prop} (hgd : Region.wanted o (yielded ops a.tmps) = true) (t : TypeId) (l c : Operand)
    (ho : o.op = .makeSlice t l c) (lv cv v : Value) (w' : World) (hl : a.eval l = lv) (hc : a.eval c = cv)
    (hr : (Instr.makeSlice t lv cv).run P w = .ok v w') (h : wpList P ops Q rest (a.put o.dst v) w') :
    wpList P ops Q (o :: rest) a w := by
  refine wpList_step fun K hK => ?_
  rw [if_pos hgd]
  unfold Oper.wp execOp
  simp only [ho, hl, hc, Sem.run_bind, hr, Result.andThen_ok, Sem.run_pure]
  exact hK _ _ h
/-- What has been made, and more behind it. -/
theorem MadeTo.more {w0 w w' : World} {e : TypeId} {size n m : Nat} {v v' : Value} {xs ys : List Value} (h : MadeTo w0 e size v n xs w) {w1 : World} (hx : Ext w w1) (ha : Appended w1 e size v (n + m) (xs ++ ys) v' w') : MadeTo w0 e size v' (n + m) (xs ++ ys) w' :=
  ⟨ha.row, fun g hg => by
    rcases ha.loc with e | e
    · exact h.own g (e ▸ hg)
    · rw [e] at hg; cases hg; exact (h.ext.trans hx).size, ((Chg.of_ext (h.ext.trans hx)).trans ha.chg (fun _ _ e => e)).ext (fun i hi e => by have := h.own i e; omega)⟩
theorem MadeTo.ext' {w0 w w1 : World} {e : TypeId} {size n : Nat} {v : Value} {xs : List Value} (h : MadeTo w0 e size v n xs w) (hx : Ext w w1) : MadeTo w0 e size v n xs w1 := ⟨h.row.ext hx, h.own, h.ext.trans hx⟩
end Go.Proofs.YtgdgjnecgelalaaGreatDoor

/-! Water marks: put (water's and the document's). Bytes that grow: 'Buf'. -/

namespace Go.Proofs.YtgdgjnecgelalaaGreatDoor
open Go.RowKit Go.Sort Go.Lib

theorem Ext.newBlock {w w' : World} {o : Obj} (h : Ext (w.alloc o) w') : w'.heap[w.heap.size]? = some o := by
  rw [h.block (Array.getElem?_eq_some_iff.mp (heap_alloc_new w o)).1]; exact heap_alloc_new w o
theorem bufRow_le {w : World} {e : TypeId} {size n m c : Nat} {a : Option Addr} {xs : List Value} (h : Row w e size (.slice a m c) n xs) : m ≤ c := by
  obtain ⟨_, ⟨e, _⟩ | ⟨g, cap, cur, e, _, _, h2, _⟩⟩ := h
  · simp at e; omega
  · simp at e; omega
/-- Bytes that were made since a world. -/
structure Buf (w0 : World) (l : List UInt8) (n : Nat) (a : Option Addr) (c : Nat) (w : World) : Prop where
  made : MadeTo w0 5 1 (.slice a n c) n (u8s l) w
  len : n = l.length
theorem Buf.nil (w : World) : Buf w [] 0 none 0 w := ⟨⟨Row.nil _ _ _, fun g hg => by simp [Value.ownBlock] at hg, Ext.refl _⟩, rfl⟩
theorem Buf.src {w0 w : World} {l : List UInt8} {n c : Nat} {a : Option Addr} (h : Buf w0 l n a c w) : Src w 1 (.slice a n c) n (u8s l) := h.made.row.src (u8s_one _)
theorem Buf.le {w0 w : World} {l : List UInt8} {n c : Nat} {a : Option Addr} (h : Buf w0 l n a c w) : n ≤ c := bufRow_le h.made.row
theorem Buf.ext {w0 w w' : World} {l : List UInt8} {n c : Nat} {a : Option Addr} (h : Buf w0 l n a c w) (hx : Ext w w') : Buf w0 l n a c w' := ⟨h.made.ext' hx, h.len⟩
/-- What is there behind a put. -/
def PutB (w0 w : World) (l : List UInt8) (k : Nat) (e : Ending) (w' : World) : Prop := ∃ a c m, e = .returned (.slice a m c) ∧ Buf w0 l m a c w' ∧ Ext w w' ∧ m ≤ k ∧ ∀ q, (Value.slice a m c).ownBlock = some q → w.heap.size ≤ q
theorem PutB.of {w0 w w' : World} {l x : List UInt8} {n c k : Nat} {a : Option Addr} {e : Ending} (hB : Buf w0 l n a c w) (hk : x.length ≤ k) (h : PutTo w (l ++ x) e w') : PutB w0 w (l ++ x) (n + k) e w' := by
  obtain ⟨a', c', rfl, h⟩ := h
  exact ⟨a', c', _, rfl, ⟨h.trans hB.made.ext, rfl⟩, h.ext, by rw [List.length_append, ← hB.len]; omega, h.own⟩
def u64n (z : Int) : Nat := (z % 18446744073709551616).toNat
theorem u64n_wrap (z : Int) : IntKind.u64.wrap z = ((u64n z : Nat) : Int) := by rw [IntKind.wrap_u64]; unfold u64n; omega
theorem u64n_lt (z : Int) : u64n z < 2 ^ 64 := by unfold u64n; omega
theorem u64n_pos {z : Int} (h : 0 ≤ z) (h1 : z ≤ 9223372036854775807) : u64n z = z.toNat := by unfold u64n; omega

section
variable {w0 w : World} {l : List UInt8} {n c : Nat} {a : Option Addr}
theorem varPut_b {z : Int} (u : Nat) (hz : z = (u : Int)) (hu : u < 2 ^ 64) (hB : Buf w0 l n a c w) (hn : n ≤ 70368744177664) :
    Calls Tryz.prog 41 #[.slice a n c, .int .u64 z] w (PutB w0 w (l ++ varP u) (n + 10)) := by
  subst hz
  exact (varPut' w a n c l u hu hB.src hB.le hn).mono fun _ _ h => .of hB (varP_10 hu) h
theorem ref3Put_b {z : Int} (u : Nat) (hz : z = (u : Int)) (hu : u < 2 ^ 64) (hB : Buf w0 l n a c w) (hn : n ≤ 70368744177664) :
    Calls Tryz.prog 125 #[.slice a n c, .int .u64 z] w (PutB w0 w (l ++ varP u) (n + 10)) := by
  subst hz
  exact (ref3Put' w a n c l u hu hB.src hn).mono fun _ _ h => .of hB (varP_10 hu) h
theorem varPutInt_b (z : Int) (h0 : -9223372036854775808 ≤ z) (h1 : z ≤ 9223372036854775807) (hB : Buf w0 l n a c w) (hn : n ≤ 70368744177664) :
    Calls Tryz.prog 43 #[.slice a n c, .int .i64 z] w (PutB w0 w (l ++ varP (zig z)) (n + 10)) :=
  (varPutInt_any w a n c l z h0 h1 hB.src hB.le hn).mono fun _ _ h => .of hB (varP_10 (i64_zig h0 h1)) h
theorem ref3PutInt_b (z : Int) (h0 : -9223372036854775808 ≤ z) (h1 : z ≤ 9223372036854775807) (hB : Buf w0 l n a c w) (hn : n ≤ 70368744177664) :
    Calls Tryz.prog 97 #[.slice a n c, .int .i64 z] w (PutB w0 w (l ++ varP (zig z)) (n + 10)) :=
  (ref3PutInt_any w a n c l z h0 h1 hB.src hn).mono fun _ _ h => .of hB (varP_10 (i64_zig h0 h1)) h
/-- A text's bytes. -/
def txtP (s : ByteArray) : List UInt8 := varP s.size ++ s.data.toList
theorem txtP_len {s : ByteArray} (h : s.size < 2 ^ 64) : (txtP s).length ≤ 10 + s.size := by
  have h1 := varP_10 h
  have h2 : s.data.toList.length = s.size := by simp
  unfold txtP; rw [List.length_append]; omega
theorem varPutText_b (s : ByteArray) (hs : s.size ≤ 35184372088832) (hB : Buf w0 l n a c w) (hn : n ≤ 35184372088832) :
    Calls Tryz.prog 44 #[.slice a n c, .string s] w (PutB w0 w (l ++ txtP s) (n + (10 + s.size))) :=
  (varPutText' w a n c l s hB.src hB.le hn hs).mono fun _ _ h => .of hB (txtP_len (by omega)) h
theorem ref3PutText_b (s : ByteArray) (hs : s.size ≤ 35184372088832) (hB : Buf w0 l n a c w) (hn : n ≤ 35184372088832) :
    Calls Tryz.prog 96 #[.slice a n c, .string s] w (PutB w0 w (l ++ txtP s) (n + (10 + s.size))) :=
  (ref3PutText' w a n c l s hB.src hn hs).mono fun _ _ h => .of hB (txtP_len (by omega)) h
end

/-- A mark. -/
structure Mk where
  s : Bool
  t : Int
  g : Int
abbrev Mk.val (m : Mk) : Value := .agg #[.bool m.s, .int .i64 m.t, .int .i64 m.g]
structure Mk.ok (m : Mk) : Prop where
  t0 : -9223372036854775808 ≤ m.t
  t1 : m.t ≤ 9223372036854775807
  g0 : -9223372036854775808 ≤ m.g
  g1 : m.g ≤ 9223372036854775807
def markP (m : Mk) : List UInt8 := varP (u64n m.g) ++ (if m.s then varP 1 ++ varP (zig m.t) else varP 0)

set_option maxHeartbeats 4000000 in
set_option maxRecDepth 100000 in
theorem waterPut_b {w0 w : World} {l : List UInt8} {n c : Nat} {a : Option Addr} (m : Mk) (hm : m.ok) (hB : Buf w0 l n a c w) (hn : n ≤ 35184372088832) :
    Calls Tryz.prog 42 #[.slice a n c, m.val] w (PutB w0 w (l ++ markP m) (n + 30)) := by
  obtain ⟨s, t, g⟩ := m
  have ht0 := hm.t0
  have ht1 := hm.t1
  have HB := Lib.hid hB
  simp only at ht0 ht1
  clear hm hB
  cases s
  · have HF : Hid (l ++ varP (u64n g) ++ varP 0 = l ++ markP ⟨false, t, g⟩) := Lib.hid (by simp [markP])
    generalize l ++ markP ⟨false, t, g⟩ = L at HF ⊢
    go_enter Tryz.func42, Tryz.ntmps42
    go_wp2_with fail
    refine (varPut_b (u64n g) (u64n_wrap g) (u64n_lt g) (HB.out.ext ((Ext.refl _).alloc _)) (by omega)).mono ?_
    rintro e w1 ⟨a1, c1, n1, rfl, hB1, hx1, hn1, ho1⟩
    have HB1 := Lib.hid hB1
    have HX1 := Lib.hid (((Ext.refl w).alloc _).trans hx1)
    have h0 := hx1.newBlock
    have f0 := cell_of_block h0 0
    have f2 := cell_of_block h0 2
    clear hB1 hx1
    go_wp2_with fail
    refine (varPut_b 0 rfl (by decide) HB1.out (by omega)).mono ?_
    rintro e w2 ⟨a2, c2, n2, rfl, hB2, hx2, hn2, ho2⟩
    have HB2 := Lib.hid hB2
    have HX2 := Lib.hid (HX1.out.trans hx2)
    have HO2 := Lib.hid (fun q hq => Nat.le_trans HX1.out.size (ho2 q hq))
    clear ho1 ho2
    rw [HF.out] at HB2
    clear hB2 hx2 h0 f0 f2
    go_wp2_with fail
    go_ret
    exact ⟨a2, c2, n2, rfl, HB2.out, HX2.out, by omega, HO2.out⟩
  · have HF : Hid (l ++ varP (u64n g) ++ varP 1 ++ varP (zig t) = l ++ markP ⟨true, t, g⟩) := Lib.hid (by simp [markP])
    generalize l ++ markP ⟨true, t, g⟩ = L at HF ⊢
    go_enter Tryz.func42, Tryz.ntmps42
    go_wp2_with fail
    refine (varPut_b (u64n g) (u64n_wrap g) (u64n_lt g) (HB.out.ext ((Ext.refl _).alloc _)) (by omega)).mono ?_
    rintro e w1 ⟨a1, c1, n1, rfl, hB1, hx1, hn1, ho1⟩
    have HB1 := Lib.hid hB1
    have HX1 := Lib.hid (((Ext.refl w).alloc _).trans hx1)
    have h0 := hx1.newBlock
    have c0 := cell_of_block h0 0
    have f1 := cell_turned (T := fun _ => false) (cell_of_block h0 1) rfl
    clear hB1 hx1 h0
    go_wp2_with fail
    clear c0
    refine wp_region_plan 4 (fun w' => ∃ p : Turned, w' = turned w1 (fun _ => false) p.d p.f p.os) (.reads [0, 2, 3] (.one 1 (.one 4 (.one 5 .done)))) (by kernel_rfl) (by kernel_rfl) (fun _ _ dd _ _ hh => by cases dd <;> exact hh) ?_ ?_
    · exact turned_of_ext (Ext.drewN w1 1)
    refine wpPlan_reads ?_
    simp only [pickOps, List.getElem?_cons_succ, List.getElem?_cons_zero]
    iterate 3 (go_big_quiet_step (fail))
    refine wpQuiet_nil ?_
    clear f1
    refine wpPlan_one ?_
    simp only [pickOps, List.getElem?_cons_succ, List.getElem?_cons_zero]
    go_wp2_with fail
    refine (varPut_b 1 rfl (by decide) (HB1.out.ext (Ext.drewN w1 1)) (by omega)).mono ?_
    rintro e w2 ⟨a2, c2, n2, rfl, hB2, hx2, hn2, ho2⟩
    have HB2 := Lib.hid hB2
    have HX2 := Lib.hid ((Ext.drewN w1 1).trans hx2)
    clear hB2 hx2
    go_wp2_with fail
    refine thenX_mk (turned_of_ext HX2.out) (wpPlan_one ?_)
    simp only [pickOps, List.getElem?_cons_succ, List.getElem?_cons_zero]
    go_wp2_with fail
    refine (varPutInt_b t ht0 ht1 HB2.out (by omega)).mono ?_
    rintro e w3 ⟨a3, c3, n3, rfl, hB3, hx3, hn3, ho3⟩
    have HB3 := Lib.hid hB3
    have HX3 := Lib.hid (HX1.out.trans (HX2.out.trans hx3))
    have HO3 := Lib.hid (fun q hq => Nat.le_trans (HX1.out.trans HX2.out).size (ho3 q hq))
    clear ho1 ho2 ho3
    rw [HF.out] at HB3
    clear hB3 hx3
    go_wp2_with fail
    refine thenX_last (wpPlan_one ?_)
    simp only [pickOps, List.getElem?_cons_succ, List.getElem?_cons_zero]
    go_wp2_with fail
    refine thenX_last (wpPlan_done ?_)
    go_wp2_with fail
    go_ret
    exact ⟨a3, c3, n3, rfl, HB3.out, HX3.out, by omega, HO3.out⟩
set_option maxHeartbeats 4000000 in
set_option maxRecDepth 100000 in
theorem ref17Put_b {w0 w : World} {l : List UInt8} {n c : Nat} {a : Option Addr} (m : Mk) (hm : m.ok) (hB : Buf w0 l n a c w) (hn : n ≤ 35184372088832) :
    Calls Tryz.prog 95 #[.slice a n c, m.val] w (PutB w0 w (l ++ markP m) (n + 30)) := by
  obtain ⟨s, t, g⟩ := m
  have ht0 := hm.t0
  have ht1 := hm.t1
  have HB := Lib.hid hB
  simp only at ht0 ht1
  clear hm hB
  cases s
  · have HF : Hid (l ++ varP (u64n g) ++ varP 0 = l ++ markP ⟨false, t, g⟩) := Lib.hid (by simp [markP])
    generalize l ++ markP ⟨false, t, g⟩ = L at HF ⊢
    go_enter Tryz.func95, Tryz.ntmps95
    go_wp2_with fail
    refine (ref3Put_b (u64n g) (u64n_wrap g) (u64n_lt g) (HB.out.ext ((Ext.refl _).alloc _)) (by omega)).mono ?_
    rintro e w1 ⟨a1, c1, n1, rfl, hB1, hx1, hn1, ho1⟩
    have HB1 := Lib.hid hB1
    have HX1 := Lib.hid (((Ext.refl w).alloc _).trans hx1)
    have h0 := hx1.newBlock
    have f0 := cell_of_block h0 0
    have f2 := cell_of_block h0 2
    clear hB1 hx1
    go_wp2_with fail
    refine (ref3Put_b 0 rfl (by decide) HB1.out (by omega)).mono ?_
    rintro e w2 ⟨a2, c2, n2, rfl, hB2, hx2, hn2, ho2⟩
    have HB2 := Lib.hid hB2
    have HX2 := Lib.hid (HX1.out.trans hx2)
    have HO2 := Lib.hid (fun q hq => Nat.le_trans HX1.out.size (ho2 q hq))
    clear ho1 ho2
    rw [HF.out] at HB2
    clear hB2 hx2 h0 f0 f2
    go_wp2_with fail
    go_ret
    exact ⟨a2, c2, n2, rfl, HB2.out, HX2.out, by omega, HO2.out⟩
  · have HF : Hid (l ++ varP (u64n g) ++ varP 1 ++ varP (zig t) = l ++ markP ⟨true, t, g⟩) := Lib.hid (by simp [markP])
    generalize l ++ markP ⟨true, t, g⟩ = L at HF ⊢
    go_enter Tryz.func95, Tryz.ntmps95
    go_wp2_with fail
    refine (ref3Put_b (u64n g) (u64n_wrap g) (u64n_lt g) (HB.out.ext ((Ext.refl _).alloc _)) (by omega)).mono ?_
    rintro e w1 ⟨a1, c1, n1, rfl, hB1, hx1, hn1, ho1⟩
    have HB1 := Lib.hid hB1
    have HX1 := Lib.hid (((Ext.refl w).alloc _).trans hx1)
    have h0 := hx1.newBlock
    have c0 := cell_of_block h0 0
    have f1 := cell_turned (T := fun _ => false) (cell_of_block h0 1) rfl
    clear hB1 hx1 h0
    go_wp2_with fail
    clear c0
    refine wp_region_plan 4 (fun w' => ∃ p : Turned, w' = turned w1 (fun _ => false) p.d p.f p.os) (.reads [0, 2, 3] (.one 1 (.one 4 (.one 5 .done)))) (by kernel_rfl) (by kernel_rfl) (fun _ _ dd _ _ hh => by cases dd <;> exact hh) ?_ ?_
    · exact turned_of_ext (Ext.drewN w1 1)
    refine wpPlan_reads ?_
    simp only [pickOps, List.getElem?_cons_succ, List.getElem?_cons_zero]
    iterate 3 (go_big_quiet_step (fail))
    refine wpQuiet_nil ?_
    clear f1
    refine wpPlan_one ?_
    simp only [pickOps, List.getElem?_cons_succ, List.getElem?_cons_zero]
    go_wp2_with fail
    refine (ref3Put_b 1 rfl (by decide) (HB1.out.ext (Ext.drewN w1 1)) (by omega)).mono ?_
    rintro e w2 ⟨a2, c2, n2, rfl, hB2, hx2, hn2, ho2⟩
    have HB2 := Lib.hid hB2
    have HX2 := Lib.hid ((Ext.drewN w1 1).trans hx2)
    clear hB2 hx2
    go_wp2_with fail
    refine thenX_mk (turned_of_ext HX2.out) (wpPlan_one ?_)
    simp only [pickOps, List.getElem?_cons_succ, List.getElem?_cons_zero]
    go_wp2_with fail
    refine (ref3PutInt_b t ht0 ht1 HB2.out (by omega)).mono ?_
    rintro e w3 ⟨a3, c3, n3, rfl, hB3, hx3, hn3, ho3⟩
    have HB3 := Lib.hid hB3
    have HX3 := Lib.hid (HX1.out.trans (HX2.out.trans hx3))
    have HO3 := Lib.hid (fun q hq => Nat.le_trans (HX1.out.trans HX2.out).size (ho3 q hq))
    clear ho1 ho2 ho3
    rw [HF.out] at HB3
    clear hB3 hx3
    go_wp2_with fail
    refine thenX_last (wpPlan_one ?_)
    simp only [pickOps, List.getElem?_cons_succ, List.getElem?_cons_zero]
    go_wp2_with fail
    refine thenX_last (wpPlan_done ?_)
    go_wp2_with fail
    go_ret
    exact ⟨a3, c3, n3, rfl, HB3.out, HX3.out, by omega, HO3.out⟩
end Go.Proofs.YtgdgjnecgelalaaGreatDoor

/-! Water marks: which are right (water's and the document's). -/

namespace Go.Proofs.YtgdgjnecgelalaaGreatDoor
open Go.RowKit Go.Sort Go.Lib

def tmB (z : Int) : Bool := decide (-1152921504606846976 ≤ z) && decide (z ≤ 1152921504606846976)
def mkR (m : Mk) : Bool := decide (0 ≤ m.g) && tmB m.g && tmB m.t && (m.s || decide (m.t = 0))

set_option maxHeartbeats 2000000 in
theorem waterTime_any (z : Int) (w : World) :
    Calls Tryz.prog 134 #[.int .i64 z] w fun e w' => e = .returned (.bool (tmB z)) ∧ w = w' := by
  by_cases h0 : -1152921504606846976 ≤ z
  · by_cases h1 : z ≤ 1152921504606846976
    · have HF : Hid (tmB z = true) := Lib.hid (by simp [tmB, h0, h1])
      go_enter Tryz.func134, Tryz.ntmps134
      go_wp2_with fail
      go_ret
      rw [HF.out]
      exact ⟨rfl, rfl⟩
    · have HF : Hid (tmB z = false) := Lib.hid (by simp [tmB, h1])
      go_enter Tryz.func134, Tryz.ntmps134
      go_wp2_with fail
      go_ret
      rw [HF.out]
      exact ⟨rfl, rfl⟩
  · have HF : Hid (tmB z = false) := Lib.hid (by simp [tmB, h0])
    go_enter Tryz.func134, Tryz.ntmps134
    go_wp2_with fail
    go_ret
    rw [HF.out]
    exact ⟨rfl, rfl⟩
set_option maxHeartbeats 2000000 in
theorem ref17time_any (z : Int) (w : World) :
    Calls Tryz.prog 124 #[.int .i64 z] w fun e w' => e = .returned (.bool (tmB z)) ∧ w = w' := by
  by_cases h0 : -1152921504606846976 ≤ z
  · by_cases h1 : z ≤ 1152921504606846976
    · have HF : Hid (tmB z = true) := Lib.hid (by simp [tmB, h0, h1])
      go_enter Tryz.func124, Tryz.ntmps124
      go_wp2_with fail
      go_ret
      rw [HF.out]
      exact ⟨rfl, rfl⟩
    · have HF : Hid (tmB z = false) := Lib.hid (by simp [tmB, h1])
      go_enter Tryz.func124, Tryz.ntmps124
      go_wp2_with fail
      go_ret
      rw [HF.out]
      exact ⟨rfl, rfl⟩
  · have HF : Hid (tmB z = false) := Lib.hid (by simp [tmB, h0])
    go_enter Tryz.func124, Tryz.ntmps124
    go_wp2_with fail
    go_ret
    rw [HF.out]
    exact ⟨rfl, rfl⟩

set_option maxHeartbeats 8000000 in
set_option maxRecDepth 100000 in
theorem markRight_any (m : Mk) (w : World) :
    Calls Tryz.prog 109 #[m.val] w fun e w' => e = .returned (.bool (mkR m)) ∧ Ext w w' := by
  obtain ⟨s, t, g⟩ := m
  have HF : Hid (mkR ⟨s, t, g⟩ = (decide (0 ≤ g) && tmB g && tmB t && (s || decide (t = 0)))) := Lib.hid rfl
  have HB : Hid (0 ≤ g → decide (g ≤ 1152921504606846976) = tmB g) := Lib.hid (fun h => by simp [tmB]; omega)
  generalize mkR ⟨s, t, g⟩ = R at *
  have H1 := Lib.hid (fun w => waterTime_any g w)
  have H2 := Lib.hid (fun w => waterTime_any t w)
  generalize tmB g = bg at *
  generalize tmB t = bt at *
  by_cases h0 : 0 ≤ g
  · have hbg := HB.out h0
    clear HB
    cases bg
    · have hR : Hid (R = false) := Lib.hid (by rw [HF.out]; simp)
      clear HF
      clear hbg
      go_enter Tryz.func109, Tryz.ntmps109
      go_wp2_with (go_at_call 134; refine (H1.out _).mono ?_; rintro e w' ⟨rfl, rfl⟩)
      go_ret
      rw [hR.out]
      exact ⟨rfl, ((Ext.refl _).alloc _).alloc _⟩
    · clear hbg
      cases bt
      · have hR : Hid (R = false) := Lib.hid (by rw [HF.out]; simp)
        clear HF
        go_enter Tryz.func109, Tryz.ntmps109
        go_wp2_with fail
        refine (H1.out _).mono ?_
        rintro e w' ⟨rfl, rfl⟩
        go_wp2_with fail
        refine (H2.out _).mono ?_
        rintro e w' ⟨rfl, rfl⟩
        go_wp2_with fail
        go_ret
        rw [hR.out]
        exact ⟨rfl, ((Ext.refl _).alloc _).alloc _⟩
      · cases s
        · by_cases ht : t = 0
          · subst ht
            have hR : Hid (R = true) := Lib.hid (by rw [HF.out]; simp [h0])
            clear HF
            go_enter Tryz.func109, Tryz.ntmps109
            go_wp2_with fail
            refine (H1.out _).mono ?_
            rintro e w' ⟨rfl, rfl⟩
            go_wp2_with fail
            refine (H2.out _).mono ?_
            rintro e w' ⟨rfl, rfl⟩
            go_wp2_with fail
            go_ret
            rw [hR.out]
            exact ⟨rfl, ((Ext.refl _).alloc _).alloc _⟩
          · have hR : Hid (R = false) := Lib.hid (by rw [HF.out]; simp [ht])
            have hte : (t == 0) = false := by simp [ht]
            clear HF ht
            go_enter Tryz.func109, Tryz.ntmps109
            go_wp2_with fail
            refine (H1.out _).mono ?_
            rintro e w' ⟨rfl, rfl⟩
            go_wp2_with fail
            refine (H2.out _).mono ?_
            rintro e w' ⟨rfl, rfl⟩
            go_wp2_with fail
            go_ret
            rw [hR.out]
            exact ⟨rfl, ((Ext.refl _).alloc _).alloc _⟩
        · have hR : Hid (R = true) := Lib.hid (by rw [HF.out]; simp [h0])
          clear HF
          go_enter Tryz.func109, Tryz.ntmps109
          go_wp2_with fail
          refine (H1.out _).mono ?_
          rintro e w' ⟨rfl, rfl⟩
          go_wp2_with fail
          refine (H2.out _).mono ?_
          rintro e w' ⟨rfl, rfl⟩
          go_wp2_with fail
          go_ret
          rw [hR.out]
          exact ⟨rfl, ((Ext.refl _).alloc _).alloc _⟩
  · have hR : Hid (R = false) := Lib.hid (by rw [HF.out]; simp [h0])
    clear HF HB
    go_enter Tryz.func109, Tryz.ntmps109
    go_wp2_with fail
    go_ret
    rw [hR.out]
    exact ⟨rfl, ((Ext.refl _).alloc _).alloc _⟩
set_option maxHeartbeats 8000000 in
set_option maxRecDepth 100000 in
theorem ref17Right_any (m : Mk) (w : World) :
    Calls Tryz.prog 90 #[m.val] w fun e w' => e = .returned (.bool (mkR m)) ∧ Ext w w' := by
  obtain ⟨s, t, g⟩ := m
  have HF : Hid (mkR ⟨s, t, g⟩ = (decide (0 ≤ g) && tmB g && tmB t && (s || decide (t = 0)))) := Lib.hid rfl
  have HB : Hid (0 ≤ g → decide (g ≤ 1152921504606846976) = tmB g) := Lib.hid (fun h => by simp [tmB]; omega)
  generalize mkR ⟨s, t, g⟩ = R at *
  have H1 := Lib.hid (fun w => ref17time_any g w)
  have H2 := Lib.hid (fun w => ref17time_any t w)
  generalize tmB g = bg at *
  generalize tmB t = bt at *
  by_cases h0 : 0 ≤ g
  · have hbg := HB.out h0
    clear HB
    cases bg
    · have hR : Hid (R = false) := Lib.hid (by rw [HF.out]; simp)
      clear HF
      have hg := of_decide_eq_false hbg
      clear hbg H1
      go_enter Tryz.func90, Tryz.ntmps90
      go_wp2_with fail
      go_ret
      rw [hR.out]
      exact ⟨rfl, (Ext.refl _).alloc _⟩
    · have hg := of_decide_eq_true hbg
      clear hbg H1
      cases bt
      · have hR : Hid (R = false) := Lib.hid (by rw [HF.out]; simp)
        clear HF
        go_enter Tryz.func90, Tryz.ntmps90
        go_wp2_with fail
        refine (H2.out _).mono ?_
        rintro e w' ⟨rfl, rfl⟩
        go_wp2_with fail
        go_ret
        rw [hR.out]
        exact ⟨rfl, (Ext.refl _).alloc _⟩
      · cases s
        · by_cases ht : t = 0
          · subst ht
            have hR : Hid (R = true) := Lib.hid (by rw [HF.out]; simp [h0])
            clear HF
            go_enter Tryz.func90, Tryz.ntmps90
            go_wp2_with fail
            refine (H2.out _).mono ?_
            rintro e w' ⟨rfl, rfl⟩
            go_wp2_with fail
            go_ret
            rw [hR.out]
            exact ⟨rfl, (Ext.refl _).alloc _⟩
          · have hR : Hid (R = false) := Lib.hid (by rw [HF.out]; simp [ht])
            have hte : (t == 0) = false := by simp [ht]
            clear HF ht
            go_enter Tryz.func90, Tryz.ntmps90
            go_wp2_with fail
            refine (H2.out _).mono ?_
            rintro e w' ⟨rfl, rfl⟩
            go_wp2_with fail
            go_ret
            rw [hR.out]
            exact ⟨rfl, (Ext.refl _).alloc _⟩
        · have hR : Hid (R = true) := Lib.hid (by rw [HF.out]; simp [h0])
          clear HF
          go_enter Tryz.func90, Tryz.ntmps90
          go_wp2_with fail
          refine (H2.out _).mono ?_
          rintro e w' ⟨rfl, rfl⟩
          go_wp2_with fail
          go_ret
          rw [hR.out]
          exact ⟨rfl, (Ext.refl _).alloc _⟩
  · have hR : Hid (R = false) := Lib.hid (by rw [HF.out]; simp [h0])
    clear HF HB
    go_enter Tryz.func90, Tryz.ntmps90
    go_wp2_with fail
    go_ret
    rw [hR.out]
    exact ⟨rfl, (Ext.refl _).alloc _⟩
end Go.Proofs.YtgdgjnecgelalaaGreatDoor

/-! Boxes: a struct in a block of its own is read, written, told as a result, whole. -/

namespace Go.Proofs.YtgdgjnecgelalaaGreatDoor
open Go Go.RowKit Go.Sort Go.Lib
variable {P : Program}

/-- The struct is written, whole: what the world is then, by its blocks. -/
theorem wpList_store_box {ops : Array Oper} {rest : List Oper} {op : Oper} {a : Act} {w : World} {Q : Exit → Act → World → Prop} (hgd : op.guard = none) (ty : TypeId) (x y : Operand) (ho : op.op = .store ty x y)
    (b : Nat) (old cells : Array Value) (t : TypeId) (hx : a.eval x = .pointer (some ⟨b, 0, none⟩)) (hy : a.eval y = .agg cells)
    (hb : w.heap[b]? = some (.cells old t (0, 0))) (hsz : old.size = cells.size) (hi : (P.info? ty).map (·.size) = some cells.size) (h1 : cells.all (·.oneCell') = true)
    (h : ∀ w', w'.heap[b]? = some (.cells cells t (0, 0)) → Chg (· = b) w w' → wpList P ops Q rest (a.put op.dst undef) w') : wpList P ops Q (op :: rest) a w := by
  refine wpList_plain hgd fun K hK => ?_
  unfold Oper.wp execOp
  simp only [ho, hx, hy, Instr.storeAt, Instr.sureAddr, Sem.run_bind, Sem.run_pure, Result.andThen_ok, run_storeVar_row w b t ty old cells hb hi hsz h1]
  exact hK _ _ (h _ (setRow_heap w b old cells t (0, 0) hb) ⟨rfl, rfl, rfl, by simp [World.setRow], fun k _ hn => setRow_other w b k cells hn⟩)

/-- A part of the struct is written. -/
theorem wpList_store_part {ops : Array Oper} {rest : List Oper} {op : Oper} {a : Act} {w : World} {Q : Exit → Act → World → Prop} (hgd : op.guard = none) (ty : TypeId) (x y : Operand) (ho : op.op = .store ty x y)
    (b o : Nat) (old cells new : Array Value) (t : TypeId) (hx : a.eval x = .pointer (some ⟨b, o, none⟩)) (hy : a.eval y = .agg cells)
    (hb : w.heap[b]? = some (.cells old t (0, 0))) (hsz : o + cells.size ≤ old.size) (hnew : old.toList.take o ++ cells.toList ++ old.toList.drop (o + cells.size) = new.toList)
    (hi : (P.info? ty).map (·.size) = some cells.size) (h1 : cells.all (·.oneCell') = true)
    (h : ∀ w', w'.heap[b]? = some (.cells new t (0, 0)) → Chg (· = b) w w' → wpList P ops Q rest (a.put op.dst undef) w') : wpList P ops Q (op :: rest) a w := by
  have hst := run_storeCells_at P b o t cells.toList 0 old w hb (by simpa using hsz) (fun v hv => (Array.all_eq_true_iff_forall_mem.1 h1) v (by simpa using hv))
  simp only [Nat.add_zero, Array.length_toList] at hst
  rw [hnew] at hst
  have hsv : (storeVar ty ⟨b, o, none⟩ (.agg cells)).run P w = .ok () (w.setRow b new) := by
    cases hq : P.info? ty with
    | none => simp [hq] at hi
    | some i =>
      have hs : cells.size = i.size := by simp [hq] at hi; omega
      simp [storeVar, sizeOf, typeInfo, hq, Value.cells, hs]
      simpa using hst
  refine wpList_plain hgd fun K hK => ?_
  unfold Oper.wp execOp
  simp only [ho, hx, hy, Instr.storeAt, Instr.sureAddr, Sem.run_bind, Sem.run_pure, Result.andThen_ok, hsv]
  exact hK _ _ (h _ (setRow_heap w b old new t (0, 0) hb) ⟨rfl, rfl, rfl, by simp [World.setRow], fun k _ hn => setRow_other w b k new hn⟩)

/-- The struct is read, whole. -/
theorem wpList_load_box {ops : Array Oper} {rest : List Oper} {op : Oper} {a : Act} {w : World} {Q : Exit → Act → World → Prop} (hgd : op.guard = none) (ty : TypeId) (x : Operand) (ho : op.op = .load ty x)
    (b : Nat) (cells : Array Value) (t : TypeId) (d : TypeDesc) (fr : Nat × Nat) (hx : a.eval x = .pointer (some ⟨b, 0, none⟩))
    (hb : w.heap[b]? = some (.cells cells t fr)) (hu : P.underlying ty = some d) (hd : d.isRow = true) (hi : (P.info? ty).map (·.size) = some cells.size)
    (h : wpList P ops Q rest (a.put op.dst (.agg cells)) w) : wpList P ops Q (op :: rest) a w := by
  have := World.rangeAt_of_block hb 0 cells.size
  refine wpList_load_mid hgd ty x ho b 0 hx cells.toList d (by simpa using this) hu hd (by simpa using hi) (by simpa using h)

/-- A box is read in every world in which other blocks may have turned. -/
theorem load_box_turned {w : World} {b : Nat} {cells : Array Value} {t ty : TypeId} {fr : Nat × Nat} {d : TypeDesc} (hb : w.heap[b]? = some (.cells cells t fr)) {T : Nat → Bool} (hT : T b = false)
    (hu : P.underlying ty = some d) (hd : d.isRow = true) (hi : (P.info? ty).map (·.size) = some cells.size) (k : Nat) (f : Nat → Obj) (os : Array Obj) :
    (Instr.loadAt ty (.pointer (some ⟨b, 0, none⟩))).run P (turned w T k f os) = .ok (.agg cells) (turned w T k f os) := by
  have h1 : (turned w T k f os).heap[b]? = some (.cells cells t fr) := ((chg_turned w T k f os).block b (block_lt hb) (by rw [hT]; simp)).trans hb
  have := run_loadAt_mid (P := P) (turned w T k f os) b 0 ty cells.toList d (by simpa using World.rangeAt_of_block h1 0 cells.size) hu hd (by simpa using hi)
  simpa using this

theorem load_box_run {w : World} {b : Nat} {cells : Array Value} {t ty : TypeId} {fr : Nat × Nat} {d : TypeDesc} (hb : w.heap[b]? = some (.cells cells t fr))
    (hu : P.underlying ty = some d) (hd : d.isRow = true) (hi : (P.info? ty).map (·.size) = some cells.size) :
    (Instr.loadAt ty (.pointer (some ⟨b, 0, none⟩))).run P w = .ok (.agg cells) w := by
  have := run_loadAt_mid (P := P) w b 0 ty cells.toList d (by simpa using World.rangeAt_of_block hb 0 cells.size) hu hd (by simpa using hi)
  simpa using this

/-- A load that yields the same in every world of the class, taken by its law. -/
theorem wpQuiet_load_box {ops : Array Oper} {C : World → Prop} {Q : Act → Prop} {o : Oper} {rest : List Oper} {a : Act} (hgd : o.guard = none) (ty : TypeId) (x : Operand) (ho : o.op = .load ty x) (p v : Value) (hx : a.eval x = p)
    (hl : ∀ w, C w → (Instr.loadAt ty p).run P w = .ok v w) (h : wpQuiet P ops C Q rest (a.put o.dst v)) : wpQuiet P ops C Q (o :: rest) a := by
  unfold wpQuiet
  rw [if_pos (by simp [Region.wanted, hgd])]
  refine ⟨v, fun w hw => ?_, h⟩
  unfold Oper.quietAt execOp
  simp only [ho, hx, Sem.run_bind, hl w hw, Result.andThen_ok, Sem.run_pure]
  exact ⟨rfl, rfl⟩

/-- A result that lies in a box, and one that does not. -/
theorem results_box_tmp {fn : Func} {p u : Tmp} {ty t : TypeId} {b : Nat} {cells : Array Value} {fr : Nat × Nat} {d : TypeDesc} (h : fn.results = #[.cell p ty, .tmp u]) (tmps : Array Value) (w : World)
    (hp : tmps.getD p undef = .pointer (some ⟨b, 0, none⟩)) (hb : w.heap[b]? = some (.cells cells t fr)) (hu : P.underlying ty = some d) (hd : d.isRow = true) (hi : (P.info? ty).map (·.size) = some cells.size) :
    (results fn tmps).run P w = .ok (.tuple #[.agg cells, tmps.getD u undef]) w := by
  rw [results_cell_tmp h, hp]
  have := run_loadVar_mid (P := P) w b 0 ty cells.toList d (by simpa using World.rangeAt_of_block hb 0 cells.size) hu hd (by simpa using hi)
  simp [asAddr, Result.andThen, this]

theorem results_box {fn : Func} {p : Tmp} {ty t : TypeId} {b : Nat} {cells : Array Value} {fr : Nat × Nat} {d : TypeDesc} (h : fn.results = #[.cell p ty]) (tmps : Array Value) (w : World)
    (hp : tmps.getD p undef = .pointer (some ⟨b, 0, none⟩)) (hb : w.heap[b]? = some (.cells cells t fr)) (hu : P.underlying ty = some d) (hd : d.isRow = true) (hi : (P.info? ty).map (·.size) = some cells.size) :
    (results fn tmps).run P w = .ok (.agg cells) w := by
  have := run_loadVar_mid (P := P) w b 0 ty cells.toList d (by simpa using World.rangeAt_of_block hb 0 cells.size) hu hd (by simpa using hi)
  have hp' : tmps[p]?.getD undef = .pointer (some ⟨b, 0, none⟩) := by simpa using hp
  simp only [results, h]
  simp [Sem.run_bind, Result.andThen, hp', asAddr, this]
end Go.Proofs.YtgdgjnecgelalaaGreatDoor
