/- Water marks: put (water's and the document's). Bytes that grow: 'Buf'. -/
import Derived.Test.YtdgmnhcgjbkafaaGreatDoorVin
import Derived.Test.YtdgmnhcgjbkafaaGreatDoorPlan
import Derived.Test.YtdgmnhcgjbkafaaGreatDoorMk0
import Derived.Deep.DeepCutAuto
namespace Go.Proofs.YtdgmnhcgjbkafaaGreatDoor
open Go.RowKit Go.Sort Go.Lib

theorem Ext.newBlock {w w' : World} {o : Obj} (h : Ext (w.alloc o) w') : w'.heap[w.heap.size]? = some o := by
  rw [h.block (Array.getElem?_eq_some_iff.mp (heap_alloc_new w o)).1]; exact heap_alloc_new w o
theorem bufRow_le {w : World} {e : TypeId} {size n m c : Nat} {a : Option Addr} {xs : List Value} (h : Row w e size (.slice a m c) n xs) : m ≤ c := by
  obtain ⟨_, ⟨e, _⟩ | ⟨g, cap, cur, e, _, _, h2, _⟩⟩ := h
  · simp at e; omega
  · simp at e; omega
/-- Bytes that were made since a world. -/
structure Buf (w0 : World) (l : List UInt8) (n : Nat) (a : Option Addr) (c : Nat) (w : World) : Prop where
  made : MadeTo w0 5 1 (.slice a n c) n (u8s l) w
  len : n = l.length
theorem Buf.nil (w : World) : Buf w [] 0 none 0 w := ⟨⟨Row.nil _ _ _, fun g hg => by simp [Value.ownBlock] at hg, Ext.refl _⟩, rfl⟩
theorem Buf.src {w0 w : World} {l : List UInt8} {n c : Nat} {a : Option Addr} (h : Buf w0 l n a c w) : Src w 1 (.slice a n c) n (u8s l) := h.made.row.src (u8s_one _)
theorem Buf.le {w0 w : World} {l : List UInt8} {n c : Nat} {a : Option Addr} (h : Buf w0 l n a c w) : n ≤ c := bufRow_le h.made.row
theorem Buf.ext {w0 w w' : World} {l : List UInt8} {n c : Nat} {a : Option Addr} (h : Buf w0 l n a c w) (hx : Ext w w') : Buf w0 l n a c w' := ⟨h.made.ext' hx, h.len⟩
/-- What is there behind a put. -/
def PutB (w0 w : World) (l : List UInt8) (k : Nat) (e : Ending) (w' : World) : Prop := ∃ a c m, e = .returned (.slice a m c) ∧ Buf w0 l m a c w' ∧ Ext w w' ∧ m ≤ k ∧ ∀ q, (Value.slice a m c).ownBlock = some q → w.heap.size ≤ q
theorem PutB.of {w0 w w' : World} {l x : List UInt8} {n c k : Nat} {a : Option Addr} {e : Ending} (hB : Buf w0 l n a c w) (hk : x.length ≤ k) (h : PutTo w (l ++ x) e w') : PutB w0 w (l ++ x) (n + k) e w' := by
  obtain ⟨a', c', rfl, h⟩ := h
  exact ⟨a', c', _, rfl, ⟨h.trans hB.made.ext, rfl⟩, h.ext, by rw [List.length_append, ← hB.len]; omega, h.own⟩
def u64n (z : Int) : Nat := (z % 18446744073709551616).toNat
theorem u64n_wrap (z : Int) : IntKind.u64.wrap z = ((u64n z : Nat) : Int) := by rw [IntKind.wrap_u64]; unfold u64n; omega
theorem u64n_lt (z : Int) : u64n z < 2 ^ 64 := by unfold u64n; omega
theorem u64n_pos {z : Int} (h : 0 ≤ z) (h1 : z ≤ 9223372036854775807) : u64n z = z.toNat := by unfold u64n; omega

section
variable {w0 w : World} {l : List UInt8} {n c : Nat} {a : Option Addr}
theorem varPut_b {z : Int} (u : Nat) (hz : z = (u : Int)) (hu : u < 2 ^ 64) (hB : Buf w0 l n a c w) (hn : n ≤ 70368744177664) :
    Calls Tryz.prog 13 #[.slice a n c, .int .u64 z] w (PutB w0 w (l ++ varP u) (n + 10)) := by
  subst hz
  exact (varPut' w a n c l u hu hB.src hB.le hn).mono fun _ _ h => .of hB (varP_10 hu) h
theorem ref3Put_b {z : Int} (u : Nat) (hz : z = (u : Int)) (hu : u < 2 ^ 64) (hB : Buf w0 l n a c w) (hn : n ≤ 70368744177664) :
    Calls Tryz.prog 66 #[.slice a n c, .int .u64 z] w (PutB w0 w (l ++ varP u) (n + 10)) := by
  subst hz
  exact (ref3Put' w a n c l u hu hB.src hn).mono fun _ _ h => .of hB (varP_10 hu) h
theorem varPutInt_b (z : Int) (h0 : -9223372036854775808 ≤ z) (h1 : z ≤ 9223372036854775807) (hB : Buf w0 l n a c w) (hn : n ≤ 70368744177664) :
    Calls Tryz.prog 15 #[.slice a n c, .int .i64 z] w (PutB w0 w (l ++ varP (zig z)) (n + 10)) :=
  (varPutInt_any w a n c l z h0 h1 hB.src hB.le hn).mono fun _ _ h => .of hB (varP_10 (i64_zig h0 h1)) h
theorem ref3PutInt_b (z : Int) (h0 : -9223372036854775808 ≤ z) (h1 : z ≤ 9223372036854775807) (hB : Buf w0 l n a c w) (hn : n ≤ 70368744177664) :
    Calls Tryz.prog 49 #[.slice a n c, .int .i64 z] w (PutB w0 w (l ++ varP (zig z)) (n + 10)) :=
  (ref3PutInt_any w a n c l z h0 h1 hB.src hn).mono fun _ _ h => .of hB (varP_10 (i64_zig h0 h1)) h
/-- A text's bytes. -/
def txtP (s : ByteArray) : List UInt8 := varP s.size ++ s.data.toList
theorem txtP_len {s : ByteArray} (h : s.size < 2 ^ 64) : (txtP s).length ≤ 10 + s.size := by
  have h1 := varP_10 h
  have h2 : s.data.toList.length = s.size := by simp
  unfold txtP; rw [List.length_append]; omega
theorem varPutText_b (s : ByteArray) (hs : s.size ≤ 35184372088832) (hB : Buf w0 l n a c w) (hn : n ≤ 35184372088832) :
    Calls Tryz.prog 16 #[.slice a n c, .string s] w (PutB w0 w (l ++ txtP s) (n + (10 + s.size))) :=
  (varPutText' w a n c l s hB.src hB.le hn hs).mono fun _ _ h => .of hB (txtP_len (by omega)) h
theorem ref3PutText_b (s : ByteArray) (hs : s.size ≤ 35184372088832) (hB : Buf w0 l n a c w) (hn : n ≤ 35184372088832) :
    Calls Tryz.prog 48 #[.slice a n c, .string s] w (PutB w0 w (l ++ txtP s) (n + (10 + s.size))) :=
  (ref3PutText' w a n c l s hB.src hn hs).mono fun _ _ h => .of hB (txtP_len (by omega)) h
end

/-- A mark. -/
structure Mk where
  s : Bool
  t : Int
  g : Int
abbrev Mk.val (m : Mk) : Value := .agg #[.bool m.s, .int .i64 m.t, .int .i64 m.g]
structure Mk.ok (m : Mk) : Prop where
  t0 : -9223372036854775808 ≤ m.t
  t1 : m.t ≤ 9223372036854775807
  g0 : -9223372036854775808 ≤ m.g
  g1 : m.g ≤ 9223372036854775807
def markP (m : Mk) : List UInt8 := varP (u64n m.g) ++ (if m.s then varP 1 ++ varP (zig m.t) else varP 0)

set_option maxHeartbeats 4000000 in
set_option maxRecDepth 100000 in
theorem waterPut_b {w0 w : World} {l : List UInt8} {n c : Nat} {a : Option Addr} (m : Mk) (hm : m.ok) (hB : Buf w0 l n a c w) (hn : n ≤ 35184372088832) :
    Calls Tryz.prog 14 #[.slice a n c, m.val] w (PutB w0 w (l ++ markP m) (n + 30)) := by
  obtain ⟨s, t, g⟩ := m
  have ht0 := hm.t0
  have ht1 := hm.t1
  have HB := Lib.hid hB
  simp only at ht0 ht1
  clear hm hB
  cases s
  · have HF : Hid (l ++ varP (u64n g) ++ varP 0 = l ++ markP ⟨false, t, g⟩) := Lib.hid (by simp [markP])
    generalize l ++ markP ⟨false, t, g⟩ = L at HF ⊢
    go_enter Tryz.func14, Tryz.ntmps14
    go_wp2_with fail
    refine (varPut_b (u64n g) (u64n_wrap g) (u64n_lt g) (HB.out.ext ((Ext.refl _).alloc _)) (by omega)).mono ?_
    rintro e w1 ⟨a1, c1, n1, rfl, hB1, hx1, hn1, ho1⟩
    have HB1 := Lib.hid hB1
    have HX1 := Lib.hid (((Ext.refl w).alloc _).trans hx1)
    have h0 := hx1.newBlock
    have f0 := cell_of_block h0 0
    have f2 := cell_of_block h0 2
    clear hB1 hx1
    go_wp2_with fail
    refine (varPut_b 0 rfl (by decide) HB1.out (by omega)).mono ?_
    rintro e w2 ⟨a2, c2, n2, rfl, hB2, hx2, hn2, ho2⟩
    have HB2 := Lib.hid hB2
    have HX2 := Lib.hid (HX1.out.trans hx2)
    have HO2 := Lib.hid (fun q hq => Nat.le_trans HX1.out.size (ho2 q hq))
    clear ho1 ho2
    rw [HF.out] at HB2
    clear hB2 hx2 h0 f0 f2
    go_wp2_with fail
    go_ret
    exact ⟨a2, c2, n2, rfl, HB2.out, HX2.out, by omega, HO2.out⟩
  · have HF : Hid (l ++ varP (u64n g) ++ varP 1 ++ varP (zig t) = l ++ markP ⟨true, t, g⟩) := Lib.hid (by simp [markP])
    generalize l ++ markP ⟨true, t, g⟩ = L at HF ⊢
    go_enter Tryz.func14, Tryz.ntmps14
    go_wp2_with fail
    refine (varPut_b (u64n g) (u64n_wrap g) (u64n_lt g) (HB.out.ext ((Ext.refl _).alloc _)) (by omega)).mono ?_
    rintro e w1 ⟨a1, c1, n1, rfl, hB1, hx1, hn1, ho1⟩
    have HB1 := Lib.hid hB1
    have HX1 := Lib.hid (((Ext.refl w).alloc _).trans hx1)
    have h0 := hx1.newBlock
    have c0 := cell_of_block h0 0
    have f1 := cell_turned (T := fun _ => false) (cell_of_block h0 1) rfl
    clear hB1 hx1 h0
    go_wp2_with fail
    clear c0
    refine wp_region_plan 4 (fun w' => ∃ p : Turned, w' = turned w1 (fun _ => false) p.d p.f p.os) (.reads [0, 2, 3] (.one 1 (.one 4 (.one 5 .done)))) (by kernel_rfl) (by kernel_rfl) (fun _ _ dd _ _ hh => by cases dd <;> exact hh) ?_ ?_
    · exact turned_of_ext (Ext.drewN w1 1)
    refine wpPlan_reads ?_
    simp only [pickOps, List.getElem?_cons_succ, List.getElem?_cons_zero]
    iterate 3 (go_big_quiet_step (fail))
    refine wpQuiet_nil ?_
    clear f1
    refine wpPlan_one ?_
    simp only [pickOps, List.getElem?_cons_succ, List.getElem?_cons_zero]
    go_wp2_with fail
    refine (varPut_b 1 rfl (by decide) (HB1.out.ext (Ext.drewN w1 1)) (by omega)).mono ?_
    rintro e w2 ⟨a2, c2, n2, rfl, hB2, hx2, hn2, ho2⟩
    have HB2 := Lib.hid hB2
    have HX2 := Lib.hid ((Ext.drewN w1 1).trans hx2)
    clear hB2 hx2
    go_wp2_with fail
    refine thenX_mk (turned_of_ext HX2.out) (wpPlan_one ?_)
    simp only [pickOps, List.getElem?_cons_succ, List.getElem?_cons_zero]
    go_wp2_with fail
    refine (varPutInt_b t ht0 ht1 HB2.out (by omega)).mono ?_
    rintro e w3 ⟨a3, c3, n3, rfl, hB3, hx3, hn3, ho3⟩
    have HB3 := Lib.hid hB3
    have HX3 := Lib.hid (HX1.out.trans (HX2.out.trans hx3))
    have HO3 := Lib.hid (fun q hq => Nat.le_trans (HX1.out.trans HX2.out).size (ho3 q hq))
    clear ho1 ho2 ho3
    rw [HF.out] at HB3
    clear hB3 hx3
    go_wp2_with fail
    refine thenX_last (wpPlan_one ?_)
    simp only [pickOps, List.getElem?_cons_succ, List.getElem?_cons_zero]
    go_wp2_with fail
    refine thenX_last (wpPlan_done ?_)
    go_wp2_with fail
    go_ret
    exact ⟨a3, c3, n3, rfl, HB3.out, HX3.out, by omega, HO3.out⟩
set_option maxHeartbeats 4000000 in
set_option maxRecDepth 100000 in
theorem ref17Put_b {w0 w : World} {l : List UInt8} {n c : Nat} {a : Option Addr} (m : Mk) (hm : m.ok) (hB : Buf w0 l n a c w) (hn : n ≤ 35184372088832) :
    Calls Tryz.prog 47 #[.slice a n c, m.val] w (PutB w0 w (l ++ markP m) (n + 30)) := by
  obtain ⟨s, t, g⟩ := m
  have ht0 := hm.t0
  have ht1 := hm.t1
  have HB := Lib.hid hB
  simp only at ht0 ht1
  clear hm hB
  cases s
  · have HF : Hid (l ++ varP (u64n g) ++ varP 0 = l ++ markP ⟨false, t, g⟩) := Lib.hid (by simp [markP])
    generalize l ++ markP ⟨false, t, g⟩ = L at HF ⊢
    go_enter Tryz.func47, Tryz.ntmps47
    go_wp2_with fail
    refine (ref3Put_b (u64n g) (u64n_wrap g) (u64n_lt g) (HB.out.ext ((Ext.refl _).alloc _)) (by omega)).mono ?_
    rintro e w1 ⟨a1, c1, n1, rfl, hB1, hx1, hn1, ho1⟩
    have HB1 := Lib.hid hB1
    have HX1 := Lib.hid (((Ext.refl w).alloc _).trans hx1)
    have h0 := hx1.newBlock
    have f0 := cell_of_block h0 0
    have f2 := cell_of_block h0 2
    clear hB1 hx1
    go_wp2_with fail
    refine (ref3Put_b 0 rfl (by decide) HB1.out (by omega)).mono ?_
    rintro e w2 ⟨a2, c2, n2, rfl, hB2, hx2, hn2, ho2⟩
    have HB2 := Lib.hid hB2
    have HX2 := Lib.hid (HX1.out.trans hx2)
    have HO2 := Lib.hid (fun q hq => Nat.le_trans HX1.out.size (ho2 q hq))
    clear ho1 ho2
    rw [HF.out] at HB2
    clear hB2 hx2 h0 f0 f2
    go_wp2_with fail
    go_ret
    exact ⟨a2, c2, n2, rfl, HB2.out, HX2.out, by omega, HO2.out⟩
  · have HF : Hid (l ++ varP (u64n g) ++ varP 1 ++ varP (zig t) = l ++ markP ⟨true, t, g⟩) := Lib.hid (by simp [markP])
    generalize l ++ markP ⟨true, t, g⟩ = L at HF ⊢
    go_enter Tryz.func47, Tryz.ntmps47
    go_wp2_with fail
    refine (ref3Put_b (u64n g) (u64n_wrap g) (u64n_lt g) (HB.out.ext ((Ext.refl _).alloc _)) (by omega)).mono ?_
    rintro e w1 ⟨a1, c1, n1, rfl, hB1, hx1, hn1, ho1⟩
    have HB1 := Lib.hid hB1
    have HX1 := Lib.hid (((Ext.refl w).alloc _).trans hx1)
    have h0 := hx1.newBlock
    have c0 := cell_of_block h0 0
    have f1 := cell_turned (T := fun _ => false) (cell_of_block h0 1) rfl
    clear hB1 hx1 h0
    go_wp2_with fail
    clear c0
    refine wp_region_plan 4 (fun w' => ∃ p : Turned, w' = turned w1 (fun _ => false) p.d p.f p.os) (.reads [0, 2, 3] (.one 1 (.one 4 (.one 5 .done)))) (by kernel_rfl) (by kernel_rfl) (fun _ _ dd _ _ hh => by cases dd <;> exact hh) ?_ ?_
    · exact turned_of_ext (Ext.drewN w1 1)
    refine wpPlan_reads ?_
    simp only [pickOps, List.getElem?_cons_succ, List.getElem?_cons_zero]
    iterate 3 (go_big_quiet_step (fail))
    refine wpQuiet_nil ?_
    clear f1
    refine wpPlan_one ?_
    simp only [pickOps, List.getElem?_cons_succ, List.getElem?_cons_zero]
    go_wp2_with fail
    refine (ref3Put_b 1 rfl (by decide) (HB1.out.ext (Ext.drewN w1 1)) (by omega)).mono ?_
    rintro e w2 ⟨a2, c2, n2, rfl, hB2, hx2, hn2, ho2⟩
    have HB2 := Lib.hid hB2
    have HX2 := Lib.hid ((Ext.drewN w1 1).trans hx2)
    clear hB2 hx2
    go_wp2_with fail
    refine thenX_mk (turned_of_ext HX2.out) (wpPlan_one ?_)
    simp only [pickOps, List.getElem?_cons_succ, List.getElem?_cons_zero]
    go_wp2_with fail
    refine (ref3PutInt_b t ht0 ht1 HB2.out (by omega)).mono ?_
    rintro e w3 ⟨a3, c3, n3, rfl, hB3, hx3, hn3, ho3⟩
    have HB3 := Lib.hid hB3
    have HX3 := Lib.hid (HX1.out.trans (HX2.out.trans hx3))
    have HO3 := Lib.hid (fun q hq => Nat.le_trans (HX1.out.trans HX2.out).size (ho3 q hq))
    clear ho1 ho2 ho3
    rw [HF.out] at HB3
    clear hB3 hx3
    go_wp2_with fail
    refine thenX_last (wpPlan_one ?_)
    simp only [pickOps, List.getElem?_cons_succ, List.getElem?_cons_zero]
    go_wp2_with fail
    refine thenX_last (wpPlan_done ?_)
    go_wp2_with fail
    go_ret
    exact ⟨a3, c3, n3, rfl, HB3.out, HX3.out, by omega, HO3.out⟩
end Go.Proofs.YtdgmnhcgjbkafaaGreatDoor
