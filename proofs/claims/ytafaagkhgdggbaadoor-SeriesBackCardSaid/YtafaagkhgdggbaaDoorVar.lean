/- varint: number, scan, Read. -/
import Derived.Test.YtafaagkhgdggbaaDoorErs
import Derived.IntWalk
import Derived.Sort.Walk0
namespace Go.Proofs.YtafaagkhgdggbaaDoor
open Go.RowKit Go.Sort Go.Lib

theorem HasET.ext {w w' : World} (h : HasET w) (hx : Ext w w') : HasET w' := by
  have hlt := World.block_lt_of_cell? _ _ h
  unfold HasET
  rw [hx.cell hlt]; exact h
theorem HasET.chg {S : Nat → Prop} {w w' : World} (h : HasET w) (hx : Chg S w w') (hn : ¬ S 0) : HasET w' := by
  have hlt := World.block_lt_of_cell? _ _ h
  unfold HasET
  rw [hx.cell hlt hn]; exact h
theorem HasET.lt {w : World} (h : HasET w) : 0 < w.heap.size := World.block_lt_of_cell? _ _ h

theorem number_nil (w : World) : Calls Tryd.prog 30 #[.nilIface] w fun e w' => e = .returned (.int .i64 0) ∧ Ext w w' := by
  go_enter Tryd.func30, Tryd.ntmps30
  go_wp2_with (first
    | (go_at_call 32; refine (is_nil _ _).mono ?_; rintro e w' ⟨rfl, rfl⟩)
    | (go_at_call 33; refine (as_nil _ _).mono ?_; rintro e w' ⟨rfl, rfl⟩))
  go_ret
  exact ⟨rfl, (Ext.refl w).alloc _⟩

theorem number_fault (x y : Int) (hy : y = 10 ∨ y = 11) (w : World) (hg : HasET w) : Calls Tryd.prog 30 #[.iface 70 (.agg #[.int .i64 x, .int .i64 y])] w fun e w' => e = .returned (.int .i64 y) ∧ Ext w w' := by
  have HG := Lib.hid hg
  clear hg
  rcases hy with rfl | rfl
  · go_enter Tryd.func30, Tryd.ntmps30
    go_wp2_with fail
    refine (is_fault x 10 (.inl rfl) _).mono ?_
    rintro e w1 ⟨rfl, hx⟩
    go_wp2_with fail
    go_ret
    exact ⟨rfl, ((Ext.refl w).alloc _).trans hx⟩
  · go_enter Tryd.func30, Tryd.ntmps30
    go_wp2_with fail
    refine (is_fault x 11 (.inr rfl) _).mono ?_
    rintro e w1 ⟨rfl, hx⟩
    have HX := Lib.hid hx
    have HB : Hid (w1.heap[w.heap.size]? = some (.cells #[.int .i64 0, .int .i64 0] 70 (0, 0))) := Lib.hid ((hx.block (by simp)).trans (heap_alloc_new w _))
    clear hx
    go_wp2_with fail
    refine (as_hit x 11 w.heap.size _ _ w1 (HG.out.ext (((Ext.refl w).alloc _).trans HX.out)) HB.out).mono ?_
    rintro e w2 ⟨rfl, ha⟩
    have c1 : w2.cell? ⟨w.heap.size, 1, none⟩ = some (.int .i64 11) := by have := cell_of_block ha.blk 1; simpa using this
    have HA := Lib.hid ha.chg
    clear ha
    go_wp2_with fail
    go_ret
    exact ⟨rfl, ((Chg.of_ext (S := fun b => b = w.heap.size) (((Ext.refl w).alloc _).trans HX.out)).trans HA.out (fun _ _ e => e)).ext (fun i hi e => by omega)⟩

/-! The document's reading of a number. -/
/-- The number of the bytes of a number. -/
def valL : List UInt8 → Nat
  | [] => 0
  | c :: l => c.toNat % 128 + 128 * valL l
theorem valL_lt (l : List UInt8) : valL l < 128 ^ l.length := by
  induction l with
  | nil => simp [valL]
  | cons c l ih =>
    simp only [valL, List.length_cons, Nat.pow_succ]
    have := Nat.mod_lt c.toNat (show 0 < 128 by omega)
    omega
theorem valL_snoc (l : List UInt8) (c : UInt8) : valL (l ++ [c]) = valL l + (c.toNat % 128) * 128 ^ l.length := by
  induction l with
  | nil => simp [valL]
  | cons d l ih =>
    simp only [List.cons_append, valL, ih, List.length_cons, Nat.pow_succ, Nat.mul_add]
    rw [Nat.mul_left_comm, Nat.mul_comm (128 ^ l.length) 128, Nat.add_assoc]
/-- How many bytes are followed by another. -/
def conts : List UInt8 → Nat
  | [] => 0
  | c :: l => if 128 ≤ c.toNat then conts l + 1 else 0
/-- What is read: the number, how many bytes it has, the error. -/
def varR (l : List UInt8) : Nat × Nat × Int :=
  if 10 ≤ conts l then (0, 0, 11)
  else match l[conts l]? with
    | none => (0, 0, 10)
    | some c => if (conts l = 9 ∧ 1 < c.toNat) ∨ (0 < conts l ∧ c.toNat = 0) then (0, 0, 11) else (valL (l.take (conts l + 1)), conts l + 1, 0)
theorem conts_of {l : List UInt8} {k : Nat} (h : ∀ i, i < k → ∃ c, l[i]? = some c ∧ 128 ≤ c.toNat) : k ≤ conts l ∧ (∀ c, l[k]? = some c → c.toNat < 128 → conts l = k) ∧ (l[k]? = none → conts l = k) := by
  induction k generalizing l with
  | zero =>
    refine ⟨Nat.zero_le _, fun c hc hlt => ?_, fun hn => ?_⟩
    · cases l with
      | nil => simp at hc
      | cons d l => simp at hc; subst hc; simp [conts]; omega
    · cases l with
      | nil => rfl
      | cons d l => simp at hn
  | succ k ih =>
    obtain ⟨c, hc, hge⟩ := h 0 (by omega)
    cases l with
    | nil => simp at hc
    | cons d l =>
      simp at hc; subst hc
      obtain ⟨h1, h2, h3⟩ := ih (l := l) (fun i hi => by simpa using h (i + 1) (by omega))
      simp only [conts, if_pos hge, List.getElem?_cons_succ]
      exact ⟨by omega, fun c hc hlt => by rw [h2 c hc hlt], fun hn => by rw [h3 hn]⟩
end Go.Proofs.YtafaagkhgdggbaaDoor
