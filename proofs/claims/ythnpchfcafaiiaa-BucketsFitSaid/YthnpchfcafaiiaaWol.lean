/- window: the closure of from, list, from. -/
import Derived.Test.YthnpchfcafaiiaaWof
import Derived.Test.YthnpchfcafaiiaaCut
namespace Go.Proofs.Ythnpchfcafaiiaa
open Go.RowKit Go.Lib Go.Sort

set_option maxHeartbeats 2000000 in
theorem from1_any (a i wd st off : Int) (pa pk : Nat) (w : World) (ha : w.cell? ⟨pa, 0, none⟩ = some (.int .i64 a)) (hk : w.heap[pk]? = some (.cells #[.int .i64 wd, .int .i64 st, .int .i64 off] 24 (0, 0)))
    (hi0 : 0 ≤ i) (hi : i ≤ 70000) (hst : 1 ≤ st) (hst2 : st ≤ 1099511627776) (hwd : 1 ≤ wd) (hwd2 : wd ≤ 1099511627776) (ha1 : -2305843009213693952 ≤ a) (ha2 : a ≤ 2305843009213693952) :
    Calls Try.prog 67 #[.int .i64 i, .pointer (some ⟨pa, 0, none⟩), .pointer (some ⟨pk, 0, none⟩)] w fun e w' => e = .returned (.agg #[.int .i64 (a + i * st), .int .i64 (a + i * st + wd)]) ∧ Ext w w' := by
  have k0 : w.cell? ⟨pk, 0, none⟩ = some (.int .i64 wd) := by have := cell_of_block hk 0; simpa using this
  have k1 : w.cell? ⟨pk, 1, none⟩ = some (.int .i64 st) := by have := cell_of_block hk 1; simpa using this
  obtain ⟨p, hp, hp0, hp2⟩ : ∃ p, i * st = p ∧ 0 ≤ p ∧ p ≤ 70000 * 1099511627776 := ⟨_, rfl, Int.mul_nonneg hi0 (by omega), Int.mul_le_mul hi hst2 (by omega) (by omega)⟩
  have hpa := World.block_lt_of_cell? _ _ ha
  have hpk := block_lt hk
  rw [hp]
  clear hk
  go_enter Try.func67, Try.ntmps67
  go_wp2_with fail
  exact bodyPost_ret (v := .agg #[.int .i64 (a + p), .int .i64 (a + p + wd)]) (by simp [results, Try.results67, go_sem]) rfl ⟨rfl, (Ext.refl w).alloc _⟩

/-- Spans in memory. -/
def spc (p : Int × Int) : List Value := [.int .i64 p.1, .int .i64 p.2]
def sps (l : List (Int × Int)) : List Value := l.flatMap spc
theorem sps_append (a b : List (Int × Int)) : sps (a ++ b) = sps a ++ sps b := by simp [sps]
theorem sps_len (l : List (Int × Int)) : (sps l).length = l.length * 2 := by
  induction l with
  | nil => rfl
  | cons p l ih => simp [sps, spc] at ih ⊢; omega
theorem elem_span : ElemOk Try.prog 69 72 2 16 :=
  ⟨Try.underlying69, by
    obtain ⟨i0, hi, hz0, hz1, hz2⟩ := info_parts (show (Try.prog.info? 72).map (fun i => (i.zero, i.size, i.bytes)) = some (some (.agg #[.int .i64 0, .int .i64 0]), 2, 16) from by kernel_rfl)
    exact ⟨i0, _, hi, hz0, hz1, hz2, rfl⟩, by decide⟩
theorem src_span {W : World} {b : Nat} {p : Int × Int} {t : TypeId} {fr : Nat × Nat} (h : W.heap[b]? = some (.cells #[.int .i64 p.1, .int .i64 p.2] t fr)) : Src W 2 (.slice (some ⟨b, 0, none⟩) 1 1) 1 (sps [p]) := by
  refine .inr ⟨_, _, rfl, rfl, fun j u hj => ?_, fun u hu => ?_⟩
  · rw [Go.WideShapes.add_plain, Nat.zero_add, cell_of_block h]
    simpa [sps, spc] using hj
  · simp [sps, spc] at hu
    rcases hu with rfl | rfl <;> rfl
/-- So many windows from one on. -/
def spansL (n : Nat) (a wd st : Int) : List (Int × Int) := (List.range n).map fun (i : Nat) => (a + (i : Int) * st, a + (i : Int) * st + wd)
theorem spansL_succ (n : Nat) (a wd st : Int) : spansL (n + 1) a wd st = spansL n a wd st ++ [(a + (n : Int) * st, a + (n : Int) * st + wd)] := by simp [spansL, List.range_succ]
theorem spansL_len (n : Nat) (a wd st : Int) : (spansL n a wd st).length = n := by simp [spansL]

set_option maxHeartbeats 4000000 in
set_option maxRecDepth 100000 in
theorem list_any (n : Nat) (a wd st off : Int) (pa pk : Nat) (w : World) (ha : w.cell? ⟨pa, 0, none⟩ = some (.int .i64 a)) (hk : w.heap[pk]? = some (.cells #[.int .i64 wd, .int .i64 st, .int .i64 off] 24 (0, 0)))
    (hn : n ≤ 70000) (hst : 1 ≤ st) (hst2 : st ≤ 1099511627776) (hwd : 1 ≤ wd) (hwd2 : wd ≤ 1099511627776) (ha1 : -2305843009213693952 ≤ a) (ha2 : a ≤ 2305843009213693952) :
    Calls Try.prog 66 #[.int .i64 (n : Int), .func (.func 67) #[] #[.pointer (some ⟨pa, 0, none⟩), .pointer (some ⟨pk, 0, none⟩)]] w fun e w' => ∃ v, e = .returned v ∧ MadeTo w 72 2 v n (sps (spansL n a wd st)) w' := by
  have hpa := World.block_lt_of_cell? _ _ ha
  have hpk := block_lt hk
  have HA := Lib.hid ha
  have HK := Lib.hid hk
  clear ha hk
  go_enter Try.func66, Try.ntmps66
  go_wp2_with fail
  go_loopw [5, 8] (fun sv si wr => ∃ (k : Nat) (va : Option Addr) (vc : Nat), k ≤ n ∧ si = .int .i64 k ∧ sv = .slice va k vc ∧ Hid (MadeTo w 72 2 (.slice va k vc) k (sps (spansL k a wd st)) wr)) (fun _ si _ => n - (RowKit.intOf si).toNat)
  case atStart => exact ⟨0, none, 0, by omega, rfl, rfl, Lib.hid ⟨Row.nil _ _ _, by simp [Value.ownBlock], Ext.refl _⟩⟩
  case round =>
    obtain ⟨k, va, vc, hk, rfl, rfl, HR⟩ := hrel
    by_cases hlt : k < n
    · go_wp2_with fail
      refine (from1_any a k wd st off pa pk _ ((HR.out.ext.cell (p := ⟨pa, 0, none⟩) hpa).trans HA.out) ((HR.out.ext.block hpk).trans HK.out) (by omega) (by omega) hst hst2 hwd hwd2 ha1 ha2).mono ?_
      rintro e w2 ⟨rfl, hx2⟩
      have HX2 := Lib.hid hx2
      clear hx2
      go_wp2_with (at_builtin; go_must (refine wpList_append_start elem_span rfl _ _ rfl rfl rfl (Start.row (HR.out.row.ext (HX2.out.trans ((Ext.refl _).alloc _))) HR.out.own) (HR.out.ext.trans (HX2.out.trans ((Ext.refl _).alloc _))) (src_span (p := (a + (k : Int) * st, a + (k : Int) * st + wd)) (heap_alloc_new _ _)) (by omega) (by unfold maxLen; omega) (by omega) ?_; intro v' w4 hmade); have HM := Lib.hid hmade; obtain ⟨va', vc', rfl⟩ := hmade.row.shape; clear hmade)
      go_roundw
      case rel => exact ⟨k + 1, va', vc', by omega, by go_num, rfl, Lib.hid (by rw [spansL_succ, sps_append]; exact HM.out)⟩
      case measure => simp [RowKit.intOf]; omega
    · obtain rfl : k = n := by omega
      go_wp2_with fail
      go_ret
      exact ⟨_, rfl, HR.out⟩
end Go.Proofs.Ythnpchfcafaiiaa
