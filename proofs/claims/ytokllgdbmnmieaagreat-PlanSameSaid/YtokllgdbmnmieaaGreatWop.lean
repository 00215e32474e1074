/- Slice expressions on slices of one-cell elements, whatever their address; appends onto slices that have no room. -/
import Derived.Test.YtokllgdbmnmieaaGreatU8
import Derived.Test.YtokllgdbmnmieaaGreatPtc
import Derived.ArgAppend
import Derived.Deep.Slices
namespace Go.Proofs.YtokllgdbmnmieaaGreat
open Go.RowKit Go.Sort Go.Lib

/-- The address of a part. -/
def cutA (a : Option Addr) (m l : Nat) : Option Addr := if m = l then a else a.map (·.add l)

section
variable {P : Program} {t e : TypeId}
theorem run_slice_all (hu : P.underlying t = some (.slice e)) (hs : ∀ W, (sizeOf e).run P W = .ok 1 W) (a : Option Addr) (n c l h m : Nat) (h1 : l ≤ h) (h2 : h ≤ m) (h3 : m ≤ c) :
    ∀ W, (Instr.slice t (.slice a n c) (some (.int .i64 (l : Int))) (some (.int .i64 (h : Int))) (some (.int .i64 (m : Int)))).run P W = .ok (.slice (cutA a m l) (h - l) (m - l)) W := fun W => by
  simp [Instr.slice, Instr.sliceBounds, Instr.sliceBound, run_underlying hu, asIntOf, Sem.run_bind, Result.andThen, hs, h1, h2, h3, cutA]
theorem run_slice_him (hu : P.underlying t = some (.slice e)) (hs : ∀ W, (sizeOf e).run P W = .ok 1 W) (a : Option Addr) (n c h m : Nat) (h2 : h ≤ m) (h3 : m ≤ c) :
    ∀ W, (Instr.slice t (.slice a n c) none (some (.int .i64 (h : Int))) (some (.int .i64 (m : Int)))).run P W = .ok (.slice (cutA a m 0) h m) W := fun W => by
  simp [Instr.slice, Instr.sliceBounds, Instr.sliceBound, run_underlying hu, asIntOf, Sem.run_bind, Result.andThen, hs, h2, h3, cutA]
theorem run_slice_lohi (hu : P.underlying t = some (.slice e)) (hs : ∀ W, (sizeOf e).run P W = .ok 1 W) (a : Option Addr) (n c l h : Nat) (h1 : l ≤ h) (h2 : h ≤ c) :
    ∀ W, (Instr.slice t (.slice a n c) (some (.int .i64 (l : Int))) (some (.int .i64 (h : Int))) none).run P W = .ok (.slice (cutA a c l) (h - l) (c - l)) W := fun W => by
  simp [Instr.slice, Instr.sliceBounds, Instr.sliceBound, run_underlying hu, asIntOf, Sem.run_bind, Result.andThen, hs, h1, h2, cutA]
theorem run_slice_hi (hu : P.underlying t = some (.slice e)) (hs : ∀ W, (sizeOf e).run P W = .ok 1 W) (a : Option Addr) (n c h : Nat) (h2 : h ≤ c) :
    ∀ W, (Instr.slice t (.slice a n c) none (some (.int .i64 (h : Int))) none).run P W = .ok (.slice (cutA a c 0) h c) W := fun W => by
  simp [Instr.slice, Instr.sliceBounds, Instr.sliceBound, run_underlying hu, asIntOf, Sem.run_bind, Result.andThen, hs, h2, cutA]
theorem run_slice_lo (hu : P.underlying t = some (.slice e)) (hs : ∀ W, (sizeOf e).run P W = .ok 1 W) (a : Option Addr) (n c l : Nat) (h1 : l ≤ n) :
    ∀ W, (Instr.slice t (.slice a n c) (some (.int .i64 (l : Int))) none none).run P W = .ok (.slice (cutA a c l) (n - l) (c - l)) W := fun W => by
  simp [Instr.slice, Instr.sliceBounds, Instr.sliceBound, run_underlying hu, asIntOf, Sem.run_bind, Result.andThen, hs, h1, cutA]
theorem run_sliceAt_all (hu : P.underlying t = some (.slice e)) (hs : ∀ W, (sizeOf e).run P W = .ok 1 W) (a : Option Addr) (n c l h m : Nat) (h1 : l ≤ h) (h2 : h ≤ m) (h3 : m ≤ c) :
    ∀ W, (Instr.sliceAt t (.slice a n c) (some (.int .i64 (l : Int))) (some (.int .i64 (h : Int))) (some (.int .i64 (m : Int)))).run P W = .ok (.slice (cutA a m l) (h - l) (m - l)) W := fun W => by
  simp [Instr.sliceAt, Instr.slice, Instr.sliceBounds, Instr.sliceBound, run_underlying hu, asIntOf, Sem.run_bind, Result.andThen, hs, h1, h2, h3, cutA]
theorem run_sliceAt_him (hu : P.underlying t = some (.slice e)) (hs : ∀ W, (sizeOf e).run P W = .ok 1 W) (a : Option Addr) (n c h m : Nat) (h2 : h ≤ m) (h3 : m ≤ c) :
    ∀ W, (Instr.sliceAt t (.slice a n c) none (some (.int .i64 (h : Int))) (some (.int .i64 (m : Int)))).run P W = .ok (.slice (cutA a m 0) h m) W := fun W => by
  simp [Instr.sliceAt, Instr.slice, Instr.sliceBounds, Instr.sliceBound, run_underlying hu, asIntOf, Sem.run_bind, Result.andThen, hs, h2, h3, cutA]
theorem run_sliceAt_lohi (hu : P.underlying t = some (.slice e)) (hs : ∀ W, (sizeOf e).run P W = .ok 1 W) (a : Option Addr) (n c l h : Nat) (h1 : l ≤ h) (h2 : h ≤ c) :
    ∀ W, (Instr.sliceAt t (.slice a n c) (some (.int .i64 (l : Int))) (some (.int .i64 (h : Int))) none).run P W = .ok (.slice (cutA a c l) (h - l) (c - l)) W := fun W => by
  simp [Instr.sliceAt, Instr.slice, Instr.sliceBounds, Instr.sliceBound, run_underlying hu, asIntOf, Sem.run_bind, Result.andThen, hs, h1, h2, cutA]
theorem run_sliceAt_hi (hu : P.underlying t = some (.slice e)) (hs : ∀ W, (sizeOf e).run P W = .ok 1 W) (a : Option Addr) (n c h : Nat) (h2 : h ≤ c) :
    ∀ W, (Instr.sliceAt t (.slice a n c) none (some (.int .i64 (h : Int))) none).run P W = .ok (.slice (cutA a c 0) h c) W := fun W => by
  simp [Instr.sliceAt, Instr.slice, Instr.sliceBounds, Instr.sliceBound, run_underlying hu, asIntOf, Sem.run_bind, Result.andThen, hs, h2, cutA]
theorem run_sliceAt_lo (hu : P.underlying t = some (.slice e)) (hs : ∀ W, (sizeOf e).run P W = .ok 1 W) (a : Option Addr) (n c l : Nat) (h1 : l ≤ n) :
    ∀ W, (Instr.sliceAt t (.slice a n c) (some (.int .i64 (l : Int))) none none).run P W = .ok (.slice (cutA a c l) (n - l) (c - l)) W := fun W => by
  simp [Instr.sliceAt, Instr.slice, Instr.sliceBounds, Instr.sliceBound, run_underlying hu, asIntOf, Sem.run_bind, Result.andThen, hs, h1, cutA]
end

theorem src_cut {w : World} {a : Option Addr} {n c l h m : Nat} {xs : List Value} (hs : Src w 1 (.slice a n c) n xs) (h1 : l ≤ h) (h2 : h ≤ n) (h3 : h ≤ m) (h4 : m ≤ c) :
    Src w 1 (.slice (cutA a m l) (h - l) (m - l)) (h - l) ((xs.drop l).take (h - l)) := by
  rcases hs with ⟨e, rfl, rfl⟩ | ⟨ad, c', e, hl, hc, ho⟩
  · simp at e
    obtain ⟨rfl, rfl⟩ := e
    obtain rfl : m = 0 := by omega
    obtain rfl : h = 0 := by omega
    exact .inl ⟨by simp [cutA], by omega, by simp⟩
  · simp at e
    obtain ⟨rfl, rfl⟩ := e
    refine .inr ⟨if m = l then ad else ad.add l, m - l, ?_, by simp; omega, fun j u hj => ?_, fun u hu => ho u (List.mem_of_mem_drop (List.mem_of_mem_take hu))⟩
    · unfold cutA; split <;> rfl
    · rw [List.getElem?_take] at hj
      split at hj
      · rename_i hlt
        rw [List.getElem?_drop] at hj
        rw [if_neg (by omega), Go.Deep.add_add]
        exact hc _ _ hj
      · cases hj

/-- What may be gone on with: a row of one's own, or a slice without room. -/
def Start (w0 w : World) (e : TypeId) (size : Nat) (v : Value) (n : Nat) (xs : List Value) : Prop :=
  (Row w e size v n xs ∧ ∀ g, v.ownBlock = some g → w0.heap.size ≤ g) ∨ ∃ a, v = .slice a n n ∧ Src w size v n xs
theorem Start.row {w0 w : World} {e : TypeId} {size : Nat} {v : Value} {n : Nat} {xs : List Value} (h : Row w e size v n xs) (ho : ∀ g, v.ownBlock = some g → w0.heap.size ≤ g) : Start w0 w e size v n xs := .inl ⟨h, ho⟩
theorem Start.ext {w0 w w' : World} {e : TypeId} {size : Nat} {v : Value} {n : Nat} {xs : List Value} (h : Start w0 w e size v n xs) (hx : Ext w w') : Start w0 w' e size v n xs := by
  rcases h with ⟨h, ho⟩ | ⟨a, rfl, h⟩
  · exact .inl ⟨h.ext hx, ho⟩
  · exact .inr ⟨a, rfl, h.ext hx⟩
theorem Start.shape {w0 w : World} {e : TypeId} {size : Nat} {v : Value} {n : Nat} {xs : List Value} (h : Start w0 w e size v n xs) : ∃ a c, v = .slice a n c := by
  rcases h with ⟨h, _⟩ | ⟨a, rfl, _⟩
  · exact h.shape
  · exact ⟨_, _, rfl⟩

/-- What has been made since a world, in a row of its own. -/
structure MadeTo (w0 : World) (e : TypeId) (size : Nat) (v : Value) (n : Nat) (xs : List Value) (w : World) : Prop where
  row : Row w e size v n xs
  own : ∀ g, v.ownBlock = some g → w0.heap.size ≤ g
  ext : Ext w0 w

theorem wpList_append_start {P : Program} {w0 w : World} {ops : Array Oper} {rest : List Oper} {o : Oper} {a : Act} {Q : Exit → Act → World → Prop} {t e : TypeId} {size bytes : Nat} (E : ElemOk P t e size bytes) (hgd : o.guard = none) (s x : Operand)
    (ho : o.op = .call { callee := .builtin .append, args := #[s, x], argTypes := #[t, t] }) {v sv : Value} {n m : Nat} {xs news : List Value} (hs : a.eval s = v) (hx : a.eval x = sv)
    (hown : Start w0 w e size v n xs) (hext : Ext w0 w) (hsrc : Src w size sv m news) (hm : 0 < m) (h63 : n + m ≤ maxLen) (hbytes : (n + m) * bytes ≤ 140737488355328)
    (h : ∀ v' w', MadeTo w0 e size v' (n + m) (xs ++ news) w' → wpList P ops Q rest (a.put o.dst v') w') : wpList P ops Q (o :: rest) a w := by
  rcases hown with ⟨hown, hnew⟩ | ⟨ad, rfl, hsrc0⟩
  · refine wpList_append_to E hgd s x ho hs hx hown hsrc h63 hbytes (fun v' w' ha => h v' w' ⟨ha.row, fun g hg => ?_, ?_⟩)
    · rcases ha.loc with e | e
      · exact hnew g (e ▸ hg)
      · rw [e] at hg; cases hg; exact hext.size
    · exact Chg.ext ((Chg.of_ext hext).trans ha.chg (fun _ _ e => e)) (fun i hi e => by have := hnew i e; omega)
  · rcases hsrc0 with ⟨e, rfl, rfl⟩ | ⟨ad', c', e, hl, hc, h1⟩
    · simp at e; subst e
      refine wpList_append_to E hgd s x ho hs hx (Row.nil _ _ _) hsrc h63 hbytes (fun v' w' ha => h v' w' ⟨ha.row, fun g hg => ?_, ?_⟩)
      · rcases ha.loc with e | e
        · rw [e] at hg; simp [Value.ownBlock] at hg
        · rw [e] at hg; cases hg; exact hext.size
      · exact Chg.ext ((Chg.of_ext hext).trans ha.chg (fun _ _ e => e)) (fun i hi e => by simp [Value.ownBlock] at e)
    · simp at e
      obtain ⟨rfl, rfl⟩ := e
      rcases hsrc with ⟨_, rfl, _⟩ | ⟨sa, sc, rfl, sl, shc, _⟩
      · omega
      obtain ⟨i, z, hi, hz, e1, e2, e3⟩ := E.info
      obtain ⟨v', w', hr, r1, r2⟩ := run_append_arg_grows (P := P) w t o.type e i z size bytes E.und hi hz e1 e2 e3 E.pos ad' n n xs hl hc sa m sc news sl shc (by omega) h63 hbytes
      have hx2 : Ext w w' := (Chg.of_grown r2).ext (fun i hi e => by simp at e)
      refine wpList_append_run hgd s x t ho _ _ v' w' hs hx hr (h v' w' ⟨?_, fun g hg => ?_, hext.trans hx2⟩)
      · obtain ⟨q1, q2⟩ := r1
        refine ⟨q1, q2.imp id ?_⟩
        rintro ⟨g, cap, cur, p1, _, p3⟩
        exact ⟨g, cap, cur, p1, Nat.zero_le _, p3⟩
      · have := (r1.lt g hg).1; have := hext.size; omega
end Go.Proofs.YtokllgdbmnmieaaGreat

/-! window: the closure of from, list, from. -/

namespace Go.Proofs.YtokllgdbmnmieaaGreat
open Go.RowKit Go.Lib Go.Sort

set_option maxHeartbeats 2000000 in
theorem from1_any (a i wd st off : Int) (pa pk : Nat) (w : World) (ha : w.cell? ⟨pa, 0, none⟩ = some (.int .i64 a)) (hk : w.heap[pk]? = some (.cells #[.int .i64 wd, .int .i64 st, .int .i64 off] 67 (0, 0)))
    (hi0 : 0 ≤ i) (hi : i ≤ 70000) (hst : 1 ≤ st) (hst2 : st ≤ 1099511627776) (hwd : 1 ≤ wd) (hwd2 : wd ≤ 1099511627776) (ha1 : -2305843009213693952 ≤ a) (ha2 : a ≤ 2305843009213693952) :
    Calls Tryz.prog 115 #[.int .i64 i, .pointer (some ⟨pa, 0, none⟩), .pointer (some ⟨pk, 0, none⟩)] w fun e w' => e = .returned (.agg #[.int .i64 (a + i * st), .int .i64 (a + i * st + wd)]) ∧ Ext w w' := by
  have k0 : w.cell? ⟨pk, 0, none⟩ = some (.int .i64 wd) := by have := cell_of_block hk 0; simpa using this
  have k1 : w.cell? ⟨pk, 1, none⟩ = some (.int .i64 st) := by have := cell_of_block hk 1; simpa using this
  obtain ⟨p, hp, hp0, hp2⟩ : ∃ p, i * st = p ∧ 0 ≤ p ∧ p ≤ 70000 * 1099511627776 := ⟨_, rfl, Int.mul_nonneg hi0 (by omega), Int.mul_le_mul hi hst2 (by omega) (by omega)⟩
  have hpa := World.block_lt_of_cell? _ _ ha
  have hpk := block_lt hk
  rw [hp]
  clear hk
  go_enter Tryz.func115, Tryz.ntmps115
  go_wp2_with fail
  exact bodyPost_ret (v := .agg #[.int .i64 (a + p), .int .i64 (a + p + wd)]) (by simp [results, Tryz.results115, go_sem]) rfl ⟨rfl, (Ext.refl w).alloc _⟩

/-- Spans in memory. -/
def spc (p : Int × Int) : List Value := [.int .i64 p.1, .int .i64 p.2]
def sps (l : List (Int × Int)) : List Value := l.flatMap spc
theorem sps_append (a b : List (Int × Int)) : sps (a ++ b) = sps a ++ sps b := by simp [sps]
theorem sps_len (l : List (Int × Int)) : (sps l).length = l.length * 2 := by
  induction l with
  | nil => rfl
  | cons p l ih => simp [sps, spc] at ih ⊢; omega
theorem elem_span : ElemOk Tryz.prog 121 124 2 16 :=
  ⟨Tryz.underlying121, by
    obtain ⟨i0, hi, hz0, hz1, hz2⟩ := info_parts (show (Tryz.prog.info? 124).map (fun i => (i.zero, i.size, i.bytes)) = some (some (.agg #[.int .i64 0, .int .i64 0]), 2, 16) from by kernel_rfl)
    exact ⟨i0, _, hi, hz0, hz1, hz2, rfl⟩, by decide⟩
theorem src_span {W : World} {b : Nat} {p : Int × Int} {t : TypeId} {fr : Nat × Nat} (h : W.heap[b]? = some (.cells #[.int .i64 p.1, .int .i64 p.2] t fr)) : Src W 2 (.slice (some ⟨b, 0, none⟩) 1 1) 1 (sps [p]) := by
  refine .inr ⟨_, _, rfl, rfl, fun j u hj => ?_, fun u hu => ?_⟩
  · rw [Go.WideShapes.add_plain, Nat.zero_add, cell_of_block h]
    simpa [sps, spc] using hj
  · simp [sps, spc] at hu
    rcases hu with rfl | rfl <;> rfl
/-- So many windows from one on. -/
def spansL (n : Nat) (a wd st : Int) : List (Int × Int) := (List.range n).map fun (i : Nat) => (a + (i : Int) * st, a + (i : Int) * st + wd)
theorem spansL_succ (n : Nat) (a wd st : Int) : spansL (n + 1) a wd st = spansL n a wd st ++ [(a + (n : Int) * st, a + (n : Int) * st + wd)] := by simp [spansL, List.range_succ]
theorem spansL_len (n : Nat) (a wd st : Int) : (spansL n a wd st).length = n := by simp [spansL]

set_option maxHeartbeats 4000000 in
set_option maxRecDepth 100000 in
theorem list_any (n : Nat) (a wd st off : Int) (pa pk : Nat) (w : World) (ha : w.cell? ⟨pa, 0, none⟩ = some (.int .i64 a)) (hk : w.heap[pk]? = some (.cells #[.int .i64 wd, .int .i64 st, .int .i64 off] 67 (0, 0)))
    (hn : n ≤ 70000) (hst : 1 ≤ st) (hst2 : st ≤ 1099511627776) (hwd : 1 ≤ wd) (hwd2 : wd ≤ 1099511627776) (ha1 : -2305843009213693952 ≤ a) (ha2 : a ≤ 2305843009213693952) :
    Calls Tryz.prog 114 #[.int .i64 (n : Int), .func (.func 115) #[] #[.pointer (some ⟨pa, 0, none⟩), .pointer (some ⟨pk, 0, none⟩)]] w fun e w' => ∃ v, e = .returned v ∧ MadeTo w 124 2 v n (sps (spansL n a wd st)) w' := by
  have hpa := World.block_lt_of_cell? _ _ ha
  have hpk := block_lt hk
  have HA := Lib.hid ha
  have HK := Lib.hid hk
  clear ha hk
  go_enter Tryz.func114, Tryz.ntmps114
  go_wp2_with fail
  go_loopw [5, 8] (fun sv si wr => ∃ (k : Nat) (va : Option Addr) (vc : Nat), k ≤ n ∧ si = .int .i64 k ∧ sv = .slice va k vc ∧ Hid (MadeTo w 124 2 (.slice va k vc) k (sps (spansL k a wd st)) wr)) (fun _ si _ => n - (RowKit.intOf si).toNat)
  case atStart => exact ⟨0, none, 0, by omega, rfl, rfl, Lib.hid ⟨Row.nil _ _ _, by simp [Value.ownBlock], Ext.refl _⟩⟩
  case round =>
    obtain ⟨k, va, vc, hk, rfl, rfl, HR⟩ := hrel
    by_cases hlt : k < n
    · go_wp2_with fail
      refine (from1_any a k wd st off pa pk _ ((HR.out.ext.cell (p := ⟨pa, 0, none⟩) hpa).trans HA.out) ((HR.out.ext.block hpk).trans HK.out) (by omega) (by omega) hst hst2 hwd hwd2 ha1 ha2).mono ?_
      rintro e w2 ⟨rfl, hx2⟩
      have HX2 := Lib.hid hx2
      clear hx2
      go_wp2_with (at_builtin; go_must (refine wpList_append_start elem_span rfl _ _ rfl rfl rfl (Start.row (HR.out.row.ext (HX2.out.trans ((Ext.refl _).alloc _))) HR.out.own) (HR.out.ext.trans (HX2.out.trans ((Ext.refl _).alloc _))) (src_span (p := (a + (k : Int) * st, a + (k : Int) * st + wd)) (heap_alloc_new _ _)) (by omega) (by unfold maxLen; omega) (by omega) ?_; intro v' w4 hmade); have HM := Lib.hid hmade; obtain ⟨va', vc', rfl⟩ := hmade.row.shape; clear hmade)
      go_roundw
      case rel => exact ⟨k + 1, va', vc', by omega, by go_num, rfl, Lib.hid (by rw [spansL_succ, sps_append]; exact HM.out)⟩
      case measure => simp [RowKit.intOf]; omega
    · obtain rfl : k = n := by omega
      go_wp2_with fail
      go_ret
      exact ⟨_, rfl, HR.out⟩
end Go.Proofs.YtokllgdbmnmieaaGreat

/-! The windows that have a time (plain). -/

namespace Go.Proofs.YtokllgdbmnmieaaGreat
open Go.RowKit Go.Lib Go.Sort

theorem lastF_eq (st off t : Int) : lastF st off t = off + st * ((t - off) / st) := by
  unfold lastF
  have := Int.mul_ediv_add_emod (t - off) st
  omega
theorem firstF_eq (wd st off t : Int) : firstF wd st off t = off + st * ((t - wd - off) / st) + st := by
  unfold firstF
  rw [lastF_eq]
/-- There are at most 64. -/
theorem win_count {wd st off t : Int} (h1 : 1 ≤ st) (h2 : st ≤ wd) (h3 : wd ≤ 64 * st) : ∃ q : Nat, lastF st off t - firstF wd st off t = q * st ∧ q ≤ 63 := by
  have e1 := lastF_eq st off t
  have e2 := firstF_eq wd st off t
  obtain ⟨A, hA⟩ : ∃ A, A = (t - off) / st := ⟨_, rfl⟩
  obtain ⟨B, hB⟩ : ∃ B, B = (t - wd - off) / st := ⟨_, rfl⟩
  have a1 := Int.mul_ediv_add_emod (t - off) st
  have a2 := Int.emod_nonneg (t - off) (show st ≠ 0 by omega)
  have a3 := Int.emod_lt_of_pos (t - off) (show 0 < st by omega)
  have b1 := Int.mul_ediv_add_emod (t - wd - off) st
  have b2 := Int.emod_nonneg (t - wd - off) (show st ≠ 0 by omega)
  have b3 := Int.emod_lt_of_pos (t - wd - off) (show 0 < st by omega)
  rw [← hA] at e1 a1
  rw [← hB] at e2 b1
  have hlt : B < A := by
    refine Int.lt_of_mul_lt_mul_left (a := st) ?_ (by omega)
    omega
  have hle : A < B + 65 := by
    refine Int.lt_of_mul_lt_mul_left (a := st) ?_ (by omega)
    rw [Int.mul_add]
    omega
  refine ⟨(A - B - 1).toNat, ?_, by omega⟩
  have : ((A - B - 1).toNat : Int) = A - B - 1 := by omega
  rw [e1, e2, this, Int.sub_mul, Int.sub_mul, Int.mul_comm A, Int.mul_comm B]
  omega
end Go.Proofs.YtokllgdbmnmieaaGreat
