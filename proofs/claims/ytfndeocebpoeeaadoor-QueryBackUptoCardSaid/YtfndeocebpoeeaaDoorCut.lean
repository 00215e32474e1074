/- Slice expressions on slices of one-cell elements, whatever their address; appends onto slices that have no room. -/
import Derived.Test.YtfndeocebpoeeaaDoorU8
import Derived.Test.YtfndeocebpoeeaaDoorApp
import Derived.ArgAppend
import Derived.Deep.Slices
namespace Go.Proofs.YtfndeocebpoeeaaDoor
open Go.RowKit Go.Sort Go.Lib

/-- The address of a part. -/
def cutA (a : Option Addr) (m l : Nat) : Option Addr := if m = l then a else a.map (·.add l)

section
variable {P : Program} {t e : TypeId}
theorem run_slice_all (hu : P.underlying t = some (.slice e)) (hs : ∀ W, (sizeOf e).run P W = .ok 1 W) (a : Option Addr) (n c l h m : Nat) (h1 : l ≤ h) (h2 : h ≤ m) (h3 : m ≤ c) :
    ∀ W, (Instr.slice t (.slice a n c) (some (.int .i64 (l : Int))) (some (.int .i64 (h : Int))) (some (.int .i64 (m : Int)))).run P W = .ok (.slice (cutA a m l) (h - l) (m - l)) W := fun W => by
  simp [Instr.slice, Instr.sliceBounds, Instr.sliceBound, run_underlying hu, asIntOf, Sem.run_bind, Result.andThen, hs, h1, h2, h3, cutA]
theorem run_slice_him (hu : P.underlying t = some (.slice e)) (hs : ∀ W, (sizeOf e).run P W = .ok 1 W) (a : Option Addr) (n c h m : Nat) (h2 : h ≤ m) (h3 : m ≤ c) :
    ∀ W, (Instr.slice t (.slice a n c) none (some (.int .i64 (h : Int))) (some (.int .i64 (m : Int)))).run P W = .ok (.slice (cutA a m 0) h m) W := fun W => by
  simp [Instr.slice, Instr.sliceBounds, Instr.sliceBound, run_underlying hu, asIntOf, Sem.run_bind, Result.andThen, hs, h2, h3, cutA]
theorem run_slice_lohi (hu : P.underlying t = some (.slice e)) (hs : ∀ W, (sizeOf e).run P W = .ok 1 W) (a : Option Addr) (n c l h : Nat) (h1 : l ≤ h) (h2 : h ≤ c) :
    ∀ W, (Instr.slice t (.slice a n c) (some (.int .i64 (l : Int))) (some (.int .i64 (h : Int))) none).run P W = .ok (.slice (cutA a c l) (h - l) (c - l)) W := fun W => by
  simp [Instr.slice, Instr.sliceBounds, Instr.sliceBound, run_underlying hu, asIntOf, Sem.run_bind, Result.andThen, hs, h1, h2, cutA]
theorem run_slice_hi (hu : P.underlying t = some (.slice e)) (hs : ∀ W, (sizeOf e).run P W = .ok 1 W) (a : Option Addr) (n c h : Nat) (h2 : h ≤ c) :
    ∀ W, (Instr.slice t (.slice a n c) none (some (.int .i64 (h : Int))) none).run P W = .ok (.slice (cutA a c 0) h c) W := fun W => by
  simp [Instr.slice, Instr.sliceBounds, Instr.sliceBound, run_underlying hu, asIntOf, Sem.run_bind, Result.andThen, hs, h2, cutA]
theorem run_slice_lo (hu : P.underlying t = some (.slice e)) (hs : ∀ W, (sizeOf e).run P W = .ok 1 W) (a : Option Addr) (n c l : Nat) (h1 : l ≤ n) :
    ∀ W, (Instr.slice t (.slice a n c) (some (.int .i64 (l : Int))) none none).run P W = .ok (.slice (cutA a c l) (n - l) (c - l)) W := fun W => by
  simp [Instr.slice, Instr.sliceBounds, Instr.sliceBound, run_underlying hu, asIntOf, Sem.run_bind, Result.andThen, hs, h1, cutA]
theorem run_sliceAt_all (hu : P.underlying t = some (.slice e)) (hs : ∀ W, (sizeOf e).run P W = .ok 1 W) (a : Option Addr) (n c l h m : Nat) (h1 : l ≤ h) (h2 : h ≤ m) (h3 : m ≤ c) :
    ∀ W, (Instr.sliceAt t (.slice a n c) (some (.int .i64 (l : Int))) (some (.int .i64 (h : Int))) (some (.int .i64 (m : Int)))).run P W = .ok (.slice (cutA a m l) (h - l) (m - l)) W := fun W => by
  simp [Instr.sliceAt, Instr.slice, Instr.sliceBounds, Instr.sliceBound, run_underlying hu, asIntOf, Sem.run_bind, Result.andThen, hs, h1, h2, h3, cutA]
theorem run_sliceAt_him (hu : P.underlying t = some (.slice e)) (hs : ∀ W, (sizeOf e).run P W = .ok 1 W) (a : Option Addr) (n c h m : Nat) (h2 : h ≤ m) (h3 : m ≤ c) :
    ∀ W, (Instr.sliceAt t (.slice a n c) none (some (.int .i64 (h : Int))) (some (.int .i64 (m : Int)))).run P W = .ok (.slice (cutA a m 0) h m) W := fun W => by
  simp [Instr.sliceAt, Instr.slice, Instr.sliceBounds, Instr.sliceBound, run_underlying hu, asIntOf, Sem.run_bind, Result.andThen, hs, h2, h3, cutA]
theorem run_sliceAt_lohi (hu : P.underlying t = some (.slice e)) (hs : ∀ W, (sizeOf e).run P W = .ok 1 W) (a : Option Addr) (n c l h : Nat) (h1 : l ≤ h) (h2 : h ≤ c) :
    ∀ W, (Instr.sliceAt t (.slice a n c) (some (.int .i64 (l : Int))) (some (.int .i64 (h : Int))) none).run P W = .ok (.slice (cutA a c l) (h - l) (c - l)) W := fun W => by
  simp [Instr.sliceAt, Instr.slice, Instr.sliceBounds, Instr.sliceBound, run_underlying hu, asIntOf, Sem.run_bind, Result.andThen, hs, h1, h2, cutA]
theorem run_sliceAt_hi (hu : P.underlying t = some (.slice e)) (hs : ∀ W, (sizeOf e).run P W = .ok 1 W) (a : Option Addr) (n c h : Nat) (h2 : h ≤ c) :
    ∀ W, (Instr.sliceAt t (.slice a n c) none (some (.int .i64 (h : Int))) none).run P W = .ok (.slice (cutA a c 0) h c) W := fun W => by
  simp [Instr.sliceAt, Instr.slice, Instr.sliceBounds, Instr.sliceBound, run_underlying hu, asIntOf, Sem.run_bind, Result.andThen, hs, h2, cutA]
theorem run_sliceAt_lo (hu : P.underlying t = some (.slice e)) (hs : ∀ W, (sizeOf e).run P W = .ok 1 W) (a : Option Addr) (n c l : Nat) (h1 : l ≤ n) :
    ∀ W, (Instr.sliceAt t (.slice a n c) (some (.int .i64 (l : Int))) none none).run P W = .ok (.slice (cutA a c l) (n - l) (c - l)) W := fun W => by
  simp [Instr.sliceAt, Instr.slice, Instr.sliceBounds, Instr.sliceBound, run_underlying hu, asIntOf, Sem.run_bind, Result.andThen, hs, h1, cutA]
end

theorem src_cut {w : World} {a : Option Addr} {n c l h m : Nat} {xs : List Value} (hs : Src w 1 (.slice a n c) n xs) (h1 : l ≤ h) (h2 : h ≤ n) (h3 : h ≤ m) (h4 : m ≤ c) :
    Src w 1 (.slice (cutA a m l) (h - l) (m - l)) (h - l) ((xs.drop l).take (h - l)) := by
  rcases hs with ⟨e, rfl, rfl⟩ | ⟨ad, c', e, hl, hc, ho⟩
  · simp at e
    obtain ⟨rfl, rfl⟩ := e
    obtain rfl : m = 0 := by omega
    obtain rfl : h = 0 := by omega
    exact .inl ⟨by simp [cutA], by omega, by simp⟩
  · simp at e
    obtain ⟨rfl, rfl⟩ := e
    refine .inr ⟨if m = l then ad else ad.add l, m - l, ?_, by simp; omega, fun j u hj => ?_, fun u hu => ho u (List.mem_of_mem_drop (List.mem_of_mem_take hu))⟩
    · unfold cutA; split <;> rfl
    · rw [List.getElem?_take] at hj
      split at hj
      · rename_i hlt
        rw [List.getElem?_drop] at hj
        rw [if_neg (by omega), Go.Deep.add_add]
        exact hc _ _ hj
      · cases hj

/-- What may be gone on with: a row of one's own, or a slice without room. -/
def Start (w0 w : World) (e : TypeId) (size : Nat) (v : Value) (n : Nat) (xs : List Value) : Prop :=
  (Row w e size v n xs ∧ ∀ g, v.ownBlock = some g → w0.heap.size ≤ g) ∨ ∃ a, v = .slice a n n ∧ Src w size v n xs
theorem Start.row {w0 w : World} {e : TypeId} {size : Nat} {v : Value} {n : Nat} {xs : List Value} (h : Row w e size v n xs) (ho : ∀ g, v.ownBlock = some g → w0.heap.size ≤ g) : Start w0 w e size v n xs := .inl ⟨h, ho⟩
theorem Start.ext {w0 w w' : World} {e : TypeId} {size : Nat} {v : Value} {n : Nat} {xs : List Value} (h : Start w0 w e size v n xs) (hx : Ext w w') : Start w0 w' e size v n xs := by
  rcases h with ⟨h, ho⟩ | ⟨a, rfl, h⟩
  · exact .inl ⟨h.ext hx, ho⟩
  · exact .inr ⟨a, rfl, h.ext hx⟩
theorem Start.shape {w0 w : World} {e : TypeId} {size : Nat} {v : Value} {n : Nat} {xs : List Value} (h : Start w0 w e size v n xs) : ∃ a c, v = .slice a n c := by
  rcases h with ⟨h, _⟩ | ⟨a, rfl, _⟩
  · exact h.shape
  · exact ⟨_, _, rfl⟩

/-- What has been made since a world, in a row of its own. -/
structure MadeTo (w0 : World) (e : TypeId) (size : Nat) (v : Value) (n : Nat) (xs : List Value) (w : World) : Prop where
  row : Row w e size v n xs
  own : ∀ g, v.ownBlock = some g → w0.heap.size ≤ g
  ext : Ext w0 w

theorem wpList_append_start {P : Program} {w0 w : World} {ops : Array Oper} {rest : List Oper} {o : Oper} {a : Act} {Q : Exit → Act → World → Prop} {t e : TypeId} {size bytes : Nat} (E : ElemOk P t e size bytes) (hgd : o.guard = none) (s x : Operand)
    (ho : o.op = .call { callee := .builtin .append, args := #[s, x], argTypes := #[t, t] }) {v sv : Value} {n m : Nat} {xs news : List Value} (hs : a.eval s = v) (hx : a.eval x = sv)
    (hown : Start w0 w e size v n xs) (hext : Ext w0 w) (hsrc : Src w size sv m news) (hm : 0 < m) (h63 : n + m ≤ maxLen) (hbytes : (n + m) * bytes ≤ 140737488355328)
    (h : ∀ v' w', MadeTo w0 e size v' (n + m) (xs ++ news) w' → wpList P ops Q rest (a.put o.dst v') w') : wpList P ops Q (o :: rest) a w := by
  rcases hown with ⟨hown, hnew⟩ | ⟨ad, rfl, hsrc0⟩
  · refine wpList_append_to E hgd s x ho hs hx hown hsrc h63 hbytes (fun v' w' ha => h v' w' ⟨ha.row, fun g hg => ?_, ?_⟩)
    · rcases ha.loc with e | e
      · exact hnew g (e ▸ hg)
      · rw [e] at hg; cases hg; exact hext.size
    · exact Chg.ext ((Chg.of_ext hext).trans ha.chg (fun _ _ e => e)) (fun i hi e => by have := hnew i e; omega)
  · rcases hsrc0 with ⟨e, rfl, rfl⟩ | ⟨ad', c', e, hl, hc, h1⟩
    · simp at e; subst e
      refine wpList_append_to E hgd s x ho hs hx (Row.nil _ _ _) hsrc h63 hbytes (fun v' w' ha => h v' w' ⟨ha.row, fun g hg => ?_, ?_⟩)
      · rcases ha.loc with e | e
        · rw [e] at hg; simp [Value.ownBlock] at hg
        · rw [e] at hg; cases hg; exact hext.size
      · exact Chg.ext ((Chg.of_ext hext).trans ha.chg (fun _ _ e => e)) (fun i hi e => by simp [Value.ownBlock] at e)
    · simp at e
      obtain ⟨rfl, rfl⟩ := e
      rcases hsrc with ⟨_, rfl, _⟩ | ⟨sa, sc, rfl, sl, shc, _⟩
      · omega
      obtain ⟨i, z, hi, hz, e1, e2, e3⟩ := E.info
      obtain ⟨v', w', hr, r1, r2⟩ := run_append_arg_grows (P := P) w t o.type e i z size bytes E.und hi hz e1 e2 e3 E.pos ad' n n xs hl hc sa m sc news sl shc (by omega) h63 hbytes
      have hx2 : Ext w w' := (Chg.of_grown r2).ext (fun i hi e => by simp at e)
      refine wpList_append_run hgd s x t ho _ _ v' w' hs hx hr (h v' w' ⟨?_, fun g hg => ?_, hext.trans hx2⟩)
      · obtain ⟨q1, q2⟩ := r1
        refine ⟨q1, q2.imp id ?_⟩
        rintro ⟨g, cap, cur, p1, _, p3⟩
        exact ⟨g, cap, cur, p1, Nat.zero_le _, p3⟩
      · have := (r1.lt g hg).1; have := hext.size; omega
end Go.Proofs.YtfndeocebpoeeaaDoor
