/- Slices that are made empty, with room; arrays as slices. -/
import Derived.Test.YtdgmnhcgjbkafaaGreatDoorCut
import Derived.Laws.MakeOwn
namespace Go.Proofs.YtdgmnhcgjbkafaaGreatDoor
open Go.RowKit Go.Sort Go.Lib

theorem make_room {P : Program} {t e : TypeId} {size bytes : Nat} (E : ElemOk P t e size bytes) (w : World) (c : Nat) (hc : c ≤ 1000000000000) (hb : bytes ≤ 200) :
    ∃ w', (Instr.makeSlice t (.int .i64 0) (.int .i64 (c : Int))).run P w = .ok (.slice (some ⟨w.heap.size, 0, none⟩) 0 c) w' ∧ MadeTo w e size (.slice (some ⟨w.heap.size, 0, none⟩) 0 c) 0 [] w' := by
  obtain ⟨i, z, hi, hz, h1, h2, h3⟩ := E.info
  obtain ⟨w', r1, r2, r3⟩ := run_make_own (P := P) (w := w) w.heap.size t e i z size E.und hi hz h1 .i64 .i64 c (by rw [h2]; have := Nat.mul_le_mul hb hc; omega) (by unfold maxLen; omega) (Nat.le_refl _)
  refine ⟨w', r1, ?_, fun g hg => ?_, (Chg.of_grown r3).ext (fun i hi e => by simp at e)⟩
  · obtain ⟨q1, q2⟩ := r2
    refine ⟨q1, q2.imp id ?_⟩
    rintro ⟨g, cap, cur, p1, _, p3⟩
    exact ⟨g, cap, cur, p1, Nat.zero_le _, p3⟩
  · have e2 : w.heap.size = g := Option.some.inj hg; omega
theorem wpList_makeS_run {P : Program} {w : World} {ops : Array Oper} {rest : List Oper} {o : Oper} {a : Act} {Q : Exit → Act → World → Prop} (hgd : Region.wanted o (yielded ops a.tmps) = true) (t : TypeId) (l c : Operand)
    (ho : o.op = .makeSlice t l c) (lv cv v : Value) (w' : World) (hl : a.eval l = lv) (hc : a.eval c = cv)
    (hr : (Instr.makeSlice t lv cv).run P w = .ok v w') (h : wpList P ops Q rest (a.put o.dst v) w') :
    wpList P ops Q (o :: rest) a w := by
  refine wpList_step fun K hK => ?_
  rw [if_pos hgd]
  unfold Oper.wp execOp
  simp only [ho, hl, hc, Sem.run_bind, hr, Result.andThen_ok, Sem.run_pure]
  exact hK _ _ h
/-- What has been made, and more behind it. -/
theorem MadeTo.more {w0 w w' : World} {e : TypeId} {size n m : Nat} {v v' : Value} {xs ys : List Value} (h : MadeTo w0 e size v n xs w) {w1 : World} (hx : Ext w w1) (ha : Appended w1 e size v (n + m) (xs ++ ys) v' w') : MadeTo w0 e size v' (n + m) (xs ++ ys) w' :=
  ⟨ha.row, fun g hg => by
    rcases ha.loc with e | e
    · exact h.own g (e ▸ hg)
    · rw [e] at hg; cases hg; exact (h.ext.trans hx).size, ((Chg.of_ext (h.ext.trans hx)).trans ha.chg (fun _ _ e => e)).ext (fun i hi e => by have := h.own i e; omega)⟩
theorem MadeTo.ext' {w0 w w1 : World} {e : TypeId} {size n : Nat} {v : Value} {xs : List Value} (h : MadeTo w0 e size v n xs w) (hx : Ext w w1) : MadeTo w0 e size v n xs w1 := ⟨h.row.ext hx, h.own, h.ext.trans hx⟩
end Go.Proofs.YtdgmnhcgjbkafaaGreatDoor
