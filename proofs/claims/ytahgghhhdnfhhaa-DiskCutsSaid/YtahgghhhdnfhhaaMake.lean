/- Plain laws on slices that are made with zeros. -/
import Derived.Test.YtahgghhhdnfhhaaDisk
import Derived.Laws.OwnMore
namespace Go.Proofs.Ytahgghhhdnfhhaa
open Go.RowKit Go.Sort

def zeros (n : Nat) : List UInt8 := List.replicate n 0
theorem zeros_length (n : Nat) : (zeros n).length = n := by simp [zeros]
theorem zeros_append (n m : Nat) : zeros n ++ zeros m = zeros (n + m) := by simp [zeros]

theorem make_bytes (w : World) (n : Nat) (hn : n ≤ 140737488355328) :
    ∃ w', (Instr.makeSlice 28 (.int .i64 (n : Int)) (.int .i64 (n : Int))).run Try.prog w = .ok (.slice (some ⟨w.heap.size, 0, none⟩) n n) w' ∧
      Row w' 5 1 (.slice (some ⟨w.heap.size, 0, none⟩) n n) n (u8s (zeros n)) ∧ Ext w w' := by
  obtain ⟨i0, hi, hz0, hz1, hz2⟩ := info_parts info_u8
  obtain ⟨w', h1, h2, h3⟩ := run_make_full (P := Try.prog) w 0 28 5 i0 (.int .u8 0) 1 Try.underlying28 hi hz0 hz1 .i64 .i64 n (by rw [hz2]; omega) (by unfold maxLen; omega) (Nat.zero_le _)
  refine ⟨w', h1, ?_, (Chg.of_grown h3).ext (fun _ _ e => by simp at e)⟩
  have e : (madeCells (Value.int .u8 0).cells (n * 1)).toList = u8s (zeros n) := by
    simp only [madeCells, u8s, zeros, Value.cells]
    apply List.ext_getElem
    · simp
    · intro j h1 h2
      simp [Nat.mod_one]
  rw [← e]; exact h2

theorem wpList_make_run {P : Program} {w : World} {ops : Array Oper} {rest : List Oper} {o : Oper} {a : Act} {Q : Exit → Act → World → Prop} (hgd : Region.wanted o (yielded ops a.tmps) = true) (t : TypeId) (l c : Operand)
    (ho : o.op = .makeSlice t l c) (lv cv v : Value) (w' : World) (hl : a.eval l = lv) (hc : a.eval c = cv)
    (hr : (Instr.makeSlice t lv cv).run P w = .ok v w') (h : wpList P ops Q rest (a.put o.dst v) w') :
    wpList P ops Q (o :: rest) a w := by
  refine wpList_step fun K hK => ?_
  rw [if_pos hgd]
  unfold Oper.wp execOp
  simp only [ho, hl, hc, Sem.run_bind, hr, Result.andThen_ok, Sem.run_pure]
  exact hK _ _ h

end Go.Proofs.Ytahgghhhdnfhhaa
