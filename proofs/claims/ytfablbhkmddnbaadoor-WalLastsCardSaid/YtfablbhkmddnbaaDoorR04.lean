/- varint: Put, PutText. -/
import Derived.Test.YtfablbhkmddnbaaDoorVrd
import Derived.Lib.AppendStr
namespace Go.Proofs.YtfablbhkmddnbaaDoor
open Go.RowKit Go.Sort Go.Lib

/-- A number as bytes. -/
def varP (u : Nat) : List UInt8 := if u < 128 then [UInt8.ofNat u] else UInt8.ofNat (u % 128 + 128) :: varP (u / 128)
termination_by u
decreasing_by omega
theorem varP_lt {u : Nat} (h : u < 128) : varP u = [UInt8.ofNat u] := by rw [varP, if_pos h]
theorem varP_ge {u : Nat} (h : ¬ u < 128) : varP u = UInt8.ofNat (u % 128 + 128) :: varP (u / 128) := by rw [varP, if_neg h]
theorem varP_pos (u : Nat) : 0 < (varP u).length := by
  by_cases h : u < 128
  · rw [varP_lt h]; simp
  · rw [varP_ge h]; simp
theorem varP_len (k : Nat) : ∀ u, u < 128 ^ k → 0 < k → (varP u).length ≤ k := by
  induction k with
  | zero => intro u _ h; omega
  | succ k ih =>
    intro u hu _
    by_cases h : u < 128
    · rw [varP_lt h]; simp
    · rw [varP_ge h, List.length_cons]
      have hk : 0 < k := by
        rcases Nat.eq_zero_or_pos k with rfl | hk
        · simp at hu; omega
        · exact hk
      have := ih (u / 128) (by rw [Nat.pow_succ] at hu; exact Nat.div_lt_of_lt_mul (by rw [Nat.mul_comm]; exact hu)) hk
      omega
theorem varP_10 {u : Nat} (h : u < 2 ^ 64) : (varP u).length ≤ 10 := varP_len 10 u (Nat.lt_of_lt_of_le h (by decide)) (by omega)

theorem elem_u8 : ElemOk Tryd.prog 22 5 1 1 :=
  ⟨Tryd.underlying22, by
    obtain ⟨i0, hi, hz0, hz1, hz2⟩ := info_parts (show (Tryd.prog.info? 5).map (fun i => (i.zero, i.size, i.bytes)) = some (some (.int .u8 0), 1, 1) from by kernel_rfl)
    exact ⟨i0, _, hi, hz0, hz1, hz2, rfl⟩, by decide⟩
theorem src_byte {W : World} {b : Nat} {x : UInt8} {t : TypeId} {fr : Nat × Nat} (h : W.heap[b]? = some (.cells #[.int .u8 (x.toNat : Int)] t fr)) : Src W 1 (.slice (some ⟨b, 0, none⟩) 1 1) 1 (u8s [x]) := by
  refine .inr ⟨_, _, rfl, rfl, fun j u hj => ?_, u8s_one _⟩
  rw [Go.WideShapes.add_plain, Nat.zero_add, cell_of_block h]
  simpa [u8s] using hj
set_option maxRecDepth 10000 in
theorem u8_or128 (x : Nat) (hx : x < 256) : bits .or .u8 (x : Int) 128 = ((x % 128 + 128 : Nat) : Int) := by
  have key : (BitVec.ofInt 8 (x : Int) ||| BitVec.ofInt 8 128).toNat = x % 128 + 128 := by
    rw [BitVec.toNat_or, BitVec.toNat_ofInt]
    have a1 : ((x : Int) % ((2 ^ 8 : Nat) : Int)).toNat = x := by omega
    rw [a1]
    have : ∀ y, y < 256 → y ||| 128 = y % 128 + 128 := by decide
    exact this x hx
  show IntKind.u8.wrap ((BitVec.ofInt 8 (x : Int) ||| BitVec.ofInt 8 128).toNat : Nat) = _
  rw [key, IntKind.wrap_u8]
  omega

/-- What has been put so far. -/
structure PutR (w : World) (xs full : List UInt8) (u n : Nat) (v : Value) (wr : World) : Prop where
  st : Start w wr 5 1 v n (u8s xs)
  len : n = xs.length
  ext : Ext w wr
  eq : xs ++ varP u = full

theorem MadeTo.owns {w0 w : World} {e : TypeId} {size : Nat} {v : Value} {n : Nat} {xs : List Value} (h : MadeTo w0 e size v n xs w) : w.ownsRow w0.heap.size e size v n xs := by
  obtain ⟨q1, q2⟩ := h.row
  refine ⟨q1, q2.imp id ?_⟩
  rintro ⟨g, cap, cur, rfl, _, p3⟩
  exact ⟨g, cap, cur, rfl, h.own g rfl, p3⟩
theorem MadeTo.of_owns {w0 w : World} {e : TypeId} {size : Nat} {v : Value} {n : Nat} {xs : List Value} (h : w.ownsRow w0.heap.size e size v n xs) (hx : Ext w0 w) : MadeTo w0 e size v n xs w := by
  refine ⟨?_, fun g hg => (h.lt g hg).1, hx⟩
  obtain ⟨q1, q2⟩ := h
  refine ⟨q1, q2.imp id ?_⟩
  rintro ⟨g, cap, cur, p1, _, p3⟩
  exact ⟨g, cap, cur, p1, Nat.zero_le _, p3⟩
theorem wpList_append_str {w0 w : World} {ops : Array Oper} {rest : List Oper} {o : Oper} {a : Act} {Q : Exit → Act → World → Prop} (hgd : o.guard = none) (sl x : Operand)
    (ho : o.op = .call { callee := .builtin .append, args := #[sl, x], argTypes := #[22, 9] }) {v : Value} {n : Nat} {xs : List Value} {s : ByteArray} (hs : a.eval sl = v) (hx : a.eval x = .string s)
    (hm : MadeTo w0 5 1 v n xs w) (h63 : n + s.size ≤ maxLen) (hbytes : n + s.size ≤ 140737488355328)
    (h : ∀ v' w', MadeTo w0 5 1 v' (n + s.size) (xs ++ u8s s.data.toList) w' → wpList Tryd.prog ops Q rest (a.put o.dst v') w') : wpList Tryd.prog ops Q (o :: rest) a w := by
  obtain ⟨i, z, hi, hz, e1, e2, e3⟩ := elem_u8.info
  have hz0 : i.zero = some (.int .u8 0) := by
    have : (Tryd.prog.info? 5).map (fun i => i.zero) = some (some (.int .u8 0)) := by kernel_rfl
    rw [hi] at this; simpa using this
  exact Lib.wpList_append_own_string (P := Tryd.prog) w hgd sl x 22 9 ho w0.heap.size 5 i Tryd.underlying22 Tryd.underlying9 hi hz0 e1 e2 v n xs hs hm.owns s hx h63 hbytes hm.ext.size
    (fun v' w' r1 r2 _ => h v' w' (MadeTo.of_owns r1 (((Chg.of_ext hm.ext).trans (Chg.of_grown r2) (fun _ _ e => e)).ext (fun i hi e => by have := hm.own i e; omega))))

end Go.Proofs.YtfablbhkmddnbaaDoor

/-! tidemillref03: Read, ReadText, Put, PutText. -/

namespace Go.Proofs.YtfablbhkmddnbaaDoor
open Go.RowKit Go.Sort Go.Lib

theorem valL_drop (l : List UInt8) (i : Nat) : valL (l.drop i) ≤ valL l := by
  induction i generalizing l with
  | zero => simp
  | succ i ih =>
    cases l with
    | nil => simp
    | cons c l => have := ih l; simp only [List.drop_succ_cons, valL]; omega
theorem valL_at {l : List UInt8} {i : Nat} {x : UInt8} (h : l[i]? = some x) : valL (l.drop i) = x.toNat % 128 + 128 * valL (l.drop (i + 1)) := by
  obtain ⟨h1, h2⟩ := List.getElem?_eq_some_iff.1 h
  rw [List.drop_eq_getElem_cons h1, h2, valL]

end Go.Proofs.YtfablbhkmddnbaaDoor

/-! tidemillref03: Put, PutText. -/

namespace Go.Proofs.YtfablbhkmddnbaaDoor
open Go.RowKit Go.Sort Go.Lib

theorem MadeTo.app {w0 w w' : World} {e : TypeId} {size n : Nat} {v v' : Value} {ys : List Value} (hown : ∀ g, v.ownBlock = some g → w0.heap.size ≤ g) (hx : Ext w0 w) (ha : Appended w e size v n ys v' w') : MadeTo w0 e size v' n ys w' :=
  ⟨ha.row, fun g hg => by
    rcases ha.loc with e | e
    · exact hown g (e ▸ hg)
    · rw [e] at hg; cases hg; exact hx.size,
   Chg.ext ((Chg.of_ext hx).trans ha.chg (fun _ _ e => e)) (fun i hi e => by have := hown i e; omega)⟩
theorem MadeTo.trans {w0 w1 w2 : World} {e : TypeId} {size n : Nat} {v : Value} {xs : List Value} (hx : Ext w0 w1) (h : MadeTo w1 e size v n xs w2) : MadeTo w0 e size v n xs w2 :=
  ⟨h.row, fun g hg => Nat.le_trans hx.size (h.own g hg), hx.trans h.ext⟩
theorem row_empty {W : World} {b : Nat} {t : TypeId} (h : W.heap[b]? = some (.cells #[] t (0, 0))) : Row W t 1 (.slice (some ⟨b, 0, none⟩) 0 0) 0 [] :=
  ⟨rfl, .inr ⟨b, 0, #[], rfl, Nat.zero_le _, h, Nat.le_refl _, by unfold maxLen; omega, rfl, rfl⟩⟩

/-- What has been put so far. -/
structure Put3R (w : World) (xs full : List UInt8) (u n : Nat) (v : Value) (wr : World) : Prop where
  st : MadeTo w 5 1 v n (u8s xs) wr
  len : n = xs.length
  eq : xs ++ varP u = full

end Go.Proofs.YtfablbhkmddnbaaDoor
