/- Plain laws on slices that the program owns: what an append comes to, whatever the source; and that they stay while other blocks turn. -/
import Derived.Test.YtokllgdbmnmieaaGreatMap
import Derived.Maps.AppendAt
import Derived.Laws.AppendOwnNone
import Derived.Deep.Draws
import Derived.WideShapes
namespace Go.Proofs.YtokllgdbmnmieaaGreat
open Go.RowKit Go.Sort

theorem Chg.of_grown {w w' : World} {r : Option Nat} (h : w.grownBy w' r) : Chg (fun k => r = some k) w w' :=
  ⟨h.os, h.tape, h.output, h.size, fun k hk hn => h.block k hk (fun e => hn e.symm)⟩

theorem block_lt {w : World} {b : Nat} {o : Obj} (h : w.heap[b]? = some o) : b < w.heap.size := by
  rcases Nat.lt_or_ge b w.heap.size with h' | h'
  · exact h'
  · simp [Array.getElem?_eq_none h'] at h

theorem cell_of_block {w : World} {b : Nat} {cs : Array Value} {t : TypeId} {fr : Nat × Nat} (h : w.heap[b]? = some (.cells cs t fr)) (i : Nat) : w.cell? ⟨b, i, none⟩ = cs[i]? := by
  simp [World.cell?, h]
theorem free_of_block {w : World} {b : Nat} {cs : Array Value} {t : TypeId} (h : w.heap[b]? = some (.cells cs t (0, 0))) (i : Nat) : w.frozen? ⟨b, i, none⟩ = false := by
  simp [World.frozen?, h]

theorem setCell_block {w : World} {b i : Nat} {cs : Array Value} {t : TypeId} {fr : Nat × Nat} (h : w.heap[b]? = some (.cells cs t fr)) (u : Value) : (w.setCell ⟨b, i, none⟩ u).heap[b]? = some (.cells (cs.setIfInBounds i u) t fr) := by
  simp [World.setCell, Array.getElem?_modify, h]
theorem setCell_other {w : World} {b c i : Nat} (h : c ≠ b) (u : Value) : (w.setCell ⟨b, i, none⟩ u).heap[c]? = w.heap[c]? := Below.heap_setCell _ _ _ _ h
theorem setCell_chg (w : World) (b i : Nat) (u : Value) : Chg (· = b) w (w.setCell ⟨b, i, none⟩ u) :=
  Chg.setCell (S := (· = b)) (Chg.refl _ w) (p := ⟨b, i, none⟩) (fun _ => rfl) u

theorem Ext.drewN (w : World) (k : Nat) : Ext w (w.drewN k) := ⟨rfl, rfl, rfl, Nat.le_refl _, fun _ _ => rfl⟩
/-- v is a slice of n elements (of 'size' cells each) that holds the cells xs, in a block of its own from its start on. -/
def Row (w : World) (e : TypeId) (size : Nat) (v : Value) (n : Nat) (xs : List Value) : Prop := w.ownsRow 0 e size v n xs

theorem Row.nil (w : World) (e : TypeId) (size : Nat) : Row w e size (.slice none 0 0) 0 [] := ⟨by simp, .inl ⟨rfl, rfl⟩⟩
theorem Row.len {w : World} {e : TypeId} {size : Nat} {v : Value} {n : Nat} {xs : List Value} (h : Row w e size v n xs) : xs.length = n * size := h.1
theorem Row.lt {w : World} {e : TypeId} {size : Nat} {v : Value} {n : Nat} {xs : List Value} (h : Row w e size v n xs) {g : Nat} (hg : v.ownBlock = some g) : g < w.heap.size := by
  obtain ⟨_, h | ⟨g', cap, cur, rfl, _, hb, _⟩⟩ := h
  · rw [h.1] at hg; simp [Value.ownBlock] at hg
  · simp [Value.ownBlock] at hg; subst hg
    rcases Nat.lt_or_ge g' w.heap.size with h | h
    · exact h
    · simp [Array.getElem?_eq_none h] at hb
theorem Row.chg {S : Nat → Prop} {w w' : World} {e : TypeId} {size : Nat} {v : Value} {n : Nat} {xs : List Value} (h : Row w e size v n xs) (hc : Chg S w w') (hn : ∀ g, v.ownBlock = some g → ¬ S g) : Row w' e size v n xs := by
  have hlt : ∀ g, v.ownBlock = some g → g < w.heap.size := fun g hg => h.lt hg
  obtain ⟨h1, h2⟩ := h
  refine ⟨h1, ?_⟩
  rcases h2 with h2 | ⟨g, cap, cur, hv, hg, hh, r⟩
  · exact .inl h2
  · refine .inr ⟨g, cap, cur, hv, hg, ?_, r⟩
    have ho : v.ownBlock = some g := by rw [hv]; rfl
    rw [hc.block g (hlt g ho) (hn g ho)]; exact hh
theorem Row.ext {w w' : World} {e : TypeId} {size : Nat} {v : Value} {n : Nat} {xs : List Value} (h : Row w e size v n xs) (hc : Ext w w') : Row w' e size v n xs :=
  h.chg (Chg.of_ext (S := fun _ => False) hc) (fun _ _ => id)

/-- sv is a slice of m elements whose cells read as xs (wherever they lie). -/
def Src (w : World) (size : Nat) (sv : Value) (m : Nat) (xs : List Value) : Prop :=
  (sv = .slice none 0 0 ∧ m = 0 ∧ xs = []) ∨
  ∃ (ad : Addr) (c : Nat), sv = .slice (some ad) m c ∧ xs.length = m * size ∧ (∀ j u, xs[j]? = some u → w.cell? (ad.add j) = some u) ∧ ∀ u ∈ xs, u.oneCell' = true

theorem Row.src {w : World} {e : TypeId} {size : Nat} {v : Value} {n : Nat} {xs : List Value} (h : Row w e size v n xs) (h1 : ∀ u ∈ xs, u.oneCell' = true) : Src w size v n xs := by
  obtain ⟨hl, ⟨rfl, rfl⟩ | ⟨g, cap, cur, rfl, _, hb, _, _, hcs, rfl⟩⟩ := h
  · left; simp at hl; exact ⟨rfl, rfl, hl⟩
  · refine .inr ⟨_, _, rfl, hl, fun j u hj => ?_, h1⟩
    have hj' : j < n * size := by
      rcases Nat.lt_or_ge j (n * size) with h | h
      · exact h
      · simp [List.getElem?_take, Nat.not_lt.2 h] at hj
    rw [List.getElem?_take, if_pos hj'] at hj
    have : (⟨g, 0, none⟩ : Addr).add j = ⟨g, j, none⟩ := by unfold Addr.add; split <;> simp_all
    rw [this]
    simp only [World.cell?, hb]
    simpa using hj

theorem Src.chg {S : Nat → Prop} {w w' : World} {size : Nat} {v : Value} {n : Nat} {xs : List Value} (h : Src w size v n xs) (hc : Chg S w w') (hn : ∀ g, v.ownBlock = some g → ¬ S g) : Src w' size v n xs := by
  rcases h with h | ⟨ad, c, rfl, h2, h3, h4⟩
  · exact .inl h
  · refine .inr ⟨ad, c, rfl, h2, fun j u hj => ?_, h4⟩
    have hcell := h3 j u hj
    have hlt := World.block_lt_of_cell? w _ hcell
    have hb : (ad.add j).block = ad.block := by unfold Addr.add; split <;> rfl
    rw [hc.cell hlt (by rw [hb]; exact hn _ rfl)]; exact hcell
theorem Src.ext {w w' : World} {size : Nat} {v : Value} {n : Nat} {xs : List Value} (h : Src w size v n xs) (hc : Ext w w') : Src w' size v n xs :=
  h.chg (Chg.of_ext (S := fun _ => False) hc) (fun _ _ => id)
theorem Src.shape {w : World} {size : Nat} {v : Value} {n : Nat} {xs : List Value} (h : Src w size v n xs) : ∃ a c, v = .slice a n c := by
  rcases h with ⟨rfl, rfl, _⟩ | ⟨ad, c, rfl, _⟩
  · exact ⟨_, _, rfl⟩
  · exact ⟨_, _, rfl⟩
theorem Row.shape {w : World} {e : TypeId} {size : Nat} {v : Value} {n : Nat} {xs : List Value} (h : Row w e size v n xs) : ∃ a c, v = .slice a n c := by
  obtain ⟨_, ⟨rfl, rfl⟩ | ⟨g, cap, cur, rfl, _⟩⟩ := h
  · exact ⟨_, _, rfl⟩
  · exact ⟨_, _, rfl⟩

theorem append_any {P : Program} (w : World) (t ty e : TypeId) (i : TypeInfo) (z : Value) (size bytes : Nat) (ht : P.underlying t = some (.slice e)) (hi : P.info? e = some i) (hz : i.zero = some z)
    (hsize : i.size = size) (hby : i.bytes = bytes) (hzs : z.cells.size = size) (hsz : 0 < size)
    {v : Value} {n : Nat} {xs : List Value} (hown : Row w e size v n xs) {sv : Value} {m : Nat} {news : List Value} (hs : Src w size sv m news)
    (h63 : n + m ≤ maxLen) (hbytes : (n + m) * bytes ≤ 140737488355328) :
    ∃ v' w', (Builtin.append_ #[t, t] ty #[v, sv]).run P w = .ok v' w' ∧ Row w' e size v' (n + m) (xs ++ news) ∧ Chg (fun k => v.ownBlock = some k) w w' ∧
      (v'.ownBlock = v.ownBlock ∨ v'.ownBlock = some w.heap.size) := by
  rcases hs with ⟨rfl, rfl, rfl⟩ | ⟨ad, c, rfl, hl, hnews, h1⟩
  · refine ⟨v, w, ?_, by simpa using hown, Chg.refl _ _, .inl rfl⟩
    obtain ⟨_, ⟨rfl, rfl⟩ | ⟨g, cap, cur, rfl, _, hb, hle, _⟩⟩ := hown
    · simp [Builtin.append_, run_underlying ht, sizeOf, typeInfo, hi, Builtin.lenOf, Builtin.firstCells, Result.andThen]
    · simp [Builtin.append_, run_underlying ht, sizeOf, typeInfo, hi, Builtin.lenOf, Builtin.firstCells, Result.andThen, hle, storeCells]
  · obtain ⟨v', w', hr, h2, h3, _, h5⟩ := run_append_own_at (P := P) w 0 t ty e i z size bytes ht hi hz hsize hby hzs hsz v n xs hown ad m c news hl hnews h1 h63 hbytes (Nat.zero_le _)
    exact ⟨v', w', hr, h2, Chg.of_grown h3, h5⟩

section
variable {P : Program} {w : World} {ops : Array Oper} {rest : List Oper} {o : Oper} {a : Act} {Q : Exit → Act → World → Prop}

/-- An append whose outcome is known, at a step of a region that draws its order. -/
theorem step_append_run {K : Act → World → Prop} {E : Prop} (hgd : o.guard = none) (s x : Operand) (t : TypeId)
    (ho : o.op = .call { callee := .builtin .append, args := #[s, x], argTypes := #[t, t] }) (v sv v' : Value) (w' : World) (hs : a.eval s = v) (hx : a.eval x = sv)
    (hr : (Builtin.append_ #[t, t] o.type #[v, sv]).run P w = .ok v' w') (h : K (a.put o.dst v') w') :
    if Region.wanted o (yielded ops a.tmps) = true then Oper.wp P o a w K Q else E := by
  have hw : Region.wanted o (yielded ops a.tmps) = true := by simp [Region.wanted, hgd]
  rw [if_pos hw]
  unfold Oper.wp execOp
  simp only [ho, resolve, invoke, builtin, Sem.run_bind, Sem.run_pure, Result.andThen_ok, List.map_toArray, List.map_cons, List.map_nil, hs, hx, hr]
  exact h

/-- The same in the plain order. -/
theorem wpList_append_run (hgd : o.guard = none) (s x : Operand) (t : TypeId)
    (ho : o.op = .call { callee := .builtin .append, args := #[s, x], argTypes := #[t, t] }) (v sv v' : Value) (w' : World) (hs : a.eval s = v) (hx : a.eval x = sv)
    (hr : (Builtin.append_ #[t, t] o.type #[v, sv]).run P w = .ok v' w') (h : wpList P ops Q rest (a.put o.dst v') w') :
    wpList P ops Q (o :: rest) a w := by
  refine wpList_plain hgd fun K hK => ?_
  unfold Oper.wp execOp
  simp only [ho, resolve, invoke, builtin, Sem.run_bind, Sem.run_pure, Result.andThen_ok, List.map_toArray, List.map_cons, List.map_nil, hs, hx, hr]
  exact hK _ _ h
end

end Go.Proofs.YtokllgdbmnmieaaGreat

/-! Slices of ints in memory. -/

namespace Go.Proofs.YtokllgdbmnmieaaGreat
open Go.RowKit Go.Sort Go.Lib

def zints (l : List Int) : List Value := l.map (Value.int .i64)

theorem zints_src {w : World} {a : Option Addr} {n c : Nat} {l : List Int} (h : Src w 1 (.slice a n c) n (zints l)) {k : Nat} (hk : k < n) :
    ∃ b off z, a = some ⟨b, off, none⟩ ∧ l[k]? = some z ∧ w.cell? ⟨b, off + k, none⟩ = some (.int .i64 z) := by
  rcases h with ⟨_, h, _⟩ | ⟨ad, c', h, hl, h2, _⟩
  · omega
  · simp at h
    obtain ⟨rfl, rfl⟩ := h
    have hl' : l.length = n := by simpa [zints] using hl
    have hkl : k < l.length := by omega
    have hcell := h2 k (.int .i64 l[k]) (by simp [zints, List.getElem?_eq_getElem hkl])
    have hcell0 := h2 0 (.int .i64 (l[0]'(by omega))) (by simp [zints, List.getElem?_eq_getElem (show 0 < l.length by omega)])
    obtain ⟨b, off, spot⟩ := ad
    have hspot : spot = none := by simpa [Addr.add] using World.cell?_spot hcell0
    subst hspot
    refine ⟨b, off, l[k], rfl, List.getElem?_eq_getElem hkl, ?_⟩
    rw [← Go.WideShapes.add_plain]; exact hcell
theorem zints_src_len {w : World} {v : Value} {n : Nat} {l : List Int} (h : Src w 1 v n (zints l)) : l.length = n := by
  rcases h with ⟨_, h, h2⟩ | ⟨_, _, _, h, _⟩
  · have : (zints l).length = 0 := by rw [h2]; rfl
    simp [zints] at this; simp [this, h]
  · simpa [zints] using h

end Go.Proofs.YtokllgdbmnmieaaGreat

/-! Rows of bytes in memory. -/

namespace Go.Proofs.YtokllgdbmnmieaaGreat
open Go.RowKit Go.Sort Go.Lib

def u8s (l : List UInt8) : List Value := l.map fun c => .int .u8 (c.toNat : Int)
theorem u8s_length (l : List UInt8) : (u8s l).length = l.length := by simp [u8s]
theorem u8s_append (l k : List UInt8) : u8s (l ++ k) = u8s l ++ u8s k := by simp [u8s]
theorem u8s_one (l : List UInt8) : ∀ u ∈ u8s l, u.oneCell' = true := by
  intro u hu
  obtain ⟨c, _, rfl⟩ := List.mem_map.1 hu
  rfl

theorem byte_src {w : World} {a : Option Addr} {n c : Nat} {l : List UInt8} (h : Src w 1 (.slice a n c) n (u8s l)) {k : Nat} (hk : k < n) :
    ∃ b off x, a = some ⟨b, off, none⟩ ∧ l[k]? = some x ∧ w.cell? ⟨b, off + k, none⟩ = some (.int .u8 (x.toNat : Int)) := by
  rcases h with ⟨_, h, _⟩ | ⟨ad, c', h, hl, h2, _⟩
  · omega
  · simp at h
    obtain ⟨rfl, rfl⟩ := h
    have hl' : l.length = n := by simpa [u8s] using hl
    have hkl : k < l.length := by omega
    have key : ∀ (k : Nat) (hkl : k < l.length), w.cell? (ad.add k) = some (.int .u8 (l[k].toNat : Int)) := fun k hkl => h2 k _ (by simp [u8s, List.getElem?_eq_getElem hkl])
    obtain ⟨b, off, spot⟩ := ad
    have hz := key 0 (by omega)
    have hspot : spot = none := by simpa [Addr.add] using World.cell?_spot hz
    subst hspot
    refine ⟨b, off, l[k], rfl, List.getElem?_eq_getElem hkl, ?_⟩
    rw [← Go.WideShapes.add_plain]; exact key k hkl
theorem u8s_src_len {w : World} {v : Value} {n : Nat} {l : List UInt8} (h : Src w 1 v n (u8s l)) : l.length = n := by
  rcases h with ⟨_, rfl, h⟩ | ⟨_, _, _, h, _⟩
  · cases l with
    | nil => rfl
    | cons c l => simp [u8s] at h
  · simpa [u8s] using h

end Go.Proofs.YtokllgdbmnmieaaGreat
