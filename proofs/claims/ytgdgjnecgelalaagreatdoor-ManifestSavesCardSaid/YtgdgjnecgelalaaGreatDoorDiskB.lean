/- Plain laws on slices that the program owns: what an append comes to, whatever the source; and that they stay while other blocks turn. -/
import Derived.Test.YtgdgjnecgelalaaGreatDoorMap
import Derived.Maps.AppendAt
import Derived.Laws.AppendOwnNone
import Derived.Deep.Draws
import Derived.Test.YtgdgjnecgelalaaGreatDoorProg
import Derived.WalkKit
import Derived.KernelRfl
namespace Go.Proofs.YtgdgjnecgelalaaGreatDoor
open Go.RowKit Go.Sort

theorem Chg.of_grown {w w' : World} {r : Option Nat} (h : w.grownBy w' r) : Chg (fun k => r = some k) w w' :=
  ⟨h.os, h.tape, h.output, h.size, fun k hk hn => h.block k hk (fun e => hn e.symm)⟩

theorem block_lt {w : World} {b : Nat} {o : Obj} (h : w.heap[b]? = some o) : b < w.heap.size := by
  rcases Nat.lt_or_ge b w.heap.size with h' | h'
  · exact h'
  · simp [Array.getElem?_eq_none h'] at h

theorem cell_of_block {w : World} {b : Nat} {cs : Array Value} {t : TypeId} {fr : Nat × Nat} (h : w.heap[b]? = some (.cells cs t fr)) (i : Nat) : w.cell? ⟨b, i, none⟩ = cs[i]? := by
  simp [World.cell?, h]
theorem free_of_block {w : World} {b : Nat} {cs : Array Value} {t : TypeId} (h : w.heap[b]? = some (.cells cs t (0, 0))) (i : Nat) : w.frozen? ⟨b, i, none⟩ = false := by
  simp [World.frozen?, h]

theorem setCell_block {w : World} {b i : Nat} {cs : Array Value} {t : TypeId} {fr : Nat × Nat} (h : w.heap[b]? = some (.cells cs t fr)) (u : Value) : (w.setCell ⟨b, i, none⟩ u).heap[b]? = some (.cells (cs.setIfInBounds i u) t fr) := by
  simp [World.setCell, Array.getElem?_modify, h]
theorem setCell_other {w : World} {b c i : Nat} (h : c ≠ b) (u : Value) : (w.setCell ⟨b, i, none⟩ u).heap[c]? = w.heap[c]? := Below.heap_setCell _ _ _ _ h
theorem setCell_chg (w : World) (b i : Nat) (u : Value) : Chg (· = b) w (w.setCell ⟨b, i, none⟩ u) :=
  Chg.setCell (S := (· = b)) (Chg.refl _ w) (p := ⟨b, i, none⟩) (fun _ => rfl) u

theorem Ext.drewN (w : World) (k : Nat) : Ext w (w.drewN k) := ⟨rfl, rfl, rfl, Nat.le_refl _, fun _ _ => rfl⟩
/-- v is a slice of n elements (of 'size' cells each) that holds the cells xs, in a block of its own from its start on. -/
def Row (w : World) (e : TypeId) (size : Nat) (v : Value) (n : Nat) (xs : List Value) : Prop := w.ownsRow 0 e size v n xs

theorem Row.nil (w : World) (e : TypeId) (size : Nat) : Row w e size (.slice none 0 0) 0 [] := ⟨by simp, .inl ⟨rfl, rfl⟩⟩
theorem Row.len {w : World} {e : TypeId} {size : Nat} {v : Value} {n : Nat} {xs : List Value} (h : Row w e size v n xs) : xs.length = n * size := h.1
theorem Row.lt {w : World} {e : TypeId} {size : Nat} {v : Value} {n : Nat} {xs : List Value} (h : Row w e size v n xs) {g : Nat} (hg : v.ownBlock = some g) : g < w.heap.size := by
  obtain ⟨_, h | ⟨g', cap, cur, rfl, _, hb, _⟩⟩ := h
  · rw [h.1] at hg; simp [Value.ownBlock] at hg
  · simp [Value.ownBlock] at hg; subst hg
    rcases Nat.lt_or_ge g' w.heap.size with h | h
    · exact h
    · simp [Array.getElem?_eq_none h] at hb
theorem Row.chg {S : Nat → Prop} {w w' : World} {e : TypeId} {size : Nat} {v : Value} {n : Nat} {xs : List Value} (h : Row w e size v n xs) (hc : Chg S w w') (hn : ∀ g, v.ownBlock = some g → ¬ S g) : Row w' e size v n xs := by
  have hlt : ∀ g, v.ownBlock = some g → g < w.heap.size := fun g hg => h.lt hg
  obtain ⟨h1, h2⟩ := h
  refine ⟨h1, ?_⟩
  rcases h2 with h2 | ⟨g, cap, cur, hv, hg, hh, r⟩
  · exact .inl h2
  · refine .inr ⟨g, cap, cur, hv, hg, ?_, r⟩
    have ho : v.ownBlock = some g := by rw [hv]; rfl
    rw [hc.block g (hlt g ho) (hn g ho)]; exact hh
theorem Row.ext {w w' : World} {e : TypeId} {size : Nat} {v : Value} {n : Nat} {xs : List Value} (h : Row w e size v n xs) (hc : Ext w w') : Row w' e size v n xs :=
  h.chg (Chg.of_ext (S := fun _ => False) hc) (fun _ _ => id)

/-- sv is a slice of m elements whose cells read as xs (wherever they lie). -/
def Src (w : World) (size : Nat) (sv : Value) (m : Nat) (xs : List Value) : Prop :=
  (sv = .slice none 0 0 ∧ m = 0 ∧ xs = []) ∨
  ∃ (ad : Addr) (c : Nat), sv = .slice (some ad) m c ∧ xs.length = m * size ∧ (∀ j u, xs[j]? = some u → w.cell? (ad.add j) = some u) ∧ ∀ u ∈ xs, u.oneCell' = true

theorem Row.src {w : World} {e : TypeId} {size : Nat} {v : Value} {n : Nat} {xs : List Value} (h : Row w e size v n xs) (h1 : ∀ u ∈ xs, u.oneCell' = true) : Src w size v n xs := by
  obtain ⟨hl, ⟨rfl, rfl⟩ | ⟨g, cap, cur, rfl, _, hb, _, _, hcs, rfl⟩⟩ := h
  · left; simp at hl; exact ⟨rfl, rfl, hl⟩
  · refine .inr ⟨_, _, rfl, hl, fun j u hj => ?_, h1⟩
    have hj' : j < n * size := by
      rcases Nat.lt_or_ge j (n * size) with h | h
      · exact h
      · simp [List.getElem?_take, Nat.not_lt.2 h] at hj
    rw [List.getElem?_take, if_pos hj'] at hj
    have : (⟨g, 0, none⟩ : Addr).add j = ⟨g, j, none⟩ := by unfold Addr.add; split <;> simp_all
    rw [this]
    simp only [World.cell?, hb]
    simpa using hj

theorem Src.chg {S : Nat → Prop} {w w' : World} {size : Nat} {v : Value} {n : Nat} {xs : List Value} (h : Src w size v n xs) (hc : Chg S w w') (hn : ∀ g, v.ownBlock = some g → ¬ S g) : Src w' size v n xs := by
  rcases h with h | ⟨ad, c, rfl, h2, h3, h4⟩
  · exact .inl h
  · refine .inr ⟨ad, c, rfl, h2, fun j u hj => ?_, h4⟩
    have hcell := h3 j u hj
    have hlt := World.block_lt_of_cell? w _ hcell
    have hb : (ad.add j).block = ad.block := by unfold Addr.add; split <;> rfl
    rw [hc.cell hlt (by rw [hb]; exact hn _ rfl)]; exact hcell
theorem Src.ext {w w' : World} {size : Nat} {v : Value} {n : Nat} {xs : List Value} (h : Src w size v n xs) (hc : Ext w w') : Src w' size v n xs :=
  h.chg (Chg.of_ext (S := fun _ => False) hc) (fun _ _ => id)
theorem Src.shape {w : World} {size : Nat} {v : Value} {n : Nat} {xs : List Value} (h : Src w size v n xs) : ∃ a c, v = .slice a n c := by
  rcases h with ⟨rfl, rfl, _⟩ | ⟨ad, c, rfl, _⟩
  · exact ⟨_, _, rfl⟩
  · exact ⟨_, _, rfl⟩
theorem Row.shape {w : World} {e : TypeId} {size : Nat} {v : Value} {n : Nat} {xs : List Value} (h : Row w e size v n xs) : ∃ a c, v = .slice a n c := by
  obtain ⟨_, ⟨rfl, rfl⟩ | ⟨g, cap, cur, rfl, _⟩⟩ := h
  · exact ⟨_, _, rfl⟩
  · exact ⟨_, _, rfl⟩

theorem append_any {P : Program} (w : World) (t ty e : TypeId) (i : TypeInfo) (z : Value) (size bytes : Nat) (ht : P.underlying t = some (.slice e)) (hi : P.info? e = some i) (hz : i.zero = some z)
    (hsize : i.size = size) (hby : i.bytes = bytes) (hzs : z.cells.size = size) (hsz : 0 < size)
    {v : Value} {n : Nat} {xs : List Value} (hown : Row w e size v n xs) {sv : Value} {m : Nat} {news : List Value} (hs : Src w size sv m news)
    (h63 : n + m ≤ maxLen) (hbytes : (n + m) * bytes ≤ 140737488355328) :
    ∃ v' w', (Builtin.append_ #[t, t] ty #[v, sv]).run P w = .ok v' w' ∧ Row w' e size v' (n + m) (xs ++ news) ∧ Chg (fun k => v.ownBlock = some k) w w' ∧
      (v'.ownBlock = v.ownBlock ∨ v'.ownBlock = some w.heap.size) := by
  rcases hs with ⟨rfl, rfl, rfl⟩ | ⟨ad, c, rfl, hl, hnews, h1⟩
  · refine ⟨v, w, ?_, by simpa using hown, Chg.refl _ _, .inl rfl⟩
    obtain ⟨_, ⟨rfl, rfl⟩ | ⟨g, cap, cur, rfl, _, hb, hle, _⟩⟩ := hown
    · simp [Builtin.append_, run_underlying ht, sizeOf, typeInfo, hi, Builtin.lenOf, Builtin.firstCells, Result.andThen]
    · simp [Builtin.append_, run_underlying ht, sizeOf, typeInfo, hi, Builtin.lenOf, Builtin.firstCells, Result.andThen, hle, storeCells]
  · obtain ⟨v', w', hr, h2, h3, _, h5⟩ := run_append_own_at (P := P) w 0 t ty e i z size bytes ht hi hz hsize hby hzs hsz v n xs hown ad m c news hl hnews h1 h63 hbytes (Nat.zero_le _)
    exact ⟨v', w', hr, h2, Chg.of_grown h3, h5⟩

section
variable {P : Program} {w : World} {ops : Array Oper} {rest : List Oper} {o : Oper} {a : Act} {Q : Exit → Act → World → Prop}

/-- An append whose outcome is known, at a step of a region that draws its order. -/
theorem step_append_run {K : Act → World → Prop} {E : Prop} (hgd : o.guard = none) (s x : Operand) (t : TypeId)
    (ho : o.op = .call { callee := .builtin .append, args := #[s, x], argTypes := #[t, t] }) (v sv v' : Value) (w' : World) (hs : a.eval s = v) (hx : a.eval x = sv)
    (hr : (Builtin.append_ #[t, t] o.type #[v, sv]).run P w = .ok v' w') (h : K (a.put o.dst v') w') :
    if Region.wanted o (yielded ops a.tmps) = true then Oper.wp P o a w K Q else E := by
  have hw : Region.wanted o (yielded ops a.tmps) = true := by simp [Region.wanted, hgd]
  rw [if_pos hw]
  unfold Oper.wp execOp
  simp only [ho, resolve, invoke, builtin, Sem.run_bind, Sem.run_pure, Result.andThen_ok, List.map_toArray, List.map_cons, List.map_nil, hs, hx, hr]
  exact h

/-- The same in the plain order. -/
theorem wpList_append_run (hgd : o.guard = none) (s x : Operand) (t : TypeId)
    (ho : o.op = .call { callee := .builtin .append, args := #[s, x], argTypes := #[t, t] }) (v sv v' : Value) (w' : World) (hs : a.eval s = v) (hx : a.eval x = sv)
    (hr : (Builtin.append_ #[t, t] o.type #[v, sv]).run P w = .ok v' w') (h : wpList P ops Q rest (a.put o.dst v') w') :
    wpList P ops Q (o :: rest) a w := by
  refine wpList_plain hgd fun K hK => ?_
  unfold Oper.wp execOp
  simp only [ho, resolve, invoke, builtin, Sem.run_bind, Sem.run_pure, Result.andThen_ok, List.map_toArray, List.map_cons, List.map_nil, hs, hx, hr]
  exact hK _ _ h
end

end Go.Proofs.YtgdgjnecgelalaaGreatDoor

/-! Rows of bytes in memory. -/

namespace Go.Proofs.YtgdgjnecgelalaaGreatDoor
open Go.RowKit Go.Sort Go.Lib

def u8s (l : List UInt8) : List Value := l.map fun c => .int .u8 (c.toNat : Int)
theorem u8s_length (l : List UInt8) : (u8s l).length = l.length := by simp [u8s]
theorem u8s_append (l k : List UInt8) : u8s (l ++ k) = u8s l ++ u8s k := by simp [u8s]
theorem u8s_one (l : List UInt8) : ∀ u ∈ u8s l, u.oneCell' = true := by
  intro u hu
  obtain ⟨c, _, rfl⟩ := List.mem_map.1 hu
  rfl

theorem byte_src {w : World} {a : Option Addr} {n c : Nat} {l : List UInt8} (h : Src w 1 (.slice a n c) n (u8s l)) {k : Nat} (hk : k < n) :
    ∃ b off x, a = some ⟨b, off, none⟩ ∧ l[k]? = some x ∧ w.cell? ⟨b, off + k, none⟩ = some (.int .u8 (x.toNat : Int)) := by
  rcases h with ⟨_, h, _⟩ | ⟨ad, c', h, hl, h2, _⟩
  · omega
  · simp at h
    obtain ⟨rfl, rfl⟩ := h
    have hl' : l.length = n := by simpa [u8s] using hl
    have hkl : k < l.length := by omega
    have key : ∀ (k : Nat) (hkl : k < l.length), w.cell? (ad.add k) = some (.int .u8 (l[k].toNat : Int)) := fun k hkl => h2 k _ (by simp [u8s, List.getElem?_eq_getElem hkl])
    obtain ⟨b, off, spot⟩ := ad
    have hz := key 0 (by omega)
    have hspot : spot = none := by simpa [Addr.add] using World.cell?_spot hz
    subst hspot
    refine ⟨b, off, l[k], rfl, List.getElem?_eq_getElem hkl, ?_⟩
    rw [← Go.WideShapes.add_plain]; exact key k hkl
theorem u8s_src_len {w : World} {v : Value} {n : Nat} {l : List UInt8} (h : Src w 1 v n (u8s l)) : l.length = n := by
  rcases h with ⟨_, rfl, h⟩ | ⟨_, _, _, h, _⟩
  · cases l with
    | nil => rfl
    | cons c l => simp [u8s] at h
  · simpa [u8s] using h

end Go.Proofs.YtgdgjnecgelalaaGreatDoor

/-! The disk in memory: its struct, its map, its files; and plain laws on it. -/

namespace Go.Proofs.YtgdgjnecgelalaaGreatDoor
open Go.RowKit Go.Sort

structure FileS where
  bytes : List UInt8
  lasts : Nat
  synced : Bool

/-- A file as it lies in memory: its struct's block, its slice, what it holds. -/
structure FileX where
  fb : Nat
  v : Value
  f : FileS

def FileX.blocks (x : FileX) : List Nat := x.fb :: x.v.ownBlock.toList
def ptrs (E : List (ByteArray × FileX)) : List (ByteArray × Value) := amap (fun x => .pointer (some ⟨x.fb, 0, none⟩)) E
def foot (d mb : Nat) (E : List (ByteArray × FileX)) : List Nat := d :: mb :: E.flatMap fun p => p.2.blocks

structure FileAt (w : World) (x : FileX) : Prop where
  head : w.heap[x.fb]? = some (.cells #[x.v, .int .i64 (x.f.lasts : Int), .bool x.f.synced] 107 (0, 0))
  row : Row w 5 1 x.v x.f.bytes.length (u8s x.f.bytes)

structure DiskRep (w : World) (d mb : Nat) (E : List (ByteArray × FileX)) (room used left ops : Int) : Prop where
  head : w.heap[d]? = some (.cells #[.map (some mb), .int .i64 room, .int .i64 used, .int .i64 left, .int .i64 ops] 71 (0, 0))
  map : MapIs (fun s : ByteArray => Value.string s) w mb (ptrs E)
  files : ∀ p ∈ E, FileAt w p.2
  apart : (foot d mb E).Nodup
  names : (E.map (·.1)).Nodup

theorem FileAt.chg {S : Nat → Prop} {w w' : World} {x : FileX} (h : FileAt w x) (hc : Chg S w w') (hn : ∀ b ∈ x.blocks, ¬ S b) : FileAt w' x := by
  refine ⟨?_, h.row.chg hc (fun g hg => hn g (by simp [FileX.blocks, hg]))⟩
  rw [hc.block _ (block_lt h.head) (hn _ (by simp [FileX.blocks]))]; exact h.head

theorem DiskRep.chg {S : Nat → Prop} {w w' : World} {d mb : Nat} {E : List (ByteArray × FileX)} {room used left ops : Int} (h : DiskRep w d mb E room used left ops) (hc : Chg S w w') (hn : ∀ b ∈ foot d mb E, ¬ S b) : DiskRep w' d mb E room used left ops := by
  refine ⟨?_, h.map.chg hc (hn mb (by simp [foot])), fun p hp => (h.files p hp).chg hc (fun b hb => hn b ?_), h.apart, h.names⟩
  · rw [hc.block _ (block_lt h.head) (hn d (by simp [foot]))]; exact h.head
  · simp only [foot, List.mem_cons, List.mem_flatMap]; exact .inr (.inr ⟨p, hp, hb⟩)
theorem DiskRep.ext {w w' : World} {d mb : Nat} {E : List (ByteArray × FileX)} {room used left ops : Int} (h : DiskRep w d mb E room used left ops) (hc : Ext w w') : DiskRep w' d mb E room used left ops :=
  h.chg (Chg.of_ext (S := fun _ => False) hc) (fun _ _ => id)
theorem DiskRep.foot_lt {w : World} {d mb : Nat} {E : List (ByteArray × FileX)} {room used left ops : Int} (h : DiskRep w d mb E room used left ops) : ∀ b ∈ foot d mb E, b < w.heap.size := by
  intro b hb
  simp only [foot, List.mem_cons, List.mem_flatMap] at hb
  rcases hb with rfl | rfl | ⟨p, hp, hb⟩
  · exact block_lt h.head
  · exact h.map.lt
  · have hf := h.files p hp
    simp only [FileX.blocks, List.mem_cons, Option.mem_toList] at hb
    rcases hb with rfl | hb
    · exact block_lt hf.head
    · exact hf.row.lt hb

theorem info_u8 : (Tryz.prog.info? 5).map (fun i => (i.zero, i.size, i.bytes)) = some (some (.int .u8 0), 1, 1) := by kernel_rfl

end Go.Proofs.YtgdgjnecgelalaaGreatDoor

/-! Plain laws on the disk in memory: a file turned, a new file, a file taken away. -/

namespace Go.Proofs.YtgdgjnecgelalaaGreatDoor
open Go.RowKit Go.Sort

theorem aget_split {α β : Type} [DecidableEq α] {E : List (α × β)} {k : α} {x : β} (h : aget E k = some x) :
    ∃ E1 E2, E = E1 ++ (k, x) :: E2 ∧ (∀ x', aput E k x' = E1 ++ (k, x') :: E2) ∧ adel E k = E1 ++ E2 := by
  induction E with
  | nil => simp [aget] at h
  | cons p E ih =>
    obtain ⟨a, u⟩ := p
    simp only [aget] at h
    split at h
    · rename_i e
      simp at h; subst h; subst e
      exact ⟨[], E, rfl, fun x' => by simp [aput], by simp [adel]⟩
    · rename_i hne
      obtain ⟨E1, E2, h1, h2, h3⟩ := ih h
      exact ⟨(a, u) :: E1, E2, by rw [h1]; rfl, fun x' => by simp [aput, hne, h2], by simp [adel, hne, h3]⟩

def fs (E : List (ByteArray × FileX)) : List (ByteArray × FileS) := amap (·.f) E

/-- The blocks of all but one. -/
def footR (d mb : Nat) (E1 E2 : List (ByteArray × FileX)) : List Nat := d :: mb :: (E1 ++ E2).flatMap fun p => p.2.blocks

theorem foot_perm (d mb : Nat) (E1 E2 : List (ByteArray × FileX)) (k : ByteArray) (x : FileX) : List.Perm (foot d mb (E1 ++ (k, x) :: E2)) (x.blocks ++ footR d mb E1 E2) := by
  simp only [foot, footR, List.flatMap_append, List.flatMap_cons]
  generalize E1.flatMap (fun p => p.2.blocks) = l1
  generalize E2.flatMap (fun p => p.2.blocks) = l2
  have h1 : List.Perm (l1 ++ (x.blocks ++ l2)) (x.blocks ++ (l1 ++ l2)) := by
    rw [← List.append_assoc, ← List.append_assoc]
    exact List.Perm.append_right _ List.perm_append_comm
  refine (List.Perm.cons d (List.Perm.cons mb h1)).trans ?_
  refine (List.Perm.cons d List.perm_middle.symm).trans ?_
  exact List.perm_middle.symm

theorem blocks_nodup {x : FileX} : x.blocks.Nodup ↔ x.v.ownBlock ≠ some x.fb := by
  unfold FileX.blocks
  cases x.v.ownBlock with
  | none => simp
  | some g => simp; exact ⟨fun h e => h e.symm, fun h e => h e.symm⟩

/-- What is left of a disk if one file is taken out of sight. -/
structure DiskRest (w : World) (d mb : Nat) (E1 E2 : List (ByteArray × FileX)) : Prop where
  files : ∀ p ∈ E1 ++ E2, FileAt w p.2
  apart : (footR d mb E1 E2).Nodup

theorem DiskRep.rest {w : World} {d mb : Nat} {E1 E2 : List (ByteArray × FileX)} {k : ByteArray} {x : FileX} {room used left ops : Int} (h : DiskRep w d mb (E1 ++ (k, x) :: E2) room used left ops) :
    (∀ p ∈ E1 ++ E2, FileAt w p.2) ∧ (footR d mb E1 E2).Nodup ∧ x.blocks.Nodup ∧ (∀ b ∈ x.blocks, b ∉ footR d mb E1 E2) := by
  have hn := (foot_perm d mb E1 E2 k x).nodup_iff.1 h.apart
  rw [List.nodup_append] at hn
  refine ⟨fun p hp => h.files p ?_, hn.2.1, hn.1, fun b hb hb' => hn.2.2 b hb b hb' rfl⟩
  rcases List.mem_append.1 hp with hp | hp
  · exact List.mem_append_left _ hp
  · exact List.mem_append_right _ (List.mem_cons_of_mem _ hp)

theorem ptrs_same (E1 E2 : List (ByteArray × FileX)) (k : ByteArray) {x x' : FileX} (h : x'.fb = x.fb) : ptrs (E1 ++ (k, x') :: E2) = ptrs (E1 ++ (k, x) :: E2) := by
  simp [ptrs, amap, h]

/-- A file turned: its struct's block stays; its slice's is the same, or a new one. -/
theorem DiskRep.turn {w w' : World} {d mb : Nat} {E : List (ByteArray × FileX)} {name : ByteArray} {x x' : FileX} {room used left ops room' used' left' ops' : Int} {S : Nat → Prop} (h : DiskRep w d mb E room used left ops) (hx : aget E name = some x)
    (hc : Chg S w w') (hS : ∀ b, S b → b = d ∨ b ∈ x.blocks)
    (hd : w'.heap[d]? = some (.cells #[.map (some mb), .int .i64 room', .int .i64 used', .int .i64 left', .int .i64 ops'] 71 (0, 0)))
    (hf : FileAt w' x') (hb : x'.fb = x.fb) (hv : x'.v.ownBlock = x.v.ownBlock ∨ ∃ g, x'.v.ownBlock = some g ∧ w.heap.size ≤ g) :
    DiskRep w' d mb (aput E name x') room' used' left' ops' ∧ ∀ b ∈ foot d mb (aput E name x'), b ∈ foot d mb E ∨ w.heap.size ≤ b := by
  have hlt := h.foot_lt
  obtain ⟨E1, E2, rfl, hput, _⟩ := aget_split hx
  rw [hput]
  obtain ⟨r1, r2, r3, r4⟩ := h.rest
  have hmem : ∀ b, b ∈ foot d mb (E1 ++ (name, x) :: E2) ↔ b ∈ x.blocks ∨ b ∈ footR d mb E1 E2 := fun b => by rw [(foot_perm d mb E1 E2 name x).mem_iff, List.mem_append]
  have hmem' : ∀ b, b ∈ foot d mb (E1 ++ (name, x') :: E2) ↔ b ∈ x'.blocks ∨ b ∈ footR d mb E1 E2 := fun b => by rw [(foot_perm d mb E1 E2 name x').mem_iff, List.mem_append]
  have hmb : mb ∈ footR d mb E1 E2 := by simp [footR]
  have hdR : d ∈ footR d mb E1 E2 := by simp [footR]
  have hdmb : mb ≠ d := by
    intro e; subst e
    simp [footR] at r2
  have hrest : ∀ b ∈ footR d mb E1 E2, b ≠ d → ¬ S b := fun b hb' hne hs => by
    rcases hS b hs with e | e
    · exact hne e
    · exact r4 b e hb'
  have hx'b : ∀ b ∈ x'.blocks, b ∈ x.blocks ∨ w.heap.size ≤ b := by
    intro b hb'
    simp only [FileX.blocks, List.mem_cons, Option.mem_toList] at hb' ⊢
    rcases hb' with e | e
    · exact .inl (.inl (e.trans hb))
    · rcases hv with hv | ⟨g, hg, hle⟩
      · exact .inl (.inr (hv ▸ e))
      · rw [hg] at e; simp at e; subst e; exact .inr hle
  refine ⟨⟨hd, ?_, ?_, ?_, ?_⟩, ?_⟩
  · rw [ptrs_same E1 E2 name hb]; exact h.map.chg hc (hrest mb hmb hdmb)
  · intro p hp
    rcases List.mem_append.1 hp with hp | hp
    · refine (r1 p (List.mem_append_left _ hp)).chg hc (fun b hb' => hrest b ?_ ?_)
      · simp only [footR, List.mem_cons, List.mem_flatMap]; exact .inr (.inr ⟨p, List.mem_append_left _ hp, hb'⟩)
      · intro e; subst e
        simp only [footR, List.nodup_cons, List.mem_cons, not_or] at r2
        exact r2.1.2 (List.mem_flatMap.2 ⟨p, List.mem_append_left _ hp, hb'⟩)
    · rcases List.mem_cons.1 hp with rfl | hp
      · exact hf
      · refine (r1 p (List.mem_append_right _ hp)).chg hc (fun b hb' => hrest b ?_ ?_)
        · simp only [footR, List.mem_cons, List.mem_flatMap]; exact .inr (.inr ⟨p, List.mem_append_right _ hp, hb'⟩)
        · intro e; subst e
          simp only [footR, List.nodup_cons, List.mem_cons, not_or] at r2
          exact r2.1.2 (List.mem_flatMap.2 ⟨p, List.mem_append_right _ hp, hb'⟩)
  · refine (foot_perm d mb E1 E2 name x').nodup_iff.2 ?_
    rw [List.nodup_append]
    refine ⟨?_, r2, ?_⟩
    · rw [blocks_nodup]
      rcases hv with hv | ⟨g, hg, hle⟩
      · rw [hv, hb]; exact blocks_nodup.1 r3
      · rw [hg, hb]; intro e; simp at e
        have := hlt x.fb ((hmem _).2 (.inl (by simp [FileX.blocks])))
        omega
    · intro b hb' c hc' e
      subst e
      rcases hx'b b hb' with h1 | h1
      · exact r4 b h1 hc'
      · have := hlt b ((hmem _).2 (.inr hc'))
        omega
  · have := h.names
    simpa using this
  · intro b hb'
    rcases (hmem' b).1 hb' with h1 | h1
    · exact (hx'b b h1).imp (fun h => (hmem b).2 (.inl h)) id
    · exact .inl ((hmem b).2 (.inr h1))

/-- A new file. -/
theorem DiskRep.add {w w' : World} {d mb : Nat} {E : List (ByteArray × FileX)} {name : ByteArray} {x' : FileX} {room used left ops room' used' left' ops' : Int} {S : Nat → Prop} (h : DiskRep w d mb E room used left ops) (hx : aget E name = none)
    (hc : Chg S w w') (hS : ∀ b, S b → b = d ∨ b = mb)
    (hd : w'.heap[d]? = some (.cells #[.map (some mb), .int .i64 room', .int .i64 used', .int .i64 left', .int .i64 ops'] 71 (0, 0)))
    (hm : MapIs (fun s : ByteArray => Value.string s) w' mb (aput (ptrs E) name (.pointer (some ⟨x'.fb, 0, none⟩))))
    (hf : FileAt w' x') (hnew : ∀ b ∈ x'.blocks, w.heap.size ≤ b) (hnd : x'.v.ownBlock ≠ some x'.fb) :
    DiskRep w' d mb (aput E name x') room' used' left' ops' ∧ ∀ b ∈ foot d mb (aput E name x'), b ∈ foot d mb E ∨ w.heap.size ≤ b := by
  have hlt := h.foot_lt
  have hap := h.apart
  have hput := aput_new x' hx
  rw [hput]
  have hmem : ∀ b, b ∈ foot d mb (E ++ [(name, x')]) ↔ b ∈ foot d mb E ∨ b ∈ x'.blocks := fun b => by simp [foot, or_assoc]
  refine ⟨⟨hd, ?_, ?_, ?_, ?_⟩, ?_⟩
  · have e : ptrs (E ++ [(name, x')]) = aput (ptrs E) name (.pointer (some ⟨x'.fb, 0, none⟩)) := by
      rw [← hput]; exact (aput_amap (fun x : FileX => Value.pointer (some ⟨x.fb, 0, none⟩)) E name x').symm
    rw [e]; exact hm
  · intro p hp
    rcases List.mem_append.1 hp with hp | hp
    · refine (h.files p hp).chg hc (fun b hb hs => ?_)
      have hb' : b ∈ E.flatMap fun p => p.2.blocks := List.mem_flatMap.2 ⟨p, hp, hb⟩
      simp only [foot, List.nodup_cons, List.mem_cons, not_or] at hap
      rcases hS b hs with e | e
      · subst e; exact hap.1.2 hb'
      · subst e; exact hap.2.1 hb'
    · simp at hp; subst hp; exact hf
  · have e : foot d mb (E ++ [(name, x')]) = foot d mb E ++ x'.blocks := by simp [foot]
    rw [e, List.nodup_append]
    refine ⟨hap, blocks_nodup.2 hnd, fun a ha b hb e => ?_⟩
    subst e
    have := hlt a ha
    have := hnew a hb
    omega
  · rw [List.map_append, List.nodup_append]
    refine ⟨h.names, by simp, fun a ha b hb e => ?_⟩
    simp at hb; subst hb; subst e
    exact (aget_none_iff.1 hx) ha
  · intro b hb
    rcases (hmem b).1 hb with h1 | h1
    · exact .inl h1
    · exact .inr (hnew b h1)

end Go.Proofs.YtgdgjnecgelalaaGreatDoor
