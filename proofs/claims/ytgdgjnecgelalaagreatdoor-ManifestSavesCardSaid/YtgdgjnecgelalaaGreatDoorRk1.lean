/- The document's disk (tidemillref10) in memory. -/
import Derived.Test.YtgdgjnecgelalaaGreatDoorEnc
import Derived.Test.YtgdgjnecgelalaaGreatDoorByt
import Derived.Deep.DeepCutAuto
namespace Go.Proofs.YtgdgjnecgelalaaGreatDoor
open Go.RowKit Go.Sort Go.Lib

/-- A file of the document's disk: its name, its slice of bytes, what it holds. -/
structure RF where
  nm : ByteArray
  a : Option Addr
  n : Nat
  c : Nat
  bs : List UInt8
  la : Nat
  sy : Bool
def RF.v (f : RF) : Value := .slice f.a f.n f.c
def rfc (f : RF) : List Value := [.string f.nm, .slice f.a f.n f.c, .int .i64 (f.la : Int), .bool f.sy]
def rfs (l : List RF) : List Value := l.flatMap rfc
theorem rfc_len (f : RF) : (rfc f).length = 4 := rfl
theorem rfc_one (f : RF) : ∀ v ∈ rfc f, v.oneCell' = true := by
  intro v hv
  simp only [rfc, List.mem_cons, List.not_mem_nil, or_false] at hv
  rcases hv with rfl | rfl | rfl | rfl <;> rfl
theorem rfs_one (l : List RF) : ∀ u ∈ rfs l, u.oneCell' = true := by
  intro u hu
  simp only [rfs, List.mem_flatMap] at hu
  obtain ⟨b, _, h⟩ := hu
  exact rfc_one b u h
theorem rfs_len (l : List RF) : (rfs l).length = l.length * 4 := enc_len rfc_len l
theorem rfs_append (l k : List RF) : rfs (l ++ k) = rfs l ++ rfs k := by simp [rfs]
def RF.fs (f : RF) : FileS := ⟨f.bs, f.la, f.sy⟩
def rdata (l : List RF) : Fs := l.map fun f => (f.nm, f.fs)
theorem rdata_len (l : List RF) : (rdata l).length = l.length := by simp [rdata]
theorem rdata_at {l : List RF} {k : Nat} {f : RF} (h : l[k]? = some f) : (rdata l)[k]? = some (f.nm, f.fs) := by simp [rdata, h]

/-- What a file may be: T: the blocks that may turn. -/
structure FOk (w : World) (T : Nat → Prop) (f : RF) : Prop where
  src : Src w 1 f.v f.n (u8s f.bs)
  own : ∀ g, f.v.ownBlock = some g → ¬ T g ∧ g < w.heap.size
  cap : f.n ≤ f.c
theorem row_cap {w : World} {e : TypeId} {size : Nat} {a : Option Addr} {n c m : Nat} {xs : List Value} (h : Row w e size (.slice a n c) m xs) : n ≤ c := by
  obtain ⟨_, ⟨e, h0⟩ | ⟨g, cap, cur, e, _, hb, h1, h2, h3, h4⟩⟩ := h
  · simp only [Value.slice.injEq] at e; omega
  · simp only [Value.slice.injEq] at e
    obtain ⟨_, rfl, rfl⟩ := e
    omega
theorem FOk.chg {T S : Nat → Prop} {w w' : World} {f : RF} (h : FOk w T f) (hc : Chg S w w') (hS : ∀ b, S b → T b) : FOk w' T f :=
  ⟨h.src.chg hc (fun g hg e => (h.own g hg).1 (hS g e)), fun g hg => ⟨(h.own g hg).1, Nat.lt_of_lt_of_le (h.own g hg).2 hc.size⟩, h.cap⟩

def RkT (rd : Nat) (V : Value) (b : Nat) : Prop := b = rd ∨ V.ownBlock = some b
structure RkRaw (w : World) (rd : Nat) (room left ops : Int) (L : List RF) (la : Option Addr) (lc : Nat) : Prop where
  blk : w.heap[rd]? = some (.cells #[.int .i64 room, .int .i64 left, .int .i64 ops, .slice la L.length lc] 33 (0, 0))
  row : Row w 91 4 (.slice la L.length lc) L.length (rfs L)
  ok : ∀ f ∈ L, FOk w (RkT rd (.slice la L.length lc)) f
  own : ∀ g, (Value.slice la L.length lc).ownBlock = some g → g ≠ rd
def rfoot (rd : Nat) (V : Value) (L : List RF) : List Nat := rd :: (V.ownBlock.toList ++ L.flatMap fun f => f.v.ownBlock.toList)
theorem rfoot_head (rd : Nat) (V : Value) (L : List RF) : rd ∈ rfoot rd V L := List.mem_cons_self
theorem rfoot_row {rd : Nat} {V : Value} {L : List RF} {g : Nat} (h : V.ownBlock = some g) : g ∈ rfoot rd V L := by simp [rfoot, h]
theorem rfoot_file {rd : Nat} {V : Value} {L : List RF} {f : RF} {g : Nat} (hf : f ∈ L) (h : f.v.ownBlock = some g) : g ∈ rfoot rd V L := by
  refine List.mem_cons_of_mem _ (List.mem_append_right _ (List.mem_flatMap.2 ⟨f, hf, by simp [h]⟩))
theorem rfoot_T {rd : Nat} {V : Value} {L : List RF} {b : Nat} (h : RkT rd V b) : b ∈ rfoot rd V L := by
  rcases h with rfl | h
  · exact rfoot_head _ _ _
  · exact rfoot_row h
theorem rfoot_cases {rd : Nat} {V : Value} {L : List RF} {b : Nat} (h : b ∈ rfoot rd V L) : b = rd ∨ V.ownBlock = some b ∨ ∃ f ∈ L, f.v.ownBlock = some b := by
  rcases List.mem_cons.1 h with h | h
  · exact .inl h
  · rcases List.mem_append.1 h with h | h
    · exact .inr (.inl (by simpa using h))
    · obtain ⟨f, hf, h⟩ := List.mem_flatMap.1 h
      exact .inr (.inr ⟨f, hf, by simpa using h⟩)

theorem RkRaw.chg {T : Nat → Prop} {w w' : World} {rd : Nat} {room left ops : Int} {L : List RF} {la : Option Addr} {lc : Nat} (h : RkRaw w rd room left ops L la lc) (hc : Chg T w w') (hn : ∀ b ∈ rfoot rd (.slice la L.length lc) L, ¬ T b) : RkRaw w' rd room left ops L la lc :=
  ⟨(hc.block rd (block_lt h.blk) (hn rd (rfoot_head _ _ _))).trans h.blk, h.row.chg hc (fun g hg => hn g (rfoot_row hg)),
    fun f hf => ⟨(h.ok f hf).src.chg hc (fun g hg => hn g (rfoot_file hf hg)), fun g hg => ⟨((h.ok f hf).own g hg).1, Nat.lt_of_lt_of_le ((h.ok f hf).own g hg).2 hc.size⟩, (h.ok f hf).cap⟩, h.own⟩
theorem RkRaw.ext {w w' : World} {rd : Nat} {room left ops : Int} {L : List RF} {la : Option Addr} {lc : Nat} (h : RkRaw w rd room left ops L la lc) (hc : Ext w w') : RkRaw w' rd room left ops L la lc :=
  h.chg (Chg.of_ext (S := fun _ => False) hc) (fun _ _ => id)
theorem RkRaw.lt {w : World} {rd : Nat} {room left ops : Int} {L : List RF} {la : Option Addr} {lc : Nat} (h : RkRaw w rd room left ops L la lc) : ∀ b ∈ rfoot rd (.slice la L.length lc) L, b < w.heap.size := by
  intro b hb
  rcases rfoot_cases hb with rfl | hb | ⟨f, hf, hb⟩
  · exact block_lt h.blk
  · exact h.row.lt hb
  · exact ((h.ok f hf).own b hb).2

/-- The cells of a file in the row. -/
theorem file_cells {w : World} {t : TypeId} {a : Option Addr} {n c r : Nat} {L : List RF} (h : Row w t 4 (.slice a n c) n (rfs L)) (hr : r < n) :
    ∃ g x, a = some ⟨g, 0, none⟩ ∧ L[r]? = some x ∧ w.cell? ⟨g, r * 4, none⟩ = some (.string x.nm) ∧ w.cell? ⟨g, r * 4 + 1, none⟩ = some (.slice x.a x.n x.c) ∧ w.cell? ⟨g, r * 4 + 2, none⟩ = some (.int .i64 (x.la : Int)) ∧ w.cell? ⟨g, r * 4 + 3, none⟩ = some (.bool x.sy) ∧ ∀ k, w.frozen? ⟨g, k, none⟩ = false := by
  obtain ⟨hl, ⟨e, h0⟩ | ⟨g, cap, cur, e, _, hb, h1, h2, h3, h4⟩⟩ := h
  · simp only [Value.slice.injEq] at e; omega
  · simp only [Value.slice.injEq] at e
    obtain ⟨rfl, _, rfl⟩ := e
    rw [rfs_len] at hl
    have hx : L[r]? = some L[r] := List.getElem?_eq_getElem (by omega)
    have key : ∀ j u, (rfc L[r])[j]? = some u → w.cell? ⟨g, r * 4 + j, none⟩ = some u := by
      intro j u hj
      have e0 := enc_at rfc_len L r _ hx j u hj
      have hj4 : j < 4 := by have := (List.getElem?_eq_some_iff.1 hj).1; simpa [rfc] using this
      show w.cell? ⟨g, r * 4 + j, none⟩ = some u
      have e1 : (rfs L)[r * 4 + j]? = some u := e0
      rw [← h4, List.getElem?_take] at e1
      split at e1
      · rw [cell_of_block hb]; simpa using e1
      · cases e1
    exact ⟨g, L[r], rfl, hx, key 0 _ rfl, key 1 _ rfl, key 2 _ rfl, key 3 _ rfl, fun k => free_of_block hb k⟩

theorem rfs_set (L : List RF) (k : Nat) (x : RF) : rfs (L.set k x) = ((((rfs L).set (k * 4) (.string x.nm)).set (k * 4 + 1) x.v).set (k * 4 + 2) (.int .i64 (x.la : Int))).set (k * 4 + 3) (.bool x.sy) := by
  induction L generalizing k with
  | nil => simp [rfs]
  | cons y L ih =>
    cases k with
    | zero => simp [rfs, rfc, RF.v]
    | succ k =>
      rw [show (k + 1) * 4 = k * 4 + 4 by omega]
      have := ih k
      simpa [rfs, rfc] using this
/-- The world in which a file of the row is written. -/
def putF (w : World) (g r : Nat) (x : RF) : World := (((w.setCell ⟨g, r * 4, none⟩ (.string x.nm)).setCell ⟨g, r * 4 + 1, none⟩ x.v).setCell ⟨g, r * 4 + 2, none⟩ (.int .i64 (x.la : Int))).setCell ⟨g, r * 4 + 3, none⟩ (.bool x.sy)
theorem putF_chg (w : World) (g r : Nat) (x : RF) : Chg (· = g) w (putF w g r x) :=
  (((setCell_chg _ _ _ _).trans (setCell_chg _ _ _ _) (fun _ _ e => e)).trans (setCell_chg _ _ _ _) (fun _ _ e => e)).trans (setCell_chg _ _ _ _) (fun _ _ e => e)
theorem row_putF {w : World} {t : TypeId} {g n c r : Nat} {L : List RF} (h : Row w t 4 (.slice (some ⟨g, 0, none⟩) n c) n (rfs L)) (x : RF) : Row (putF w g r x) t 4 (.slice (some ⟨g, 0, none⟩) n c) n (rfs (L.set r x)) := by
  obtain ⟨r1, _⟩ := World.ownsRow.stored h (r * 4) (.string x.nm)
  obtain ⟨r2, _⟩ := World.ownsRow.stored r1 (r * 4 + 1) x.v
  obtain ⟨r3, _⟩ := World.ownsRow.stored r2 (r * 4 + 2) (.int .i64 (x.la : Int))
  obtain ⟨r4, _⟩ := World.ownsRow.stored r3 (r * 4 + 3) (.bool x.sy)
  rw [rfs_set]; exact r4
theorem RkRaw.set {w : World} {rd : Nat} {room left ops : Int} {L : List RF} {g lc : Nat} (h : RkRaw w rd room left ops L (some ⟨g, 0, none⟩) lc) (r : Nat) (x : RF) (hx : FOk w (RkT rd (.slice (some ⟨g, 0, none⟩) L.length lc)) x) :
    RkRaw (putF w g r x) rd room left ops (L.set r x) (some ⟨g, 0, none⟩) lc := by
  have hgd : g ≠ rd := h.own g rfl
  have hc := putF_chg w g r x
  have all : ∀ f ∈ L.set r x, FOk w (RkT rd (.slice (some ⟨g, 0, none⟩) L.length lc)) f := fun f hf => by
    rcases List.mem_or_eq_of_mem_set hf with hf | rfl
    · exact h.ok f hf
    · exact hx
  refine ⟨?_, ?_, fun f hf => ?_, ?_⟩
  · rw [List.length_set]; exact (hc.block rd (block_lt h.blk) (Ne.symm hgd)).trans h.blk
  · rw [List.length_set]; exact row_putF h.row x
  · rw [List.length_set]; exact (all f hf).chg hc (fun b e => .inr (by subst e; rfl))
  · rw [List.length_set]; exact h.own

/-- The new file on its way down: those behind it have greater names. -/
structure BubF (L0 : List RF) (x : RF) (k : Nat) (L : List RF) : Prop where
  le : k ≤ L0.length
  eq : L = L0.take k ++ x :: L0.drop k
  gt : ∀ b ∈ L0.drop k, bl x.nm < bl b.nm
theorem BubF.start (L0 : List RF) (x : RF) : BubF L0 x L0.length (L0 ++ [x]) := ⟨Nat.le_refl _, by simp, by simp⟩
theorem BubF.len {L0 L : List RF} {x : RF} {k : Nat} (h : BubF L0 x k L) : L.length = L0.length + 1 := by
  have := h.le
  rw [h.eq]; simp; omega
theorem BubF.at {L0 L : List RF} {x : RF} {k : Nat} (h : BubF L0 x k L) : L[k]? = some x := by
  have := h.le
  rw [h.eq, List.getElem?_append_right (by simp; omega)]
  simp [Nat.min_eq_left this]
theorem BubF.prev {L0 L : List RF} {x : RF} {k : Nat} (h : BubF L0 x (k + 1) L) : L[k]? = L0[k]? := by
  have := h.le
  rw [h.eq, List.getElem?_append_left (by simp; omega), List.getElem?_take, if_pos (by omega)]
theorem BubF.step {L0 L : List RF} {x y : RF} {k : Nat} (h : BubF L0 x (k + 1) L) (hy : L0[k]? = some y) (hlt : bl x.nm < bl y.nm) : BubF L0 x k ((L.set (k + 1) y).set k x) := by
  have hk := h.le
  have hd : L0.drop k = y :: L0.drop (k + 1) := by
    obtain ⟨hk', e⟩ := List.getElem?_eq_some_iff.1 hy
    rw [← e]; exact List.drop_eq_getElem_cons hk'
  have ht : L0.take (k + 1) = L0.take k ++ [y] := by rw [List.take_add_one, hy]; rfl
  refine ⟨by omega, ?_, ?_⟩
  · rw [h.eq, ht, hd]
    have e1 : (L0.take k).length = k := by simp; omega
    rw [List.append_assoc]
    have : ∀ (A B : List RF), A.length = k → ((A ++ ([y] ++ x :: B)).set (k + 1) y).set k x = A ++ x :: y :: B := by
      intro A B hA
      subst hA
      simp [List.set_append]
    exact this _ _ e1
  · rw [hd]
    intro b hb
    rcases List.mem_cons.1 hb with rfl | hb
    · exact hlt
    · exact h.gt b hb

theorem elem_file : ElemOk Tryz.prog 31 91 4 56 :=
  ⟨Tryz.underlying31, by
    obtain ⟨i0, hi, hz0, hz1, hz2⟩ := info_parts (show (Tryz.prog.info? 91).map (fun i => (i.zero, i.size, i.bytes)) = some (some (.agg #[.string ByteArray.empty, .slice none 0 0, .int .i64 0, .bool false]), 4, 56) from by kernel_rfl)
    exact ⟨i0, _, hi, hz0, hz1, hz2, rfl⟩, by decide⟩
theorem file_info : (Tryz.prog.info? 91).map (·.size) = some 4 := by kernel_rfl
/-- A slice of one file, in a block. -/
theorem src_file {W : World} {b : Nat} {x : RF} {t : TypeId} {fr : Nat × Nat} (h : W.heap[b]? = some (.cells #[.string x.nm, .slice x.a x.n x.c, .int .i64 (x.la : Int), .bool x.sy] t fr)) : Src W 4 (.slice (some ⟨b, 0, none⟩) 1 1) 1 (rfs [x]) := by
  refine .inr ⟨_, _, rfl, rfl, fun j u hj => ?_, rfs_one _⟩
  rw [Go.WideShapes.add_plain, Nat.zero_add, cell_of_block h]
  simpa [rfs, rfc] using hj
end Go.Proofs.YtgdgjnecgelalaaGreatDoor

/-! The document's disk: New, find, right, Used, done. -/

namespace Go.Proofs.YtgdgjnecgelalaaGreatDoor
open Go.RowKit Go.Sort Go.Lib

theorem rk_str_eq (a b : ByteArray) : (a.toList == b.toList) = decide (a = b) := by
  rw [← beq_toListBytes, bytes_beq]
/-- Where a file is. -/
def FAt (L : List RF) (name : ByteArray) (kk : Int) : Prop := (kk = -1 ∧ ∀ p ∈ L, p.nm ≠ name) ∨ ∃ (r : Nat) (p : RF), kk = (r : Int) ∧ L[r]? = some p ∧ p.nm = name

set_option maxHeartbeats 2000000 in
theorem rk_find {w : World} {rd : Nat} {room left ops : Int} {L : List RF} {la : Option Addr} {lc : Nat} (h : RkRaw w rd room left ops L la lc) (hL : L.length ≤ 1000000) (name : ByteArray) :
    Calls Tryz.prog 59 #[.pointer (some ⟨rd, 0, none⟩), .string name] w fun e w' => ∃ kk : Int, e = .returned (.int .i64 kk) ∧ FAt L name kk ∧ w = w' := by
  have c1 : w.cell? ⟨rd, 3, none⟩ = some (.slice la L.length lc) := by have := cell_of_block h.blk 3; simpa using this
  have H := Lib.hid h
  clear h
  go_enter Tryz.func59, Tryz.ntmps59
  go_wp2_with fail
  go_loop [5] (fun i => ∃ k : Nat, k ≤ L.length ∧ i = .int .i64 k ∧ Hid (∀ p ∈ L.take k, p.nm ≠ name)) (fun i => L.length - (RowKit.intOf i).toNat)
  case atStart => exact ⟨0, by omega, rfl, Lib.hid (by simp)⟩
  case round =>
    obtain ⟨k, hk, rfl, HI⟩ := hrel
    by_cases hlt : k < L.length
    · obtain ⟨g, x, rfl, hx, cx, _⟩ := file_cells H.out.row hlt
      have HX := Lib.hid hx
      clear hx
      by_cases hxs : x.nm = name
      · have HF : Hid (FAt L name (k : Int)) := Lib.hid (.inr ⟨k, x, rfl, HX.out, hxs⟩)
        have he : (x.nm.toList == name.toList) = true := by rw [rk_str_eq]; simpa using hxs
        clear hxs
        go_wp2_with fail
        go_ret
        exact ⟨_, rfl, HF.out, rfl⟩
      · have HF : Hid (∀ p ∈ L.take (k + 1), p.nm ≠ name) := Lib.hid (fun p hp => by
          rw [List.take_add_one, HX.out] at hp
          rcases List.mem_append.1 hp with hp | hp
          · exact HI.out p hp
          · simp at hp; subst hp; exact hxs)
        have he : (x.nm.toList == name.toList) = false := by rw [rk_str_eq]; simpa using hxs
        clear hxs
        go_wp2_with fail
        go_round
        case rel => exact ⟨k + 1, by omega, by go_num, HF⟩
        case measure => simp [RowKit.intOf]; omega
    · have HF : Hid (FAt L name (-1)) := Lib.hid (.inl ⟨rfl, by have h := HI.out; rwa [List.take_of_length_le (by omega)] at h⟩)
      go_wp2_with fail
      go_ret
      exact ⟨_, rfl, HF.out, rfl⟩

set_option maxHeartbeats 2000000 in
theorem rk_right (s : ByteArray) (hs : s.size ≤ maxLen) (w : World) :
    Calls Tryz.prog 60 #[.string s] w fun e w' => e = .returned (.bool (nameB s)) ∧ w = w' := by
  have HB : Hid (nameB s = (decide (1 ≤ s.size) && decide (s.size ≤ 64))) := Lib.hid rfl
  obtain ⟨n, hn⟩ : ∃ n, s.size = n := ⟨_, rfl⟩
  rw [hn] at HB
  by_cases h1 : 1 ≤ n
  · by_cases h2 : n ≤ 64
    · have h1' : (1 : Int) ≤ (n : Int) := by omega
      have h2' : (n : Int) ≤ 64 := by omega
      go_enter Tryz.func60, Tryz.ntmps60
      go_wp2_with fail
      go_ret
      rw [HB.out]
      exact ⟨by simp [h1, h2], rfl⟩
    · have h1' : (1 : Int) ≤ (n : Int) := by omega
      have h2' : ¬ (n : Int) ≤ 64 := by omega
      go_enter Tryz.func60, Tryz.ntmps60
      go_wp2_with fail
      go_ret
      rw [HB.out]
      exact ⟨by simp [h2], rfl⟩
  · have h1' : ¬ (1 : Int) ≤ (n : Int) := by omega
    go_enter Tryz.func60, Tryz.ntmps60
    go_wp2_with fail
    go_ret
    rw [HB.out]
    exact ⟨by simp [h1], rfl⟩

def sumR (L : List RF) : Nat := (L.map fun f => f.bs.length).sum
theorem sumR_data (L : List RF) : sumR L = sumF (rdata L) := by
  unfold sumR sumF rdata
  rw [List.map_map]
  rfl
theorem sumR_take (L : List RF) (r : Nat) : sumR (L.take r) ≤ sumR L := by
  have := congrArg sumR (List.take_append_drop r L)
  have e : sumR (L.take r ++ L.drop r) = sumR (L.take r) + sumR (L.drop r) := by unfold sumR; rw [List.map_append, List.sum_append]
  omega

set_option maxHeartbeats 2000000 in
theorem rk_used {w : World} {rd : Nat} {room left ops : Int} {L : List RF} {la : Option Addr} {lc : Nat} (h : RkRaw w rd room left ops L la lc) (hs : sumR L ≤ 1073741824) (hL : L.length ≤ 1000000) :
    Calls Tryz.prog 15 #[.pointer (some ⟨rd, 0, none⟩)] w fun e w' => e = .returned (.int .i64 (sumR L : Nat)) ∧ w = w' := by
  have c1 : w.cell? ⟨rd, 3, none⟩ = some (.slice la L.length lc) := by have := cell_of_block h.blk 3; simpa using this
  have H := Lib.hid h
  have HSUM := Lib.hid hs
  clear h hs
  go_enter Tryz.func15, Tryz.ntmps15
  go_wp2_with fail
  go_loop [3, 4] (fun s3 s4 => ∃ (r q : Nat), r ≤ L.length ∧ s4 = .int .i64 r ∧ s3 = .int .i64 q ∧ Hid (q = sumR (L.take r))) (fun _ j => L.length - (RowKit.intOf j).toNat)
  case atStart => exact ⟨0, 0, by omega, rfl, rfl, Lib.hid (by simp [sumR])⟩
  case round =>
    obtain ⟨r, q, hr, rfl, rfl, HQ⟩ := hrel
    by_cases hrl : r < L.length
    · obtain ⟨g, x, rfl, hx, _, cx, _⟩ := file_cells H.out.row hrl
      have HXN := Lib.hid (u8s_src_len (H.out.ok x (List.mem_of_getElem? hx)).src)
      have HQ2 : Hid (q + x.n = sumR (L.take (r + 1))) := Lib.hid (by rw [List.take_add_one, hx, HQ.out]; simp [sumR, HXN.out])
      have hq : q + x.n ≤ 1073741824 := by
        have h1 := HQ2.out
        have h2 := HSUM.out
        have h3 := sumR_take L (r + 1)
        omega
      clear hx
      go_wp2_with fail
      go_round
      case rel => exact ⟨r + 1, q + x.n, by omega, by go_num, by go_num, HQ2⟩
      case measure => simp [RowKit.intOf]; omega
    · have HE : Hid (sumR L = q) := Lib.hid (by rw [HQ.out, List.take_of_length_le (by omega)])
      go_wp2_with fail
      go_ret
      rw [HE.out]
      exact ⟨rfl, rfl⟩

theorem RkRaw.head {w : World} {rd : Nat} {room left ops room2 left2 ops2 : Int} {L : List RF} {la : Option Addr} {lc : Nat} {w2 : World} (h : RkRaw w rd room left ops L la lc) (hc : Chg (· = rd) w w2)
    (hb : w2.heap[rd]? = some (.cells #[.int .i64 room2, .int .i64 left2, .int .i64 ops2, .slice la L.length lc] 33 (0, 0))) : RkRaw w2 rd room2 left2 ops2 L la lc :=
  ⟨hb, h.row.chg hc (fun g hg e => h.own g hg e), fun f hf => (h.ok f hf).chg hc (fun b e => .inl e), h.own⟩

set_option maxHeartbeats 2000000 in
theorem rk_done {w : World} {rd : Nat} {room left ops : Int} {L : List RF} {la : Option Addr} {lc : Nat} (h : RkRaw w rd room left ops L la lc) (ho : 0 ≤ ops) (ho2 : ops < 4611686018427387904) (hl : -1 ≤ left) (hl2 : left ≤ 9223372036854775807) :
    Calls Tryz.prog 63 #[.pointer (some ⟨rd, 0, none⟩)] w fun e w' => e = .returned (.tuple #[]) ∧ RkRaw w' rd room (if 0 < left then left - 1 else left) (ops + 1) L la lc ∧ Chg (· = rd) w w' := by
  have c1 : w.cell? ⟨rd, 1, none⟩ = some (.int .i64 left) := by have := cell_of_block h.blk 1; simpa using this
  have c2 : w.cell? ⟨rd, 2, none⟩ = some (.int .i64 ops) := by have := cell_of_block h.blk 2; simpa using this
  have z1 := free_of_block h.blk 1
  have z2 := free_of_block h.blk 2
  have H := Lib.hid h
  have HI : Hid ((if 0 < left then left - 1 else left) = if 0 < left then left - 1 else left) := Lib.hid rfl
  clear h
  obtain ⟨l2, hl2'⟩ : ∃ l2, l2 = (if 0 < left then left - 1 else left) := ⟨_, rfl⟩
  rw [← hl2']
  have HL2 := Lib.hid hl2'
  clear hl2'
  go_enter Tryz.func63, Tryz.ntmps63
  by_cases hp : 0 < left
  · go_upto_region 1 with fail
    have HB2 : Hid ((w.setCell ⟨rd, 2, none⟩ (.int .i64 (ops + 1))).heap[rd]? = some (.cells #[.int .i64 room, .int .i64 left, .int .i64 (ops + 1), .slice la L.length lc] 33 (0, 0))) := Lib.hid (by rw [setCell_block H.out.blk]; rfl)
    have HC2 := Lib.hid (setCell_chg w rd 2 (.int .i64 (ops + 1)))
    clear c1 c2 z1 z2
    generalize World.setCell _ _ _ = w2 at *
    have c1 : w2.cell? ⟨rd, 1, none⟩ = some (.int .i64 left) := by have := cell_of_block HB2.out 1; simpa using this
    have z1 := free_of_block HB2.out 1
    go_wp2_with fail
    go_end0
    refine ⟨rfl, ?_, ?_⟩
    · refine H.out.head (HC2.out.trans (setCell_chg _ _ _ _) (fun _ _ e => e)) ?_
      rw [setCell_block HB2.out, HL2.out, if_pos hp]; rfl
    · exact HC2.out.trans (setCell_chg _ _ _ _) (fun _ _ e => e)
  · go_upto_region 1 with fail
    have HB2 : Hid ((w.setCell ⟨rd, 2, none⟩ (.int .i64 (ops + 1))).heap[rd]? = some (.cells #[.int .i64 room, .int .i64 left, .int .i64 (ops + 1), .slice la L.length lc] 33 (0, 0))) := Lib.hid (by rw [setCell_block H.out.blk]; rfl)
    have HC2 := Lib.hid (setCell_chg w rd 2 (.int .i64 (ops + 1)))
    clear c1 c2 z1 z2
    generalize World.setCell _ _ _ = w2 at *
    have c1 : w2.cell? ⟨rd, 1, none⟩ = some (.int .i64 left) := by have := cell_of_block HB2.out 1; simpa using this
    go_wp2_with fail
    go_end0
    refine ⟨rfl, ?_, HC2.out⟩
    refine H.out.head HC2.out ?_
    rw [HB2.out, HL2.out, if_neg (by omega)]
end Go.Proofs.YtgdgjnecgelalaaGreatDoor
