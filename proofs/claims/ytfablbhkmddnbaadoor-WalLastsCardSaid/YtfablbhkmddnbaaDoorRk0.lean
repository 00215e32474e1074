/- The document's disk (tidemillref10) in memory. -/
import Derived.Test.YtfablbhkmddnbaaDoorRkp
import Derived.Test.YtfablbhkmddnbaaDoorBls
import Derived.Test.YtfablbhkmddnbaaDoorEnc
namespace Go.Proofs.YtfablbhkmddnbaaDoor
open Go.RowKit Go.Sort Go.Lib

/-- A file of the document's disk: its name, its slice of bytes, what it holds. -/
structure RF where
  nm : ByteArray
  a : Option Addr
  n : Nat
  c : Nat
  bs : List UInt8
  la : Nat
  sy : Bool
def RF.v (f : RF) : Value := .slice f.a f.n f.c
def rfc (f : RF) : List Value := [.string f.nm, .slice f.a f.n f.c, .int .i64 (f.la : Int), .bool f.sy]
def rfs (l : List RF) : List Value := l.flatMap rfc
theorem rfc_len (f : RF) : (rfc f).length = 4 := rfl
theorem rfc_one (f : RF) : ∀ v ∈ rfc f, v.oneCell' = true := by
  intro v hv
  simp only [rfc, List.mem_cons, List.not_mem_nil, or_false] at hv
  rcases hv with rfl | rfl | rfl | rfl <;> rfl
theorem rfs_one (l : List RF) : ∀ u ∈ rfs l, u.oneCell' = true := by
  intro u hu
  simp only [rfs, List.mem_flatMap] at hu
  obtain ⟨b, _, h⟩ := hu
  exact rfc_one b u h
theorem rfs_len (l : List RF) : (rfs l).length = l.length * 4 := enc_len rfc_len l
theorem rfs_append (l k : List RF) : rfs (l ++ k) = rfs l ++ rfs k := by simp [rfs]
def RF.fs (f : RF) : FileS := ⟨f.bs, f.la, f.sy⟩
def rdata (l : List RF) : Fs := l.map fun f => (f.nm, f.fs)
theorem rdata_len (l : List RF) : (rdata l).length = l.length := by simp [rdata]
theorem rdata_at {l : List RF} {k : Nat} {f : RF} (h : l[k]? = some f) : (rdata l)[k]? = some (f.nm, f.fs) := by simp [rdata, h]

/-- What a file may be: T: the blocks that may turn. -/
structure FOk (w : World) (T : Nat → Prop) (f : RF) : Prop where
  src : Src w 1 f.v f.n (u8s f.bs)
  own : ∀ g, f.v.ownBlock = some g → ¬ T g ∧ g < w.heap.size
  cap : f.n ≤ f.c
theorem row_cap {w : World} {e : TypeId} {size : Nat} {a : Option Addr} {n c m : Nat} {xs : List Value} (h : Row w e size (.slice a n c) m xs) : n ≤ c := by
  obtain ⟨_, ⟨e, h0⟩ | ⟨g, cap, cur, e, _, hb, h1, h2, h3, h4⟩⟩ := h
  · simp only [Value.slice.injEq] at e; omega
  · simp only [Value.slice.injEq] at e
    obtain ⟨_, rfl, rfl⟩ := e
    omega
theorem FOk.chg {T S : Nat → Prop} {w w' : World} {f : RF} (h : FOk w T f) (hc : Chg S w w') (hS : ∀ b, S b → T b) : FOk w' T f :=
  ⟨h.src.chg hc (fun g hg e => (h.own g hg).1 (hS g e)), fun g hg => ⟨(h.own g hg).1, Nat.lt_of_lt_of_le (h.own g hg).2 hc.size⟩, h.cap⟩

def RkT (rd : Nat) (V : Value) (b : Nat) : Prop := b = rd ∨ V.ownBlock = some b
def rfoot (rd : Nat) (V : Value) (L : List RF) : List Nat := rd :: (V.ownBlock.toList ++ L.flatMap fun f => f.v.ownBlock.toList)
theorem rfoot_head (rd : Nat) (V : Value) (L : List RF) : rd ∈ rfoot rd V L := List.mem_cons_self
theorem rfoot_row {rd : Nat} {V : Value} {L : List RF} {g : Nat} (h : V.ownBlock = some g) : g ∈ rfoot rd V L := by simp [rfoot, h]
theorem rfoot_file {rd : Nat} {V : Value} {L : List RF} {f : RF} {g : Nat} (hf : f ∈ L) (h : f.v.ownBlock = some g) : g ∈ rfoot rd V L := by
  refine List.mem_cons_of_mem _ (List.mem_append_right _ (List.mem_flatMap.2 ⟨f, hf, by simp [h]⟩))
theorem rfoot_T {rd : Nat} {V : Value} {L : List RF} {b : Nat} (h : RkT rd V b) : b ∈ rfoot rd V L := by
  rcases h with rfl | h
  · exact rfoot_head _ _ _
  · exact rfoot_row h
theorem rfoot_cases {rd : Nat} {V : Value} {L : List RF} {b : Nat} (h : b ∈ rfoot rd V L) : b = rd ∨ V.ownBlock = some b ∨ ∃ f ∈ L, f.v.ownBlock = some b := by
  rcases List.mem_cons.1 h with h | h
  · exact .inl h
  · rcases List.mem_append.1 h with h | h
    · exact .inr (.inl (by simpa using h))
    · obtain ⟨f, hf, h⟩ := List.mem_flatMap.1 h
      exact .inr (.inr ⟨f, hf, by simpa using h⟩)

/-- The cells of a file in the row. -/
theorem file_cells {w : World} {t : TypeId} {a : Option Addr} {n c r : Nat} {L : List RF} (h : Row w t 4 (.slice a n c) n (rfs L)) (hr : r < n) :
    ∃ g x, a = some ⟨g, 0, none⟩ ∧ L[r]? = some x ∧ w.cell? ⟨g, r * 4, none⟩ = some (.string x.nm) ∧ w.cell? ⟨g, r * 4 + 1, none⟩ = some (.slice x.a x.n x.c) ∧ w.cell? ⟨g, r * 4 + 2, none⟩ = some (.int .i64 (x.la : Int)) ∧ w.cell? ⟨g, r * 4 + 3, none⟩ = some (.bool x.sy) ∧ ∀ k, w.frozen? ⟨g, k, none⟩ = false := by
  obtain ⟨hl, ⟨e, h0⟩ | ⟨g, cap, cur, e, _, hb, h1, h2, h3, h4⟩⟩ := h
  · simp only [Value.slice.injEq] at e; omega
  · simp only [Value.slice.injEq] at e
    obtain ⟨rfl, _, rfl⟩ := e
    rw [rfs_len] at hl
    have hx : L[r]? = some L[r] := List.getElem?_eq_getElem (by omega)
    have key : ∀ j u, (rfc L[r])[j]? = some u → w.cell? ⟨g, r * 4 + j, none⟩ = some u := by
      intro j u hj
      have e0 := enc_at rfc_len L r _ hx j u hj
      have hj4 : j < 4 := by have := (List.getElem?_eq_some_iff.1 hj).1; simpa [rfc] using this
      show w.cell? ⟨g, r * 4 + j, none⟩ = some u
      have e1 : (rfs L)[r * 4 + j]? = some u := e0
      rw [← h4, List.getElem?_take] at e1
      split at e1
      · rw [cell_of_block hb]; simpa using e1
      · cases e1
    exact ⟨g, L[r], rfl, hx, key 0 _ rfl, key 1 _ rfl, key 2 _ rfl, key 3 _ rfl, fun k => free_of_block hb k⟩

theorem rfs_set (L : List RF) (k : Nat) (x : RF) : rfs (L.set k x) = ((((rfs L).set (k * 4) (.string x.nm)).set (k * 4 + 1) x.v).set (k * 4 + 2) (.int .i64 (x.la : Int))).set (k * 4 + 3) (.bool x.sy) := by
  induction L generalizing k with
  | nil => simp [rfs]
  | cons y L ih =>
    cases k with
    | zero => simp [rfs, rfc, RF.v]
    | succ k =>
      rw [show (k + 1) * 4 = k * 4 + 4 by omega]
      have := ih k
      simpa [rfs, rfc] using this
/-- The world in which a file of the row is written. -/
def putF (w : World) (g r : Nat) (x : RF) : World := (((w.setCell ⟨g, r * 4, none⟩ (.string x.nm)).setCell ⟨g, r * 4 + 1, none⟩ x.v).setCell ⟨g, r * 4 + 2, none⟩ (.int .i64 (x.la : Int))).setCell ⟨g, r * 4 + 3, none⟩ (.bool x.sy)
theorem putF_chg (w : World) (g r : Nat) (x : RF) : Chg (· = g) w (putF w g r x) :=
  (((setCell_chg _ _ _ _).trans (setCell_chg _ _ _ _) (fun _ _ e => e)).trans (setCell_chg _ _ _ _) (fun _ _ e => e)).trans (setCell_chg _ _ _ _) (fun _ _ e => e)
theorem row_putF {w : World} {t : TypeId} {g n c r : Nat} {L : List RF} (h : Row w t 4 (.slice (some ⟨g, 0, none⟩) n c) n (rfs L)) (x : RF) : Row (putF w g r x) t 4 (.slice (some ⟨g, 0, none⟩) n c) n (rfs (L.set r x)) := by
  obtain ⟨r1, _⟩ := World.ownsRow.stored h (r * 4) (.string x.nm)
  obtain ⟨r2, _⟩ := World.ownsRow.stored r1 (r * 4 + 1) x.v
  obtain ⟨r3, _⟩ := World.ownsRow.stored r2 (r * 4 + 2) (.int .i64 (x.la : Int))
  obtain ⟨r4, _⟩ := World.ownsRow.stored r3 (r * 4 + 3) (.bool x.sy)
  rw [rfs_set]; exact r4
/-- The new file on its way down: those behind it have greater names. -/
structure BubF (L0 : List RF) (x : RF) (k : Nat) (L : List RF) : Prop where
  le : k ≤ L0.length
  eq : L = L0.take k ++ x :: L0.drop k
  gt : ∀ b ∈ L0.drop k, bl x.nm < bl b.nm
theorem BubF.start (L0 : List RF) (x : RF) : BubF L0 x L0.length (L0 ++ [x]) := ⟨Nat.le_refl _, by simp, by simp⟩
theorem BubF.len {L0 L : List RF} {x : RF} {k : Nat} (h : BubF L0 x k L) : L.length = L0.length + 1 := by
  have := h.le
  rw [h.eq]; simp; omega
theorem BubF.at {L0 L : List RF} {x : RF} {k : Nat} (h : BubF L0 x k L) : L[k]? = some x := by
  have := h.le
  rw [h.eq, List.getElem?_append_right (by simp; omega)]
  simp [Nat.min_eq_left this]
theorem BubF.prev {L0 L : List RF} {x : RF} {k : Nat} (h : BubF L0 x (k + 1) L) : L[k]? = L0[k]? := by
  have := h.le
  rw [h.eq, List.getElem?_append_left (by simp; omega), List.getElem?_take, if_pos (by omega)]
theorem BubF.step {L0 L : List RF} {x y : RF} {k : Nat} (h : BubF L0 x (k + 1) L) (hy : L0[k]? = some y) (hlt : bl x.nm < bl y.nm) : BubF L0 x k ((L.set (k + 1) y).set k x) := by
  have hk := h.le
  have hd : L0.drop k = y :: L0.drop (k + 1) := by
    obtain ⟨hk', e⟩ := List.getElem?_eq_some_iff.1 hy
    rw [← e]; exact List.drop_eq_getElem_cons hk'
  have ht : L0.take (k + 1) = L0.take k ++ [y] := by rw [List.take_add_one, hy]; rfl
  refine ⟨by omega, ?_, ?_⟩
  · rw [h.eq, ht, hd]
    have e1 : (L0.take k).length = k := by simp; omega
    rw [List.append_assoc]
    have : ∀ (A B : List RF), A.length = k → ((A ++ ([y] ++ x :: B)).set (k + 1) y).set k x = A ++ x :: y :: B := by
      intro A B hA
      subst hA
      simp [List.set_append]
    exact this _ _ e1
  · rw [hd]
    intro b hb
    rcases List.mem_cons.1 hb with rfl | hb
    · exact hlt
    · exact h.gt b hb

/-- A slice of one file, in a block. -/
theorem src_file {W : World} {b : Nat} {x : RF} {t : TypeId} {fr : Nat × Nat} (h : W.heap[b]? = some (.cells #[.string x.nm, .slice x.a x.n x.c, .int .i64 (x.la : Int), .bool x.sy] t fr)) : Src W 4 (.slice (some ⟨b, 0, none⟩) 1 1) 1 (rfs [x]) := by
  refine .inr ⟨_, _, rfl, rfl, fun j u hj => ?_, rfs_one _⟩
  rw [Go.WideShapes.add_plain, Nat.zero_add, cell_of_block h]
  simpa [rfs, rfc] using hj
end Go.Proofs.YtfablbhkmddnbaaDoor
