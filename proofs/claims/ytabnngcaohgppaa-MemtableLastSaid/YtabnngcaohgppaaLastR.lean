/- MemtableLast: what stands in memory while the law goes on. -/
import Derived.Test.YtabnngcaohgppaaLastP
import Derived.Test.YtabnngcaohgppaaZin
namespace Go.Proofs.Ytabnngcaohgppaa
open Go.RowKit Go.Sort Go.Lib

theorem zints_one (l : List Int) : ∀ u ∈ zints l, u.oneCell' = true := by
  intro u hu
  obtain ⟨z, _, rfl⟩ := List.mem_map.1 hu
  rfl
def owns (E : List Ent) : List Value := E.flatMap fun e => [.int .i64 e.v, .int .i64 e.s]
theorem owns_len (E : List Ent) : (owns E).length = E.length * 2 := by
  induction E with
  | nil => rfl
  | cons e E ih => simp [owns] at ih ⊢; omega
theorem owns_one (E : List Ent) : ∀ u ∈ owns E, u.oneCell' = true := by
  intro u hu
  obtain ⟨e, _, hu⟩ := List.mem_flatMap.1 hu
  simp at hu
  rcases hu with rfl | rfl <;> rfl
theorem owns_snoc (E : List Ent) (e : Ent) : owns (E ++ [e]) = owns E ++ owns [e] := by simp [owns]
theorem elem_int : ElemOk Try.prog 36 3 1 8 :=
  ⟨Try.underlying36, by
    obtain ⟨i0, hi, hz0, hz1, hz2⟩ := info_parts (show (Try.prog.info? 3).map (fun i => (i.zero, i.size, i.bytes)) = some (some (.int .i64 0), 1, 8) from by kernel_rfl)
    exact ⟨i0, _, hi, hz0, hz1, hz2, rfl⟩, by decide⟩
theorem elem_own : ElemOk Try.prog 38 40 2 16 :=
  ⟨Try.underlying38, by
    obtain ⟨i0, hi, hz0, hz1, hz2⟩ := info_parts (show (Try.prog.info? 40).map (fun i => (i.zero, i.size, i.bytes)) = some (some (.agg #[.int .i64 0, .int .i64 0]), 2, 16) from by kernel_rfl)
    exact ⟨i0, _, hi, hz0, hz1, hz2, rfl⟩, by decide⟩
theorem src_int' {W : World} {b : Nat} {z : Int} {t : TypeId} {fr : Nat × Nat} (h : W.heap[b]? = some (.cells #[.int .i64 z] t fr)) : Src W 1 (.slice (some ⟨b, 0, none⟩) 1 1) 1 (zints [z]) := by
  refine .inr ⟨_, _, rfl, rfl, fun j u hj => ?_, zints_one _⟩
  rw [Go.WideShapes.add_plain, Nat.zero_add, cell_of_block h]
  simpa [zints] using hj
theorem src_own' {W : World} {b : Nat} {e : Ent} {t : TypeId} {fr : Nat × Nat} (h : W.heap[b]? = some (.cells #[.int .i64 e.v, .int .i64 e.s] t fr)) : Src W 2 (.slice (some ⟨b, 0, none⟩) 1 1) 1 (owns [e]) := by
  refine .inr ⟨_, _, rfl, rfl, fun j u hj => ?_, owns_one _⟩
  rw [Go.WideShapes.add_plain, Nat.zero_add, cell_of_block h]
  simpa [owns] using hj
theorem psrc_lt {w : World} {v : Value} {n : Nat} {l : List Pt} (h : Src w 3 v n (pts l)) (hl : l ≠ []) {g : Nat} (hg : v.ownBlock = some g) : g < w.heap.size := by
  rcases h with ⟨rfl, _, _⟩ | ⟨ad, c, rfl, _, h2, _⟩
  · simp [Value.ownBlock] at hg
  · cases l with
    | nil => exact absurd rfl hl
    | cons p l =>
      have hc := h2 0 (.int .i64 p.t) (by simp [pts, Pt.cells])
      have := World.block_lt_of_cell? w _ hc
      simp [Value.ownBlock] at hg
      have e : (ad.add 0).block = ad.block := by unfold Addr.add; split <;> rfl
      omega

/-- The three rows: names, times, what is kept; each in a block of its own, and none of them the table's. -/
structure Rows3 (w : World) (d mb : Nat) (T : List (ByteArray × Sl)) (N : List ByteArray) (Z : List Int) (H : List Ent) (nv tv hv : Value) (wr : World) : Prop where
  rn : Row wr 9 1 nv N.length (strs N)
  rt : Row wr 3 1 tv Z.length (zints Z)
  rh : Row wr 40 2 hv H.length (owns H)
  own : ∀ g, (nv.ownBlock = some g ∨ tv.ownBlock = some g ∨ hv.ownBlock = some g) → w.heap.size ≤ g ∧ g ≠ d ∧ g ≠ mb ∧ ∀ p ∈ T, p.2.v.ownBlock ≠ some g
  nt : ∀ g, nv.ownBlock = some g → tv.ownBlock ≠ some g
  nh : ∀ g, nv.ownBlock = some g → hv.ownBlock ≠ some g
  th : ∀ g, tv.ownBlock = some g → hv.ownBlock ≠ some g

/-- All that stands in memory. -/
structure LastR (w : World) (d mb most : Nat) (T : List (ByteArray × Sl)) (cnt : Nat) (N : List ByteArray) (Z : List Int) (H : List Ent) (nv tv hv : Value) (wr : World) : Prop where
  tab : TabAt wr d mb T cnt most
  ne : ∀ p ∈ T, p.2.l ≠ []
  rows : Rows3 w d mb T N Z H nv tv hv wr
  ext : Ext w wr
  new : w.heap.size ≤ d ∧ w.heap.size ≤ mb

theorem LastR.ext' {w wr w1 : World} {d mb most cnt : Nat} {T : List (ByteArray × Sl)} {N : List ByteArray} {Z : List Int} {H : List Ent} {nv tv hv : Value} (h : LastR w d mb most T cnt N Z H nv tv hv wr) (hx : Ext wr w1) : LastR w d mb most T cnt N Z H nv tv hv w1 :=
  ⟨h.tab.ext hx, h.ne, ⟨h.rows.rn.ext hx, h.rows.rt.ext hx, h.rows.rh.ext hx, h.rows.own, h.rows.nt, h.rows.nh, h.rows.th⟩, h.ext.trans hx, h.new⟩

section
variable {w wr w1 w2 : World} {d mb most cnt k : Nat} {T : List (ByteArray × Sl)} {N : List ByteArray} {Z : List Int} {H : List Ent} {nv tv hv v' : Value}
theorem LastR.tlt (h : LastR w d mb most T cnt N Z H nv tv hv wr) : ∀ p ∈ T, ∀ g, p.2.v.ownBlock = some g → g < wr.heap.size :=
  fun p hp g hg => psrc_lt (h.tab.ok p hp).1.1 (h.ne p hp) hg

/-- A block of one row turns, or a new one comes. -/
theorem LastR.addN {s : ByteArray} (h : LastR w d mb most T cnt N Z H nv tv hv wr) (ha : Appended wr 9 1 nv (N.length + 1) (strs N ++ strs [s]) v' w2) : LastR w d mb most T cnt (N ++ [s]) Z H v' tv hv w2 := by
  have hc : Chg (fun b => nv.ownBlock = some b) wr w2 := ha.chg
  have hl : ∀ g, v'.ownBlock = some g → nv.ownBlock = some g ∨ wr.heap.size ≤ g := fun g hg => by
    rcases ha.loc with e | e
    · exact .inl (by rw [← e]; exact hg)
    · rw [e] at hg; simp at hg; exact .inr (by omega)
  have hR := h.rows
  have hd := h.tab.lt
  have hm := h.tab.map.lt
  refine ⟨h.tab.chg hc (fun e => (hR.own d (.inl e)).2.1 rfl) (fun e => (hR.own mb (.inl e)).2.2.1 rfl) (fun p hp g hg e => (hR.own g (.inl e)).2.2.2 p hp hg), h.ne, ⟨?_, hR.rt.chg hc (fun g hg e => hR.nt g e hg), hR.rh.chg hc (fun g hg e => hR.nh g e hg), fun g hg => ?_, fun g hg e => ?_, fun g hg e => ?_, hR.th⟩, ?_, h.new⟩
  · have := ha.row
    rw [show strs (N ++ [s]) = strs N ++ strs [s] by simp [strs], List.length_append]; exact this
  · rcases hg with hg | hg
    · rcases hl g hg with e | e
      · exact hR.own g (.inl e)
      · have := h.ext.size
        exact ⟨by omega, by omega, by omega, fun p hp e2 => by have := h.tlt p hp g e2; omega⟩
    · exact hR.own g (.inr hg)
  · rcases hl g hg with e2 | e2
    · exact hR.nt g e2 e
    · have := hR.rt.lt e; omega
  · rcases hl g hg with e2 | e2
    · exact hR.nh g e2 e
    · have := hR.rh.lt e; omega
  · exact ((Chg.of_ext (S := fun b => nv.ownBlock = some b) h.ext).trans hc (fun _ _ e => e)).ext (fun i hi e => by have := (hR.own i (.inl e)).1; omega)
theorem LastR.addT {z : Int} (h : LastR w d mb most T cnt N Z H nv tv hv wr) (ha : Appended wr 3 1 tv (Z.length + 1) (zints Z ++ zints [z]) v' w2) : LastR w d mb most T cnt N (Z ++ [z]) H nv v' hv w2 := by
  have hc : Chg (fun b => tv.ownBlock = some b) wr w2 := ha.chg
  have hl : ∀ g, v'.ownBlock = some g → tv.ownBlock = some g ∨ wr.heap.size ≤ g := fun g hg => by
    rcases ha.loc with e | e
    · exact .inl (by rw [← e]; exact hg)
    · rw [e] at hg; simp at hg; exact .inr (by omega)
  have hR := h.rows
  have hd := h.tab.lt
  have hm := h.tab.map.lt
  refine ⟨h.tab.chg hc (fun e => (hR.own d (.inr (.inl e))).2.1 rfl) (fun e => (hR.own mb (.inr (.inl e))).2.2.1 rfl) (fun p hp g hg e => (hR.own g (.inr (.inl e))).2.2.2 p hp hg), h.ne, ⟨hR.rn.chg hc (fun g hg e => hR.nt g hg e), ?_, hR.rh.chg hc (fun g hg e => hR.th g e hg), fun g hg => ?_, fun g hg e => ?_, hR.nh, fun g hg e => ?_⟩, ?_, h.new⟩
  · have := ha.row
    rw [show zints (Z ++ [z]) = zints Z ++ zints [z] by simp [zints], List.length_append]; exact this
  · rcases hg with hg | hg | hg
    · exact hR.own g (.inl hg)
    · rcases hl g hg with e | e
      · exact hR.own g (.inr (.inl e))
      · have := h.ext.size
        exact ⟨by omega, by omega, by omega, fun p hp e2 => by have := h.tlt p hp g e2; omega⟩
    · exact hR.own g (.inr (.inr hg))
  · rcases hl g e with e2 | e2
    · exact hR.nt g hg e2
    · have := hR.rn.lt hg; omega
  · rcases hl g hg with e2 | e2
    · exact hR.th g e2 e
    · have := hR.rh.lt e; omega
  · exact ((Chg.of_ext (S := fun b => tv.ownBlock = some b) h.ext).trans hc (fun _ _ e => e)).ext (fun i hi e => by have := (hR.own i (.inr (.inl e))).1; omega)
theorem LastR.addH {x : Ent} (h : LastR w d mb most T cnt N Z H nv tv hv wr) (ha : Appended wr 40 2 hv (H.length + 1) (owns H ++ owns [x]) v' w2) : LastR w d mb most T cnt N Z (H ++ [x]) nv tv v' w2 := by
  have hc : Chg (fun b => hv.ownBlock = some b) wr w2 := ha.chg
  have hl : ∀ g, v'.ownBlock = some g → hv.ownBlock = some g ∨ wr.heap.size ≤ g := fun g hg => by
    rcases ha.loc with e | e
    · exact .inl (by rw [← e]; exact hg)
    · rw [e] at hg; simp at hg; exact .inr (by omega)
  have hR := h.rows
  have hd := h.tab.lt
  have hm := h.tab.map.lt
  refine ⟨h.tab.chg hc (fun e => (hR.own d (.inr (.inr e))).2.1 rfl) (fun e => (hR.own mb (.inr (.inr e))).2.2.1 rfl) (fun p hp g hg e => (hR.own g (.inr (.inr e))).2.2.2 p hp hg), h.ne, ⟨hR.rn.chg hc (fun g hg e => hR.nh g hg e), hR.rt.chg hc (fun g hg e => hR.th g hg e), ?_, fun g hg => ?_, hR.nt, fun g hg e => ?_, fun g hg e => ?_⟩, ?_, h.new⟩
  · have := ha.row
    rw [owns_snoc, List.length_append]; exact this
  · rcases hg with hg | hg | hg
    · exact hR.own g (.inl hg)
    · exact hR.own g (.inr (.inl hg))
    · rcases hl g hg with e | e
      · exact hR.own g (.inr (.inr e))
      · have := h.ext.size
        exact ⟨by omega, by omega, by omega, fun p hp e2 => by have := h.tlt p hp g e2; omega⟩
  · rcases hl g e with e2 | e2
    · exact hR.nh g hg e2
    · have := hR.rn.lt hg; omega
  · rcases hl g e with e2 | e2
    · exact hR.th g hg e2
    · have := hR.rt.lt hg; omega
  · exact ((Chg.of_ext (S := fun b => hv.ownBlock = some b) h.ext).trans hc (fun _ _ e => e)).ext (fun i hi e => by have := (hR.own i (.inr (.inr e))).1; omega)
/-- The table turns. -/
theorem LastR.put {cnt' : Nat} {name : ByteArray} {s : Sl} (h : LastR w d mb most T cnt N Z H nv tv hv wr) (hc : Chg (fun b => b = d ∨ b = mb) wr w1) (ht : TabAt w1 d mb (aput T name s) cnt' most) (hne : s.l ≠ []) (hs : ∀ g, s.v.ownBlock = some g → wr.heap.size ≤ g) :
    LastR w d mb most (aput T name s) cnt' N Z H nv tv hv w1 := by
  have hR := h.rows
  have hn : ∀ g, (nv.ownBlock = some g ∨ tv.ownBlock = some g ∨ hv.ownBlock = some g) → ¬ (g = d ∨ g = mb) := fun g hg e => by
    have := hR.own g hg
    rcases e with e | e
    · exact this.2.1 e
    · exact this.2.2.1 e
  have hlt : ∀ g, (nv.ownBlock = some g ∨ tv.ownBlock = some g ∨ hv.ownBlock = some g) → g < wr.heap.size := fun g hg => by
    rcases hg with hg | hg | hg
    · exact hR.rn.lt hg
    · exact hR.rt.lt hg
    · exact hR.rh.lt hg
  refine ⟨ht, fun p hp => ?_, ⟨hR.rn.chg hc (fun g hg => hn g (.inl hg)), hR.rt.chg hc (fun g hg => hn g (.inr (.inl hg))), hR.rh.chg hc (fun g hg => hn g (.inr (.inr hg))), fun g hg => ⟨(hR.own g hg).1, (hR.own g hg).2.1, (hR.own g hg).2.2.1, fun p hp e => ?_⟩, hR.nt, hR.nh, hR.th⟩, ?_, h.new⟩
  · rcases mem_aput hp with rfl | hp
    · exact hne
    · exact h.ne p hp
  · rcases mem_aput hp with rfl | hp
    · have := hs g e
      have := hlt g hg
      omega
    · exact (hR.own g hg).2.2.2 p hp e
  · exact ((Chg.of_ext (S := fun b => b = d ∨ b = mb) h.ext).trans hc (fun _ _ e => e)).ext (fun i hi e => by have := h.new; omega)
end

/-! Three appends in one statement, in whatever order their slices are made. -/
structure Lit (wi : World) (b : Nat) (cs : Array Value) (t : TypeId) (nv tv hv : Value) : Prop where
  blk : wi.heap[b]? = some (.cells cs t (0, 0))
  n : nv.ownBlock ≠ some b
  t : tv.ownBlock ≠ some b
  h : hv.ownBlock ≠ some b
theorem Lit.ext {wi w' : World} {b : Nat} {cs : Array Value} {t : TypeId} {nv tv hv : Value} (h : Lit wi b cs t nv tv hv) (hx : Ext wi w') : Lit w' b cs t nv tv hv := ⟨(hx.block (block_lt h.blk)).trans h.blk, h.n, h.t, h.h⟩

structure ApS (w w3 : World) (d mb m k : Nat) (T : List (ByteArray × Sl)) (nm : ByteArray) (tt : Int) (x : Ent) (N : List ByteArray) (Z : List Int) (H : List Ent) (nv tv hv : Value) (bn bt bh : Option Nat) (wi : World) : Prop where
  chg : Chg (fun k => decide (w.heap.size ≤ k) = true) w3 wi
  r : LastR w d mb m T k N Z H nv tv hv wi
  ln : ∀ b, bn = some b → Lit wi b #[.string nm] 9 nv tv hv
  lt : ∀ b, bt = some b → Lit wi b #[.int .i64 tt] 3 nv tv hv
  lh : ∀ b, bh = some b → Lit wi b #[.int .i64 x.v, .int .i64 x.s] 40 nv tv hv

section
variable {w w3 wi w2 : World} {d mb m k b : Nat} {T : List (ByteArray × Sl)} {nm : ByteArray} {tt : Int} {x : Ent} {N : List ByteArray} {Z : List Int} {H : List Ent} {nv tv hv v' : Value} {bn bt bh : Option Nat}
theorem LastR.lit (h : LastR w d mb m T k N Z H nv tv hv wi) (cs : Array Value) (t : TypeId) : Lit (wi.alloc (.cells cs t (0, 0))) wi.heap.size cs t nv tv hv :=
  ⟨heap_alloc_new wi _, fun e => by have := h.rows.rn.lt e; omega, fun e => by have := h.rows.rt.lt e; omega, fun e => by have := h.rows.rh.lt e; omega⟩
theorem ApS.allocN (h : ApS w w3 d mb m k T nm tt x N Z H nv tv hv none bt bh wi) : ApS w w3 d mb m k T nm tt x N Z H nv tv hv (some wi.heap.size) bt bh (wi.alloc (.cells #[.string nm] 9 (0, 0))) :=
  ⟨h.chg.alloc _, h.r.ext' ((Ext.refl _).alloc _), (fun b e => by cases e; exact h.r.lit _ _), fun b e => (h.lt b e).ext ((Ext.refl _).alloc _), fun b e => (h.lh b e).ext ((Ext.refl _).alloc _)⟩
theorem ApS.allocT (h : ApS w w3 d mb m k T nm tt x N Z H nv tv hv bn none bh wi) : ApS w w3 d mb m k T nm tt x N Z H nv tv hv bn (some wi.heap.size) bh (wi.alloc (.cells #[.int .i64 tt] 3 (0, 0))) :=
  ⟨h.chg.alloc _, h.r.ext' ((Ext.refl _).alloc _), fun b e => (h.ln b e).ext ((Ext.refl _).alloc _), (fun b e => by cases e; exact h.r.lit _ _), fun b e => (h.lh b e).ext ((Ext.refl _).alloc _)⟩
theorem ApS.allocH (h : ApS w w3 d mb m k T nm tt x N Z H nv tv hv bn bt none wi) : ApS w w3 d mb m k T nm tt x N Z H nv tv hv bn bt (some wi.heap.size) (wi.alloc (.cells #[.int .i64 x.v, .int .i64 x.s] 40 (0, 0))) :=
  ⟨h.chg.alloc _, h.r.ext' ((Ext.refl _).alloc _), fun b e => (h.ln b e).ext ((Ext.refl _).alloc _), fun b e => (h.lt b e).ext ((Ext.refl _).alloc _), (fun b e => by cases e; exact h.r.lit _ _)⟩
theorem Lit.app {cs : Array Value} {t t' : TypeId} {size n : Nat} {v : Value} {xs : List Value} (h : Lit wi b cs t nv tv hv) (ha : Appended wi t' size v n xs v' w2) (hv' : v.ownBlock ≠ some b) : w2.heap[b]? = some (.cells cs t (0, 0)) ∧ v'.ownBlock ≠ some b :=
  ⟨(ha.chg.block b (block_lt h.blk) hv').trans h.blk, fun e => by
    rcases ha.loc with e2 | e2
    · exact hv' (e2 ▸ e)
    · rw [e2] at e; have := block_lt h.blk; simp at e; omega⟩
theorem ApS.appN (h : ApS w w3 d mb m k T nm tt x N Z H nv tv hv bn bt bh wi) (ha : Appended wi 9 1 nv (N.length + 1) (strs N ++ strs [nm]) v' w2) : ApS w w3 d mb m k T nm tt x (N ++ [nm]) Z H v' tv hv none bt bh w2 :=
  ⟨h.chg.trans ha.chg (fun i hi e => by have := (h.r.rows.own i (.inl e)).1; simpa using this), h.r.addN ha, (fun b e => by cases e),
    fun b e => ⟨((h.lt b e).app ha (h.lt b e).n).1, ((h.lt b e).app ha (h.lt b e).n).2, (h.lt b e).t, (h.lt b e).h⟩, fun b e => ⟨((h.lh b e).app ha (h.lh b e).n).1, ((h.lh b e).app ha (h.lh b e).n).2, (h.lh b e).t, (h.lh b e).h⟩⟩
theorem ApS.appT (h : ApS w w3 d mb m k T nm tt x N Z H nv tv hv bn bt bh wi) (ha : Appended wi 3 1 tv (Z.length + 1) (zints Z ++ zints [tt]) v' w2) : ApS w w3 d mb m k T nm tt x N (Z ++ [tt]) H nv v' hv bn none bh w2 :=
  ⟨h.chg.trans ha.chg (fun i hi e => by have := (h.r.rows.own i (.inr (.inl e))).1; simpa using this), h.r.addT ha,
    fun b e => ⟨((h.ln b e).app ha (h.ln b e).t).1, (h.ln b e).n, ((h.ln b e).app ha (h.ln b e).t).2, (h.ln b e).h⟩, (fun b e => by cases e), fun b e => ⟨((h.lh b e).app ha (h.lh b e).t).1, (h.lh b e).n, ((h.lh b e).app ha (h.lh b e).t).2, (h.lh b e).h⟩⟩
theorem ApS.appH (h : ApS w w3 d mb m k T nm tt x N Z H nv tv hv bn bt bh wi) (ha : Appended wi 40 2 hv (H.length + 1) (owns H ++ owns [x]) v' w2) : ApS w w3 d mb m k T nm tt x N Z (H ++ [x]) nv tv v' bn bt none w2 :=
  ⟨h.chg.trans ha.chg (fun i hi e => by have := (h.r.rows.own i (.inr (.inr e))).1; simpa using this), h.r.addH ha,
    fun b e => ⟨((h.ln b e).app ha (h.ln b e).h).1, (h.ln b e).n, (h.ln b e).t, ((h.ln b e).app ha (h.ln b e).h).2⟩, fun b e => ⟨((h.lt b e).app ha (h.lt b e).h).1, (h.lt b e).n, (h.lt b e).t, ((h.lt b e).app ha (h.lt b e).h).2⟩, (fun b e => by cases e)⟩
end
end Go.Proofs.Ytabnngcaohgppaa
