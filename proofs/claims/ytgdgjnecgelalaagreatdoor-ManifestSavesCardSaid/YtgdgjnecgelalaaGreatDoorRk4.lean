/- The document's disk: take; parts of slices of elements of some cells. -/
import Derived.Test.YtgdgjnecgelalaaGreatDoorRk2
namespace Go.Proofs.YtgdgjnecgelalaaGreatDoor
open Go.RowKit Go.Sort Go.Lib

/-- The address of a part of elements of s cells. -/
def cutT (s : Nat) (a : Option Addr) (m l : Nat) : Option Addr := if m = l then a else a.map (·.add (l * s))
section
variable {P : Program} {t e : TypeId} {s : Nat}
theorem run_cut_hi (hu : P.underlying t = some (.slice e)) (hs : ∀ W, (sizeOf e).run P W = .ok s W) (a : Option Addr) (n c h : Nat) (h2 : h ≤ c) :
    ∀ W, (Instr.slice t (.slice a n c) none (some (.int .i64 (h : Int))) none).run P W = .ok (.slice (cutT s a c 0) h c) W := fun W => by
  simp [Instr.slice, Instr.sliceBounds, Instr.sliceBound, run_underlying hu, asIntOf, Sem.run_bind, Result.andThen, hs, h2, cutT]
theorem run_cut_lo (hu : P.underlying t = some (.slice e)) (hs : ∀ W, (sizeOf e).run P W = .ok s W) (a : Option Addr) (n c l : Nat) (h1 : l ≤ n) :
    ∀ W, (Instr.slice t (.slice a n c) (some (.int .i64 (l : Int))) none none).run P W = .ok (.slice (cutT s a c l) (n - l) (c - l)) W := fun W => by
  simp [Instr.slice, Instr.sliceBounds, Instr.sliceBound, run_underlying hu, asIntOf, Sem.run_bind, Result.andThen, hs, h1, cutT]
theorem run_cutAt_hi (hu : P.underlying t = some (.slice e)) (hs : ∀ W, (sizeOf e).run P W = .ok s W) (a : Option Addr) (n c h : Nat) (h2 : h ≤ c) :
    ∀ W, (Instr.sliceAt t (.slice a n c) none (some (.int .i64 (h : Int))) none).run P W = .ok (.slice (cutT s a c 0) h c) W := fun W => by
  simp [Instr.sliceAt, Instr.slice, Instr.sliceBounds, Instr.sliceBound, run_underlying hu, asIntOf, Sem.run_bind, Result.andThen, hs, h2, cutT]
theorem run_cutAt_lo (hu : P.underlying t = some (.slice e)) (hs : ∀ W, (sizeOf e).run P W = .ok s W) (a : Option Addr) (n c l : Nat) (h1 : l ≤ n) :
    ∀ W, (Instr.sliceAt t (.slice a n c) (some (.int .i64 (l : Int))) none none).run P W = .ok (.slice (cutT s a c l) (n - l) (c - l)) W := fun W => by
  simp [Instr.sliceAt, Instr.slice, Instr.sliceBounds, Instr.sliceBound, run_underlying hu, asIntOf, Sem.run_bind, Result.andThen, hs, h1, cutT]
end
theorem src_cutT {w : World} {s : Nat} {a : Option Addr} {n c l h : Nat} {xs : List Value} (hs : Src w s (.slice a n c) n xs) (h1 : l ≤ h) (h2 : h ≤ n) (h3 : n ≤ c) (h0 : 0 < s) :
    Src w s (.slice (cutT s a c l) (h - l) (c - l)) (h - l) ((xs.drop (l * s)).take ((h - l) * s)) := by
  rcases hs with ⟨e, rfl, rfl⟩ | ⟨ad, c', e, hl, hc, ho⟩
  · simp at e
    obtain ⟨rfl, rfl⟩ := e
    obtain rfl : h = 0 := by omega
    obtain rfl : l = 0 := by omega
    exact .inl ⟨by simp [cutT], by omega, by simp⟩
  · simp at e
    obtain ⟨rfl, rfl⟩ := e
    refine .inr ⟨if c = l then ad else ad.add (l * s), c - l, ?_, ?_, fun j u hj => ?_, fun u hu => ho u (List.mem_of_mem_drop (List.mem_of_mem_take hu))⟩
    · unfold cutT; split <;> rfl
    · rw [List.length_take, List.length_drop, hl, ← Nat.sub_mul]
      exact Nat.min_eq_left (Nat.mul_le_mul_right _ (by omega))
    · rw [List.getElem?_take] at hj
      split at hj
      · rename_i hlt
        rw [List.getElem?_drop] at hj
        have : c ≠ l := by
          intro e
          have : h - l = 0 := by omega
          rw [this] at hlt
          omega
        rw [if_neg this, Go.Deep.add_add]
        exact hc _ _ hj
      · cases hj

theorem rfs_drop (L : List RF) (k : Nat) : (rfs L).drop (k * 4) = rfs (L.drop k) := by
  induction k generalizing L with
  | zero => simp
  | succ k ih =>
    cases L with
    | nil => simp [rfs]
    | cons p l =>
      rw [show (k + 1) * 4 = k * 4 + 4 by omega]
      simpa [rfs, rfc] using ih l
theorem rfs_take (L : List RF) (k : Nat) : (rfs L).take (k * 4) = rfs (L.take k) := by
  induction k generalizing L with
  | zero => simp [rfs]
  | succ k ih =>
    cases L with
    | nil => simp [rfs]
    | cons p l =>
      rw [show (k + 1) * 4 = k * 4 + 4 by omega]
      simpa [rfs, rfc] using ih l
theorem RkRaw.cap {w : World} {rd : Nat} {room left ops : Int} {L : List RF} {la : Option Addr} {lc : Nat} (h : RkRaw w rd room left ops L la lc) : L.length ≤ lc := by
  obtain ⟨_, ⟨e, h0⟩ | ⟨g, cap, cur, e, _, hb, h1, h2, h3, h4⟩⟩ := h.row
  · simp at e; omega
  · simp only [Value.slice.injEq] at e
    obtain ⟨_, _, rfl⟩ := e
    omega
theorem RkRaw.src {w : World} {rd : Nat} {room left ops : Int} {L : List RF} {la : Option Addr} {lc : Nat} (h : RkRaw w rd room left ops L la lc) : Src w 4 (.slice la L.length lc) L.length (rfs L) := h.row.src (rfs_one _)
theorem size_rf (W : World) : (sizeOf 91).run Tryz.prog W = .ok 4 W := by kernel_rfl

/-- The row is another, new one. -/
theorem RkRaw.renew {w w' : World} {rd : Nat} {room left ops : Int} {L L' : List RF} {la la' : Option Addr} {lc lc' : Nat} (h : RkRaw w rd room left ops L la lc) (hx : Ext w w') (hL : ∀ f ∈ L', f ∈ L) (hr : Row w' 91 4 (.slice la' L'.length lc') L'.length (rfs L')) (ho : ∀ g, (Value.slice la' L'.length lc').ownBlock = some g → w.heap.size ≤ g) :
    RkTo w rd (.slice la L.length lc) room left ops L' (w'.setCell ⟨rd, 3, none⟩ (.slice la' L'.length lc')) := by
  have hlt := block_lt h.blk
  have hc2 := setCell_chg w' rd 3 (.slice la' L'.length lc')
  have hc : Chg (· = rd) w (w'.setCell ⟨rd, 3, none⟩ (.slice la' L'.length lc')) := (Chg.of_ext (S := (· = rd)) hx).trans hc2 (fun _ _ e => e)
  refine ⟨la', lc', ⟨?_, ?_, fun f hf => ?_, fun g hg => ?_⟩, hc.mono (fun _ _ e => .inl e), fun g hg => .inr (ho g hg)⟩
  · have := setCell_block (i := 3) ((hx.block hlt).trans h.blk) (.slice la' L'.length lc')
    simpa using this
  · exact hr.chg hc2 (fun g hg e => by have := ho g hg; omega)
  · have := (h.ok f (hL f hf)).chg hc (fun b e => .inl e)
    refine ⟨this.src, fun g hg => ⟨?_, (this.own g hg).2⟩, this.cap⟩
    have h1 := (h.ok f (hL f hf)).own g hg
    rintro (e | e)
    · exact h1.1 (.inl e)
    · have := ho g e; have := h1.2; omega
  · have := ho g hg; omega

set_option maxHeartbeats 16000000 in
set_option maxRecDepth 100000 in
theorem rk_take {w : World} {rd : Nat} {room left ops : Int} {L : List RF} {la : Option Addr} {lc : Nat} (h : RkRaw w rd room left ops L la lc) (hL : L.length ≤ 3000) (k : Nat) (hk : k < L.length) :
    Calls Tryz.prog 61 #[.pointer (some ⟨rd, 0, none⟩), .int .i64 (k : Int)] w fun e w' => e = .returned (.tuple #[]) ∧ RkTo w rd (.slice la L.length lc) room left ops (L.take k ++ L.drop (k + 1)) w' := by
  have H := Lib.hid h
  clear h
  have hcap := H.out.cap
  obtain ⟨n, hn⟩ : ∃ n, n = L.length := ⟨_, rfl⟩
  have HN := Lib.hid hn
  have hn2 : n ≤ 3000 := by omega
  have hk2 : k < n := by omega
  have hcap2 : n ≤ lc := by omega
  have HS0 := H.out.src
  have HL3 := H.out.lcell.1
  rw [← hn] at HS0 HL3
  have HSA : Hid (Src w 4 (.slice (cutT 4 la lc 0) k lc) k (rfs (L.take k))) := Lib.hid (by
    have := src_cutT (l := 0) (h := k) HS0 (by omega) (by omega) hcap2 (by decide)
    simpa [rfs_take] using this)
  have HSB : Hid (Src w 4 (.slice (cutT 4 la lc (k + 1)) (n - (k + 1)) (lc - (k + 1))) (n - (k + 1)) (rfs (L.drop (k + 1)))) := Lib.hid (by
    have := src_cutT (l := k + 1) (h := n) HS0 (by omega) (by omega) hcap2 (by decide)
    rw [rfs_drop, rfs_take, List.take_of_length_le (by simp; omega)] at this
    exact this)
  have hs1 := run_cut_hi (P := Tryz.prog) Tryz.underlying31 size_rf la n lc k (by omega)
  have hs2 := run_cutAt_hi (P := Tryz.prog) Tryz.underlying31 size_rf la n lc k (by omega)
  have hs3 := run_cut_lo (P := Tryz.prog) Tryz.underlying31 size_rf la n lc (k + 1) (by omega)
  have hs4 := run_cutAt_lo (P := Tryz.prog) Tryz.underlying31 size_rf la n lc (k + 1) (by omega)
  have hw1 : IntKind.i64.wrap ((k : Int) + 1) = ((k + 1 : Nat) : Int) := by rw [IntWalk.i64_in _ (by omega)]; omega
  obtain ⟨T, hT⟩ : ∃ T : Nat → Bool, T = fun _ => false := ⟨_, rfl⟩
  have f0 := cell_turned (T := T) HL3 (by rw [hT])
  have HT := Lib.hid hT
  clear hT hn HS0 HL3
  generalize cutT 4 la lc 0 = a1 at *
  generalize cutT 4 la lc (k + 1) = a2 at *
  generalize lc - (k + 1) = c2 at *
  obtain ⟨m, hm⟩ : ∃ m, m = n - (k + 1) := ⟨_, rfl⟩
  have hm2 : k + m ≤ 3000 := by omega
  have HM := Lib.hid hm
  rw [← hm] at HSB hs3 hs4
  clear hm
  go_enter Tryz.func61, Tryz.ntmps61
  refine wp_region_plan 19 (fun w' => ∃ p : Turned, w' = turned w T p.d p.f p.os) (.reads [0, 2, 3, 4, 5, 6, 7, 9, 10, 11, 12, 13, 14, 15] (.one 1 (.one 8 (.one 16 (.reads [17, 18] (.one 19 .done)))))) (by kernel_rfl) (by kernel_rfl) (fun _ _ dd _ _ hh => by cases dd <;> exact hh) ?_ ?_
  · exact turned_of_ext (Ext.drewN w 1)
  refine wpPlan_reads ?_
  simp only [pickOps, List.getElem?_cons_succ, List.getElem?_cons_zero]
  iterate 6 (go_big_quiet_step (fail))
  refine wpQuiet_slice rfl 31 (.tmp 9) none (some (.tmp 10)) rfl _ _ _ _ hs2 rfl rfl rfl ?_
  simp only [Act.put, List.setIfInBounds_toArray, List.set_cons_succ, List.set_cons_zero]
  iterate 6 (go_big_quiet_step (fail))
  refine wpQuiet_slice rfl 31 (.tmp 16) (some (.tmp 18)) none rfl _ _ _ _ hs4 rfl rfl rfl ?_
  simp only [Act.put, List.setIfInBounds_toArray, List.set_cons_succ, List.set_cons_zero]
  refine wpQuiet_nil ?_
  clear f0 hs1 hs2 hs3 hs4 hw1
  refine wpPlan_one ?_
  simp only [pickOps, List.getElem?_cons_succ, List.getElem?_cons_zero]
  go_wp2_with fail
  refine thenX_mk (turned_of_ext (((Ext.refl w).alloc _).drew)) (wpPlan_one ?_)
  generalize hW2 : World.drew (World.alloc _ _) = W2
  have HX2 : Hid (Ext w W2) := Lib.hid (by subst hW2; exact ((Ext.refl w).alloc _).drew)
  have HB2 : Hid (W2.heap[w.heap.size]? = some (.cells #[] 91 (0, 0))) := Lib.hid (by subst hW2; exact heap_alloc_new w _)
  clear hW2
  simp only [pickOps, List.getElem?_cons_succ, List.getElem?_cons_zero]
  refine wpList_append_to (n := 0) (m := k) elem_file rfl (.tmp 5) (.tmp 11) rfl rfl rfl (row_made HB2.out 4) (HSA.out.ext HX2.out) (by unfold maxLen; omega) (by omega) ?_
  intro v3 w3 happ
  obtain ⟨va3, vc3, rfl⟩ := happ.row.shape
  have HR3 : Hid (Row w3 91 4 (.slice va3 k vc3) k (rfs (L.take k))) := Lib.hid (by have := happ.row; simpa using this)
  have HX3 : Hid (Ext w w3) := Lib.hid (((Chg.of_ext HX2.out).trans happ.chg (fun _ _ e => e)).ext (fun i hi e => by
    have e2 : w.heap.size = i := Option.some.inj e
    omega))
  have HO3 : Hid (∀ g, (Value.slice va3 k vc3).ownBlock = some g → w.heap.size ≤ g) := Lib.hid (fun g hg => by
    have h1 := HX2.out.size
    rcases happ.loc with e | e
    · simp only [Nat.zero_add] at e; rw [e] at hg; have e2 : w.heap.size = g := Option.some.inj hg; omega
    · simp only [Nat.zero_add] at e; rw [e] at hg; simp at hg; omega)
  clear happ
  simp only [Nat.zero_add]
  go_wp2_with fail
  refine thenX_mk (turned_of_ext HX3.out) (wpPlan_one ?_)
  simp only [pickOps, List.getElem?_cons_succ, List.getElem?_cons_zero]
  refine wpList_append_to (n := k) (m := m) elem_file rfl (.tmp 12) (.tmp 19) rfl rfl rfl HR3.out (HSB.out.ext HX3.out) (by unfold maxLen; omega) (by omega) ?_
  intro v4 w4 happ
  obtain ⟨va4, vc4, rfl⟩ := happ.row.shape
  have HR4 : Hid (Row w4 91 4 (.slice va4 (k + m) vc4) (k + m) (rfs (L.take k ++ L.drop (k + 1)))) := Lib.hid (by have := happ.row; rw [rfs_append]; exact this)
  have HX4 : Hid (Ext w w4) := Lib.hid (((Chg.of_ext HX3.out).trans happ.chg (fun _ _ e => e)).ext (fun i hi e => by have := HO3.out _ e; omega))
  have HO4 : Hid (∀ g, (Value.slice va4 (k + m) vc4).ownBlock = some g → w.heap.size ≤ g) := Lib.hid (fun g hg => by
    have h1 := HX3.out.size
    rcases happ.loc with e | e
    · rw [e] at hg; exact HO3.out _ hg
    · rw [e] at hg; simp at hg; omega)
  clear happ
  go_wp2_with fail
  refine thenX_mk (turned_of_ext HX4.out) (wpPlan_reads ?_)
  simp only [pickOps, List.getElem?_cons_succ, List.getElem?_cons_zero]
  repeat (go_big_quiet_step (fail))
  refine wpQuiet_nil ?_
  refine wpPlan_one ?_
  have g0 : w4.cell? ⟨rd, 3, none⟩ = some (.slice la n lc) := by have := (H.out.ext HX4.out).lcell.1; rw [HN.out]; exact this
  have g1 : w4.frozen? ⟨rd, 3, none⟩ = false := (H.out.ext HX4.out).lcell.2
  simp only [pickOps, List.getElem?_cons_succ, List.getElem?_cons_zero]
  go_wp2_with fail
  refine thenX_last (wpPlan_done ?_)
  go_end0
  refine ⟨rfl, ?_⟩
  have e : k + m = (L.take k ++ L.drop (k + 1)).length := by
    rw [List.length_append, List.length_take, List.length_drop, HM.out, ← HN.out, Nat.min_eq_left (by omega)]
  have hR := HR4.out
  have hO := HO4.out
  rw [e] at hR hO ⊢
  refine H.out.renew HX4.out (fun f hf => ?_) hR hO
  rcases List.mem_append.1 hf with hf | hf
  · exact List.mem_of_mem_take hf
  · exact List.mem_of_mem_drop hf
end Go.Proofs.YtgdgjnecgelalaaGreatDoor

/-! The document's disk, as plain data; Append. -/

namespace Go.Proofs.YtgdgjnecgelalaaGreatDoor
open Go.RowKit Go.Sort Go.Lib

/-- The document's disk, that has the files of a disk. -/
def RkAt (w : World) (rd : Nat) (S : DiskS) (B : List Nat) : Prop :=
  ∃ L la lc, RkRaw w rd S.room S.left S.ops L la lc ∧ SortF (rdata L) S.files ∧ S.used = (sumR L : Nat) ∧ B = rfoot rd (.slice la L.length lc) L
theorem RkAt.chg {T : Nat → Prop} {w w' : World} {rd : Nat} {S : DiskS} {B : List Nat} (h : RkAt w rd S B) (hc : Chg T w w') (hn : ∀ b ∈ B, ¬ T b) : RkAt w' rd S B := by
  obtain ⟨L, la, lc, h1, h2, h3, rfl⟩ := h
  exact ⟨L, la, lc, h1.chg hc hn, h2, h3, rfl⟩
theorem RkAt.ext {w w' : World} {rd : Nat} {S : DiskS} {B : List Nat} (h : RkAt w rd S B) (hc : Ext w w') : RkAt w' rd S B :=
  h.chg (Chg.of_ext (S := fun _ => False) hc) (fun _ _ => id)
theorem RkAt.lt {w : World} {rd : Nat} {S : DiskS} {B : List Nat} (h : RkAt w rd S B) : ∀ b ∈ B, b < w.heap.size := by
  obtain ⟨L, la, lc, h1, h2, h3, rfl⟩ := h
  exact h1.lt
/-- What a call leaves. -/
def RkEnd (w : World) (rd : Nat) (B : List Nat) (S' : DiskS) (w' : World) : Prop :=
  ∃ B', RkAt w' rd S' B' ∧ Chg (· ∈ B) w w' ∧ ∀ b ∈ B', b ∈ B ∨ w.heap.size ≤ b
theorem RkEnd.same {w w' : World} {rd : Nat} {S : DiskS} {B : List Nat} (h : RkAt w rd S B) (hx : Ext w w') : RkEnd w rd B S w' :=
  ⟨B, h.ext hx, Chg.of_ext hx, fun _ hb => .inl hb⟩
def RkCall (w : World) (rd : Nat) (B : List Nat) (r : Int × DiskS) (e : Ending) (w' : World) : Prop := e = .returned (.int .i64 r.1) ∧ RkEnd w rd B r.2 w'

theorem RkTo.pre {w w0 w' : World} {rd : Nat} {V : Value} {room left ops : Int} {L' : List RF} (hx : Ext w w0) (h : RkTo w0 rd V room left ops L' w') : RkTo w rd V room left ops L' w' := by
  obtain ⟨la', lc', h1, h2, h3⟩ := h
  exact ⟨la', lc', h1, (Chg.of_ext (S := RkT rd V) hx).trans h2 (fun _ _ e => e), fun g hg => (h3 g hg).imp id (fun h => Nat.le_trans hx.size h)⟩
theorem RkTo.trans {w w1 w2 : World} {rd : Nat} {V : Value} {room left ops room2 left2 ops2 : Int} {L1 L2 : List RF} (h : RkTo w rd V room left ops L1 w1)
    (k : ∀ la lc, RkRaw w1 rd room left ops L1 la lc → RkTo w1 rd (.slice la L1.length lc) room2 left2 ops2 L2 w2) (hV : ∀ g, V.ownBlock = some g → g < w.heap.size) : RkTo w rd V room2 left2 ops2 L2 w2 := by
  obtain ⟨la, lc, h1, h2, h3⟩ := h
  obtain ⟨la', lc', r1, r2, r3⟩ := k la lc h1
  refine ⟨la', lc', r1, h2.trans r2 (fun i hi e => ?_), fun g hg => ?_⟩
  · rcases e with e | e
    · exact .inl e
    · rcases h3 i e with e | e
      · exact .inr e
      · omega
  · rcases r3 g hg with e | e
    · exact h3 g e
    · exact .inr (Nat.le_trans h2.size e)
theorem RkTo.head {w w1 w2 : World} {rd : Nat} {V : Value} {room left ops room2 left2 ops2 : Int} {L1 : List RF} (h : RkTo w rd V room left ops L1 w1)
    (k : ∀ la lc, RkRaw w1 rd room left ops L1 la lc → RkRaw w2 rd room2 left2 ops2 L1 la lc) (hc : Chg (· = rd) w1 w2) : RkTo w rd V room2 left2 ops2 L1 w2 := by
  obtain ⟨la, lc, h1, h2, h3⟩ := h
  exact ⟨la, lc, k la lc h1, h2.trans hc (fun _ _ e => .inl e), h3⟩
/-- From rows to plain data. -/
theorem RkTo.end' {w w' : World} {rd : Nat} {room left ops : Int} {L : List RF} {la : Option Addr} {lc : Nat} {L' : List RF} {S' : DiskS} (h : RkRaw w rd room left ops L la lc) (hT : RkTo w rd (.slice la L.length lc) S'.room S'.left S'.ops L' w')
    (hS : SortF (rdata L') S'.files) (hu : S'.used = (sumR L' : Nat)) (hf : ∀ f ∈ L', ∀ g, f.v.ownBlock = some g → (∃ f0 ∈ L, f0.v.ownBlock = some g) ∨ w.heap.size ≤ g) : RkEnd w rd (rfoot rd (.slice la L.length lc) L) S' w' := by
  obtain ⟨la', lc', h1, h2, h3⟩ := hT
  refine ⟨_, ⟨L', la', lc', h1, hS, hu, rfl⟩, h2.mono (fun _ _ e => rfoot_T e), fun b hb => ?_⟩
  rcases rfoot_cases hb with rfl | hb | ⟨f, hf', hb⟩
  · exact .inl (rfoot_head _ _ _)
  · exact (h3 b hb).imp rfoot_row id
  · rcases hf f hf' b hb with ⟨f0, h0, e⟩ | e
    · exact .inl (rfoot_file h0 e)
    · exact .inr e

/-- A file of the row is another. -/
theorem RkRaw.upd {w w' : World} {rd : Nat} {room left ops : Int} {L : List RF} {g lc : Nat} (h : RkRaw w rd room left ops L (some ⟨g, 0, none⟩) lc) (r : Nat) (x : RF) (hc : Chg (· = g) w w')
    (hr : Row w' 91 4 (.slice (some ⟨g, 0, none⟩) L.length lc) L.length (rfs (L.set r x))) (hx : FOk w (RkT rd (.slice (some ⟨g, 0, none⟩) L.length lc)) x) :
    RkTo w rd (.slice (some ⟨g, 0, none⟩) L.length lc) room left ops (L.set r x) w' := by
  have hgd : g ≠ rd := h.own g rfl
  have all : ∀ f ∈ L.set r x, FOk w (RkT rd (.slice (some ⟨g, 0, none⟩) L.length lc)) f := fun f hf => by
    rcases List.mem_or_eq_of_mem_set hf with hf | rfl
    · exact h.ok f hf
    · exact hx
  refine ⟨some ⟨g, 0, none⟩, lc, ⟨?_, ?_, fun f hf => ?_, ?_⟩, hc.mono (fun i _ e => by subst e; exact .inr rfl), fun b hb => ?_⟩
  · rw [List.length_set]; exact (hc.block rd (block_lt h.blk) (Ne.symm hgd)).trans h.blk
  · rw [List.length_set]; exact hr
  · rw [List.length_set]; exact (all f hf).chg hc (fun b e => .inr (by subst e; rfl))
  · rw [List.length_set]; exact h.own
  · rw [List.length_set] at hb; exact .inl hb
theorem set_same {α : Type} {l : List α} {i : Nat} {v : α} (h : l[i]? = some v) : l.set i v = l := by
  apply List.ext_getElem?
  intro j
  rw [List.getElem?_set]
  split
  · subst_vars
    obtain ⟨h1, _⟩ := List.getElem?_eq_some_iff.1 h
    rw [if_pos h1, h]
  · rfl
theorem rfs_cells {L : List RF} {k : Nat} {x : RF} (h : L[k]? = some x) : (rfs L)[k * 4]? = some (.string x.nm) ∧ (rfs L)[k * 4 + 1]? = some x.v ∧ (rfs L)[k * 4 + 2]? = some (.int .i64 (x.la : Int)) ∧ (rfs L)[k * 4 + 3]? = some (.bool x.sy) :=
  ⟨enc_at rfc_len L k x h 0 _ rfl, enc_at rfc_len L k x h 1 _ rfl, enc_at rfc_len L k x h 2 _ rfl, enc_at rfc_len L k x h 3 _ rfl⟩
/-- The row, behind a file's bytes are others. -/
theorem row_setB {w : World} {t : TypeId} {g n c r : Nat} {L : List RF} {x : RF} (h : Row w t 4 (.slice (some ⟨g, 0, none⟩) n c) n (rfs L)) (hx : L[r]? = some x) (a' : Option Addr) (n' c' : Nat) (bs' : List UInt8) :
    Row (w.setCell ⟨g, r * 4 + 1, none⟩ (.slice a' n' c')) t 4 (.slice (some ⟨g, 0, none⟩) n c) n (rfs (L.set r ⟨x.nm, a', n', c', bs', x.la, x.sy⟩)) := by
  obtain ⟨r1, _⟩ := World.ownsRow.stored h (r * 4 + 1) (.slice a' n' c')
  have e : rfs (L.set r ⟨x.nm, a', n', c', bs', x.la, x.sy⟩) = (rfs L).set (r * 4 + 1) (.slice a' n' c') := by
    obtain ⟨e0, e1, e2, e3⟩ := rfs_cells hx
    rw [rfs_set]
    simp only [RF.v]
    rw [set_same e0, set_same (i := r * 4 + 2), set_same (i := r * 4 + 3)]
    · rw [List.getElem?_set_ne (by omega)]; exact e3
    · rw [List.getElem?_set_ne (by omega)]; exact e2
  rw [e]; exact r1

/-- What of the files is put in. -/
theorem rdata_split (L : List RF) (k : Nat) (x : RF) : rdata (L.take k ++ x :: L.drop k) = (rdata L).take k ++ (x.nm, x.fs) :: (rdata L).drop k := by
  simp [rdata, List.map_take, List.map_drop]
theorem PutF.sortF {L L' : List RF} {x : RF} {F : Fs} (h : PutF L x L') (hF : SortF (rdata L) F) (hn : aget F x.nm = none) : SortF (rdata L') (aput F x.nm x.fs) ∧ sumR L' = sumR L + x.bs.length ∧ L'.length = L.length + 1 ∧ ∀ f ∈ L', f ∈ L ∨ f = x := by
  obtain ⟨k, hb, hlast⟩ := h
  have hk := hb.le
  refine ⟨?_, ?_, hb.len, fun f hf => ?_⟩
  · rw [hb.eq, rdata_split]
    refine hF.insert (by rw [rdata_len]; exact hk) hn (fun b hb' => ?_) (fun j y e hj => ?_)
    · unfold rdata at hb'
      rw [← List.map_drop] at hb'
      obtain ⟨f, hf, rfl⟩ := List.mem_map.1 hb'
      exact hb.gt f hf
    · unfold rdata at hj
      rw [List.getElem?_map] at hj
      obtain ⟨f, hf, rfl⟩ := Option.map_eq_some_iff.1 hj
      exact hlast j f e hf
  · have e1 := congrArg sumR (List.take_append_drop k L)
    have e2 : ∀ A B : List RF, sumR (A ++ B) = sumR A + sumR B := fun A B => by unfold sumR; rw [List.map_append, List.sum_append]
    have e3 : ∀ A : List RF, sumR (x :: A) = x.bs.length + sumR A := fun A => by simp [sumR]
    rw [e2] at e1
    rw [hb.eq, e2, e3]; omega
  · rw [hb.eq] at hf
    rcases List.mem_append.1 hf with hf | hf
    · exact .inl (List.mem_of_mem_take hf)
    · rcases List.mem_cons.1 hf with rfl | hf
      · exact .inr rfl
      · exact .inl (List.mem_of_mem_drop hf)
theorem rdata_set (L : List RF) (k : Nat) (x : RF) : rdata (L.set k x) = (rdata L).set k (x.nm, x.fs) := by
  unfold rdata; rw [List.map_set]
theorem sum_set {l : List Nat} {k a b : Nat} (h : l[k]? = some a) : (l.set k b).sum + a = l.sum + b := by
  induction l generalizing k with
  | nil => simp at h
  | cons y l ih =>
    cases k with
    | zero => simp at h; subst h; simp; omega
    | succ k =>
      have := ih (k := k) (by simpa using h)
      simp; omega
theorem sumR_set {L : List RF} {k : Nat} {y : RF} (h : L[k]? = some y) (x : RF) : sumR (L.set k x) + y.bs.length = sumR L + x.bs.length := by
  unfold sumR
  rw [List.map_set]
  exact sum_set (by rw [List.getElem?_map, h]; rfl)
end Go.Proofs.YtgdgjnecgelalaaGreatDoor
