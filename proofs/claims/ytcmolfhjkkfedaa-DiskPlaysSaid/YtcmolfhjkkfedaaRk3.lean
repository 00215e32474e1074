/- The document's disk: take; parts of slices of elements of some cells. -/
import Derived.Test.YtcmolfhjkkfedaaRk2
namespace Go.Proofs.Ytcmolfhjkkfedaa
open Go.RowKit Go.Sort Go.Lib

/-- The address of a part of elements of s cells. -/
def cutT (s : Nat) (a : Option Addr) (m l : Nat) : Option Addr := if m = l then a else a.map (·.add (l * s))
section
variable {P : Program} {t e : TypeId} {s : Nat}
theorem run_cut_hi (hu : P.underlying t = some (.slice e)) (hs : ∀ W, (sizeOf e).run P W = .ok s W) (a : Option Addr) (n c h : Nat) (h2 : h ≤ c) :
    ∀ W, (Instr.slice t (.slice a n c) none (some (.int .i64 (h : Int))) none).run P W = .ok (.slice (cutT s a c 0) h c) W := fun W => by
  simp [Instr.slice, Instr.sliceBounds, Instr.sliceBound, run_underlying hu, asIntOf, Sem.run_bind, Result.andThen, hs, h2, cutT]
theorem run_cut_lo (hu : P.underlying t = some (.slice e)) (hs : ∀ W, (sizeOf e).run P W = .ok s W) (a : Option Addr) (n c l : Nat) (h1 : l ≤ n) :
    ∀ W, (Instr.slice t (.slice a n c) (some (.int .i64 (l : Int))) none none).run P W = .ok (.slice (cutT s a c l) (n - l) (c - l)) W := fun W => by
  simp [Instr.slice, Instr.sliceBounds, Instr.sliceBound, run_underlying hu, asIntOf, Sem.run_bind, Result.andThen, hs, h1, cutT]
theorem run_cutAt_hi (hu : P.underlying t = some (.slice e)) (hs : ∀ W, (sizeOf e).run P W = .ok s W) (a : Option Addr) (n c h : Nat) (h2 : h ≤ c) :
    ∀ W, (Instr.sliceAt t (.slice a n c) none (some (.int .i64 (h : Int))) none).run P W = .ok (.slice (cutT s a c 0) h c) W := fun W => by
  simp [Instr.sliceAt, Instr.slice, Instr.sliceBounds, Instr.sliceBound, run_underlying hu, asIntOf, Sem.run_bind, Result.andThen, hs, h2, cutT]
theorem run_cutAt_lo (hu : P.underlying t = some (.slice e)) (hs : ∀ W, (sizeOf e).run P W = .ok s W) (a : Option Addr) (n c l : Nat) (h1 : l ≤ n) :
    ∀ W, (Instr.sliceAt t (.slice a n c) (some (.int .i64 (l : Int))) none none).run P W = .ok (.slice (cutT s a c l) (n - l) (c - l)) W := fun W => by
  simp [Instr.sliceAt, Instr.slice, Instr.sliceBounds, Instr.sliceBound, run_underlying hu, asIntOf, Sem.run_bind, Result.andThen, hs, h1, cutT]
end
section
variable {P : Program}
/-- A slice expression in a quiet region, taken by its law. -/
theorem wpQuiet_slice {ops : Array Oper} {C : World → Prop} {Q : Act → Prop} {o : Oper} {rest : List Oper} {a : Act} (hgd : o.guard = none) (ty : TypeId) (x : Operand) (lo hi : Option Operand) (ho : o.op = .slice ty x lo hi none) (v sv : Value) (lov hiv : Option Value)
    (hl : ∀ w, (Instr.sliceAt ty sv lov hiv none).run P w = .ok v w) (hx : a.eval x = sv) (hlo : lo.map a.eval = lov) (hhi : hi.map a.eval = hiv) (h : wpQuiet P ops C Q rest (a.put o.dst v)) : wpQuiet P ops C Q (o :: rest) a := by
  unfold wpQuiet
  rw [if_pos (by simp [Region.wanted, hgd])]
  refine ⟨v, fun w hw => ?_, h⟩
  subst hx hlo hhi
  unfold Oper.quietAt execOp
  simp only [ho, Option.map_none, Sem.run_bind, hl w, Result.andThen_ok, Sem.run_pure]
  exact ⟨rfl, rfl⟩
end
theorem src_cutT {w : World} {s : Nat} {a : Option Addr} {n c l h : Nat} {xs : List Value} (hs : Src w s (.slice a n c) n xs) (h1 : l ≤ h) (h2 : h ≤ n) (h3 : n ≤ c) (h0 : 0 < s) :
    Src w s (.slice (cutT s a c l) (h - l) (c - l)) (h - l) ((xs.drop (l * s)).take ((h - l) * s)) := by
  rcases hs with ⟨e, rfl, rfl⟩ | ⟨ad, c', e, hl, hc, ho⟩
  · simp at e
    obtain ⟨rfl, rfl⟩ := e
    obtain rfl : h = 0 := by omega
    obtain rfl : l = 0 := by omega
    exact .inl ⟨by simp [cutT], by omega, by simp⟩
  · simp at e
    obtain ⟨rfl, rfl⟩ := e
    refine .inr ⟨if c = l then ad else ad.add (l * s), c - l, ?_, ?_, fun j u hj => ?_, fun u hu => ho u (List.mem_of_mem_drop (List.mem_of_mem_take hu))⟩
    · unfold cutT; split <;> rfl
    · rw [List.length_take, List.length_drop, hl, ← Nat.sub_mul]
      exact Nat.min_eq_left (Nat.mul_le_mul_right _ (by omega))
    · rw [List.getElem?_take] at hj
      split at hj
      · rename_i hlt
        rw [List.getElem?_drop] at hj
        have : c ≠ l := by
          intro e
          have : h - l = 0 := by omega
          rw [this] at hlt
          omega
        rw [if_neg this, Go.Deep.add_add]
        exact hc _ _ hj
      · cases hj

theorem rfs_drop (L : List RF) (k : Nat) : (rfs L).drop (k * 4) = rfs (L.drop k) := by
  induction k generalizing L with
  | zero => simp
  | succ k ih =>
    cases L with
    | nil => simp [rfs]
    | cons p l =>
      rw [show (k + 1) * 4 = k * 4 + 4 by omega]
      simpa [rfs, rfc] using ih l
theorem rfs_take (L : List RF) (k : Nat) : (rfs L).take (k * 4) = rfs (L.take k) := by
  induction k generalizing L with
  | zero => simp [rfs]
  | succ k ih =>
    cases L with
    | nil => simp [rfs]
    | cons p l =>
      rw [show (k + 1) * 4 = k * 4 + 4 by omega]
      simpa [rfs, rfc] using ih l
theorem RkRaw.cap {w : World} {rd : Nat} {room left ops : Int} {L : List RF} {la : Option Addr} {lc : Nat} (h : RkRaw w rd room left ops L la lc) : L.length ≤ lc := by
  obtain ⟨_, ⟨e, h0⟩ | ⟨g, cap, cur, e, _, hb, h1, h2, h3, h4⟩⟩ := h.row
  · simp at e; omega
  · simp only [Value.slice.injEq] at e
    obtain ⟨_, _, rfl⟩ := e
    omega
theorem RkRaw.src {w : World} {rd : Nat} {room left ops : Int} {L : List RF} {la : Option Addr} {lc : Nat} (h : RkRaw w rd room left ops L la lc) : Src w 4 (.slice la L.length lc) L.length (rfs L) := h.row.src (rfs_one _)
theorem size_rf (W : World) : (sizeOf 68).run Try.prog W = .ok 4 W := by kernel_rfl

/-- The row is another, new one. -/
theorem RkRaw.renew {w w' : World} {rd : Nat} {room left ops : Int} {L L' : List RF} {la la' : Option Addr} {lc lc' : Nat} (h : RkRaw w rd room left ops L la lc) (hx : Ext w w') (hL : ∀ f ∈ L', f ∈ L) (hr : Row w' 68 4 (.slice la' L'.length lc') L'.length (rfs L')) (ho : ∀ g, (Value.slice la' L'.length lc').ownBlock = some g → w.heap.size ≤ g) :
    RkTo w rd (.slice la L.length lc) room left ops L' (w'.setCell ⟨rd, 3, none⟩ (.slice la' L'.length lc')) := by
  have hlt := block_lt h.blk
  have hc2 := setCell_chg w' rd 3 (.slice la' L'.length lc')
  have hc : Chg (· = rd) w (w'.setCell ⟨rd, 3, none⟩ (.slice la' L'.length lc')) := (Chg.of_ext (S := (· = rd)) hx).trans hc2 (fun _ _ e => e)
  refine ⟨la', lc', ⟨?_, ?_, fun f hf => ?_, fun g hg => ?_⟩, hc.mono (fun _ _ e => .inl e), fun g hg => .inr (ho g hg)⟩
  · have := setCell_block (i := 3) ((hx.block hlt).trans h.blk) (.slice la' L'.length lc')
    simpa using this
  · exact hr.chg hc2 (fun g hg e => by have := ho g hg; omega)
  · have := (h.ok f (hL f hf)).chg hc (fun b e => .inl e)
    refine ⟨this.src, fun g hg => ⟨?_, (this.own g hg).2⟩, this.cap⟩
    have h1 := (h.ok f (hL f hf)).own g hg
    rintro (e | e)
    · exact h1.1 (.inl e)
    · have := ho g e; have := h1.2; omega
  · have := ho g hg; omega

set_option maxHeartbeats 16000000 in
set_option maxRecDepth 100000 in
theorem rk_take {w : World} {rd : Nat} {room left ops : Int} {L : List RF} {la : Option Addr} {lc : Nat} (h : RkRaw w rd room left ops L la lc) (hL : L.length ≤ 3000) (k : Nat) (hk : k < L.length) :
    Calls Try.prog 33 #[.pointer (some ⟨rd, 0, none⟩), .int .i64 (k : Int)] w fun e w' => e = .returned (.tuple #[]) ∧ RkTo w rd (.slice la L.length lc) room left ops (L.take k ++ L.drop (k + 1)) w' := by
  have H := Lib.hid h
  clear h
  have hcap := H.out.cap
  obtain ⟨n, hn⟩ : ∃ n, n = L.length := ⟨_, rfl⟩
  have HN := Lib.hid hn
  have hn2 : n ≤ 3000 := by omega
  have hk2 : k < n := by omega
  have hcap2 : n ≤ lc := by omega
  have HS0 := H.out.src
  have HL3 := H.out.lcell.1
  rw [← hn] at HS0 HL3
  have HSA : Hid (Src w 4 (.slice (cutT 4 la lc 0) k lc) k (rfs (L.take k))) := Lib.hid (by
    have := src_cutT (l := 0) (h := k) HS0 (by omega) (by omega) hcap2 (by decide)
    simpa [rfs_take] using this)
  have HSB : Hid (Src w 4 (.slice (cutT 4 la lc (k + 1)) (n - (k + 1)) (lc - (k + 1))) (n - (k + 1)) (rfs (L.drop (k + 1)))) := Lib.hid (by
    have := src_cutT (l := k + 1) (h := n) HS0 (by omega) (by omega) hcap2 (by decide)
    rw [rfs_drop, rfs_take, List.take_of_length_le (by simp; omega)] at this
    exact this)
  have hs1 := run_cut_hi (P := Try.prog) Try.underlying41 size_rf la n lc k (by omega)
  have hs2 := run_cutAt_hi (P := Try.prog) Try.underlying41 size_rf la n lc k (by omega)
  have hs3 := run_cut_lo (P := Try.prog) Try.underlying41 size_rf la n lc (k + 1) (by omega)
  have hs4 := run_cutAt_lo (P := Try.prog) Try.underlying41 size_rf la n lc (k + 1) (by omega)
  have hw1 : IntKind.i64.wrap ((k : Int) + 1) = ((k + 1 : Nat) : Int) := by rw [IntWalk.i64_in _ (by omega)]; omega
  obtain ⟨T, hT⟩ : ∃ T : Nat → Bool, T = fun _ => false := ⟨_, rfl⟩
  have f0 := cell_turned (T := T) HL3 (by rw [hT])
  have HT := Lib.hid hT
  clear hT hn HS0 HL3
  generalize cutT 4 la lc 0 = a1 at *
  generalize cutT 4 la lc (k + 1) = a2 at *
  generalize lc - (k + 1) = c2 at *
  obtain ⟨m, hm⟩ : ∃ m, m = n - (k + 1) := ⟨_, rfl⟩
  have hm2 : k + m ≤ 3000 := by omega
  have HM := Lib.hid hm
  rw [← hm] at HSB hs3 hs4
  clear hm
  go_enter Try.func33, Try.ntmps33
  refine wp_region_plan 19 (fun w' => ∃ p : Turned, w' = turned w T p.d p.f p.os) (.reads [0, 2, 3, 4, 5, 6, 7, 9, 10, 11, 12, 13, 14, 15] (.one 1 (.one 8 (.one 16 (.reads [17, 18] (.one 19 .done)))))) (by kernel_rfl) (by kernel_rfl) (fun _ _ dd _ _ hh => by cases dd <;> exact hh) ?_ ?_
  · exact turned_of_ext (Ext.drewN w 1)
  refine wpPlan_reads ?_
  simp only [pickOps, List.getElem?_cons_succ, List.getElem?_cons_zero]
  iterate 6 (go_big_quiet_step (fail))
  refine wpQuiet_slice rfl 41 (.tmp 9) none (some (.tmp 10)) rfl _ _ _ _ hs2 rfl rfl rfl ?_
  simp only [Act.put, List.setIfInBounds_toArray, List.set_cons_succ, List.set_cons_zero]
  iterate 6 (go_big_quiet_step (fail))
  refine wpQuiet_slice rfl 41 (.tmp 16) (some (.tmp 18)) none rfl _ _ _ _ hs4 rfl rfl rfl ?_
  simp only [Act.put, List.setIfInBounds_toArray, List.set_cons_succ, List.set_cons_zero]
  refine wpQuiet_nil ?_
  clear f0 hs1 hs2 hs3 hs4 hw1
  refine wpPlan_one ?_
  simp only [pickOps, List.getElem?_cons_succ, List.getElem?_cons_zero]
  go_wp2_with fail
  refine thenX_mk (turned_of_ext (((Ext.refl w).alloc _).drew)) (wpPlan_one ?_)
  generalize hW2 : World.drew (World.alloc _ _) = W2
  have HX2 : Hid (Ext w W2) := Lib.hid (by subst hW2; exact ((Ext.refl w).alloc _).drew)
  have HB2 : Hid (W2.heap[w.heap.size]? = some (.cells #[] 68 (0, 0))) := Lib.hid (by subst hW2; exact heap_alloc_new w _)
  clear hW2
  simp only [pickOps, List.getElem?_cons_succ, List.getElem?_cons_zero]
  refine wpList_append_to (n := 0) (m := k) elem_file rfl (.tmp 5) (.tmp 11) rfl rfl rfl (row_made HB2.out 4) (HSA.out.ext HX2.out) (by unfold maxLen; omega) (by omega) ?_
  intro v3 w3 happ
  obtain ⟨va3, vc3, rfl⟩ := happ.row.shape
  have HR3 : Hid (Row w3 68 4 (.slice va3 k vc3) k (rfs (L.take k))) := Lib.hid (by have := happ.row; simpa using this)
  have HX3 : Hid (Ext w w3) := Lib.hid (((Chg.of_ext HX2.out).trans happ.chg (fun _ _ e => e)).ext (fun i hi e => by
    have e2 : w.heap.size = i := Option.some.inj e
    omega))
  have HO3 : Hid (∀ g, (Value.slice va3 k vc3).ownBlock = some g → w.heap.size ≤ g) := Lib.hid (fun g hg => by
    have h1 := HX2.out.size
    rcases happ.loc with e | e
    · simp only [Nat.zero_add] at e; rw [e] at hg; have e2 : w.heap.size = g := Option.some.inj hg; omega
    · simp only [Nat.zero_add] at e; rw [e] at hg; simp at hg; omega)
  clear happ
  simp only [Nat.zero_add]
  go_wp2_with fail
  refine thenX_mk (turned_of_ext HX3.out) (wpPlan_one ?_)
  simp only [pickOps, List.getElem?_cons_succ, List.getElem?_cons_zero]
  refine wpList_append_to (n := k) (m := m) elem_file rfl (.tmp 12) (.tmp 19) rfl rfl rfl HR3.out (HSB.out.ext HX3.out) (by unfold maxLen; omega) (by omega) ?_
  intro v4 w4 happ
  obtain ⟨va4, vc4, rfl⟩ := happ.row.shape
  have HR4 : Hid (Row w4 68 4 (.slice va4 (k + m) vc4) (k + m) (rfs (L.take k ++ L.drop (k + 1)))) := Lib.hid (by have := happ.row; rw [rfs_append]; exact this)
  have HX4 : Hid (Ext w w4) := Lib.hid (((Chg.of_ext HX3.out).trans happ.chg (fun _ _ e => e)).ext (fun i hi e => by have := HO3.out _ e; omega))
  have HO4 : Hid (∀ g, (Value.slice va4 (k + m) vc4).ownBlock = some g → w.heap.size ≤ g) := Lib.hid (fun g hg => by
    have h1 := HX3.out.size
    rcases happ.loc with e | e
    · rw [e] at hg; exact HO3.out _ hg
    · rw [e] at hg; simp at hg; omega)
  clear happ
  go_wp2_with fail
  refine thenX_mk (turned_of_ext HX4.out) (wpPlan_reads ?_)
  simp only [pickOps, List.getElem?_cons_succ, List.getElem?_cons_zero]
  repeat (go_big_quiet_step (fail))
  refine wpQuiet_nil ?_
  refine wpPlan_one ?_
  have g0 : w4.cell? ⟨rd, 3, none⟩ = some (.slice la n lc) := by have := (H.out.ext HX4.out).lcell.1; rw [HN.out]; exact this
  have g1 : w4.frozen? ⟨rd, 3, none⟩ = false := (H.out.ext HX4.out).lcell.2
  simp only [pickOps, List.getElem?_cons_succ, List.getElem?_cons_zero]
  go_wp2_with fail
  refine thenX_last (wpPlan_done ?_)
  go_end0
  refine ⟨rfl, ?_⟩
  have e : k + m = (L.take k ++ L.drop (k + 1)).length := by
    rw [List.length_append, List.length_take, List.length_drop, HM.out, ← HN.out, Nat.min_eq_left (by omega)]
  have hR := HR4.out
  have hO := HO4.out
  rw [e] at hR hO ⊢
  refine H.out.renew HX4.out (fun f hf => ?_) hR hO
  rcases List.mem_append.1 hf with hf | hf
  · exact List.mem_of_mem_take hf
  · exact List.mem_of_mem_drop hf
end Go.Proofs.Ytcmolfhjkkfedaa
