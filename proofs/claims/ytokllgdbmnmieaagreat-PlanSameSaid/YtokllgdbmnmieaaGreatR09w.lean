/- window.Sessions. -/
import Derived.Test.YtokllgdbmnmieaaGreatFtp
import Derived.Test.YtokllgdbmnmieaaGreatWop
import Derived.Test.YtokllgdbmnmieaaGreatR7m
import Derived.Test.YtokllgdbmnmieaaGreatEnc
import Derived.Test.YtokllgdbmnmieaaGreatRfv
import Derived.Test.YtokllgdbmnmieaaGreatWia
namespace Go.Proofs.YtokllgdbmnmieaaGreat
open Go.RowKit Go.Lib Go.Sort

theorem row_spot {w : World} {e : TypeId} {s b so n c : Nat} {xs : List Value} (h : Row w e s (.slice (some ⟨b, so, none⟩) n c) n xs) :
    (∀ i, w.frozen? ⟨b, i, none⟩ = false) ∧ ∀ j u, Row (w.setCell ⟨b, so + j, none⟩ u) e s (.slice (some ⟨b, so, none⟩) n c) n (xs.set j u) := by
  have h0 := h
  obtain ⟨hl, ⟨e', _⟩ | ⟨g', cap, cur, e', hb0, hb, _⟩⟩ := h
  · cases e'
  · simp only [Value.slice.injEq, Option.some.injEq, Addr.mk.injEq, and_true, true_and] at e'
    obtain ⟨⟨rfl, rfl⟩, rfl⟩ := e'
    refine ⟨fun i => free_of_block hb i, fun j u => ?_⟩
    rw [Nat.zero_add]
    exact (World.ownsRow.stored h0 j u).1

/-- What may be sessions' times. -/
def sesOk (gap : Int) (l : List Int) : Prop := (1 ≤ gap ∧ gap ≤ 1152921504606846976 ∧ l.all timeB = true) ∧ l.Pairwise (· ≤ ·)
def spPost (w : World) (gap : Int) (l : List Int) (e : Ending) (w' : World) : Prop :=
  (sesOk gap l ∧ ∃ v, e = .returned (.tuple #[v, .int .i64 0]) ∧ MadeTo w 124 2 v (spL gap l).length (sps (spL gap l)) w') ∨
  (¬ sesOk gap l ∧ e = .returned (.tuple #[.slice none 0 0, .int .i64 2]) ∧ Ext w w')

theorem spStep_len (gap : Int) (out : List (Int × Int)) (t : Int) : (spStep gap out t).length ≤ out.length + 1 := by
  unfold spStep
  split
  · split
    · simp
    · simp
  · simp
theorem spL_len (gap : Int) (l : List Int) : (spL gap l).length ≤ l.length := by
  refine snoc_ind (P := fun l => (spL gap l).length ≤ l.length) (by simp [spL]) ?_ l
  intro l t ih
  rw [spL_snoc]
  have := spStep_len gap (spL gap l) t
  simp
  omega
theorem sps_set (out : List (Int × Int)) (p : Nat) (x y : Int) (z : Int) (h : out[p]? = some (x, y)) : sps (out.set p (x, z)) = (sps out).set (p * 2 + 1) (.int .i64 z) := by
  induction out generalizing p with
  | nil => simp at h
  | cons q out ih =>
    cases p with
    | zero => simp at h; subst h; simp [sps, spc]
    | succ p =>
      have := ih p (by simpa using h)
      rw [show (p + 1) * 2 + 1 = p * 2 + 1 + 2 by omega]
      simpa [sps, spc] using this
theorem spStep_set {gap t : Int} {out : List (Int × Int)} {p : Nat} {s : Int × Int} (hp : p + 1 = out.length) (hs : out[p]? = some s) (h : t < s.2) : spStep gap out t = out.set p (s.1, t + gap) := by
  rcases List.eq_nil_or_concat out with e | ⟨pre, q, e⟩
  · subst e; simp at hp
  · rw [List.concat_eq_append] at e
    subst e
    simp at hp
    subst hp
    simp at hs
    subst hs
    unfold spStep
    simp [h]
theorem spStep_add {gap t : Int} {out : List (Int × Int)} (h : ∀ s p, p + 1 = out.length → out[p]? = some s → ¬ t < s.2) : spStep gap out t = out ++ [(t, t + gap)] := by
  rcases List.eq_nil_or_concat out with e | ⟨pre, q, e⟩
  · subst e; simp [spStep]
  · rw [List.concat_eq_append] at e
    subst e
    have := h q pre.length (by simp) (by simp)
    unfold spStep
    simp [this]

/-- So far. -/
structure SpR (w : World) (gap : Int) (l : List Int) (k : Nat) (va : Option Addr) (m vc : Nat) (wr : World) : Prop where
  made : MadeTo w 124 2 (.slice va m vc) m (sps (spL gap (l.take k))) wr
  len : (spL gap (l.take k)).length = m
  sort : (l.take k).Pairwise (· ≤ ·)

theorem take_sort {l : List Int} {k : Nat} {t : Int} (ht : l[k]? = some t) (hs : (l.take k).Pairwise (· ≤ ·)) (h : k = 0 ∨ ∃ p u, p + 1 = k ∧ l[p]? = some u ∧ u ≤ t) : (l.take (k + 1)).Pairwise (· ≤ ·) := by
  rw [List.take_add_one, ht]
  show (l.take k ++ [t]).Pairwise (· ≤ ·)
  rw [List.pairwise_append]
  refine ⟨hs, by simp, ?_⟩
  intro a ha b hb
  simp at hb
  subst hb
  rcases h with h | ⟨p, u, hp, hu, hut⟩
  · subst h; simp at ha
  · subst hp
    rw [List.take_add_one, hu] at hs ha
    have hs' : (l.take p ++ [u]).Pairwise (· ≤ ·) := hs
    have ha' : a ∈ l.take p ++ [u] := ha
    rw [List.pairwise_append] at hs'
    rcases List.mem_append.1 ha' with ha' | ha'
    · have := hs'.2.2 a ha' u (by simp); omega
    · simp at ha'; subst ha'; exact hut

end Go.Proofs.YtokllgdbmnmieaaGreat

/-! buckets.Sessions. -/

namespace Go.Proofs.YtokllgdbmnmieaaGreat
open Go.RowKit Go.Lib Go.Sort

/-- The address of a part of elements of s cells. -/
def cutS (s : Nat) (a : Option Addr) (m l : Nat) : Option Addr := if m = l then a else a.map (·.add (l * s))
theorem run_slice_lohiS {P : Program} {t e : TypeId} {s : Nat} (hu : P.underlying t = some (.slice e)) (hs : ∀ W, (sizeOf e).run P W = .ok s W) (a : Option Addr) (n c l h : Nat) (h1 : l ≤ h) (h2 : h ≤ c) :
    ∀ W, (Instr.slice t (.slice a n c) (some (.int .i64 (l : Int))) (some (.int .i64 (h : Int))) none).run P W = .ok (.slice (cutS s a c l) (h - l) (c - l)) W := fun W => by
  simp [Instr.slice, Instr.sliceBounds, Instr.sliceBound, run_underlying hu, asIntOf, Sem.run_bind, Result.andThen, hs, h1, h2, cutS]
theorem pts_drop (l : List Pt) (k : Nat) : (pts l).drop (k * 3) = pts (l.drop k) := by
  induction k generalizing l with
  | zero => simp
  | succ k ih =>
    cases l with
    | nil => simp [pts]
    | cons p l =>
      rw [show (k + 1) * 3 = k * 3 + 3 by omega]
      simpa [pts, Pt.cells] using ih l
theorem pts_take (l : List Pt) (k : Nat) : (pts l).take (k * 3) = pts (l.take k) := by
  induction k generalizing l with
  | zero => simp [pts]
  | succ k ih =>
    cases l with
    | nil => simp [pts]
    | cons p l =>
      rw [show (k + 1) * 3 = k * 3 + 3 by omega]
      simpa [pts, Pt.cells] using ih l
theorem psrc_cut {w : World} {a : Option Addr} {n c k h : Nat} {l : List Pt} (hs : Src w 3 (.slice a n c) n (pts l)) (h1 : k ≤ h) (h2 : h ≤ n) (h3 : n ≤ c) :
    Src w 3 (.slice (cutS 3 a c k) (h - k) (c - k)) (h - k) (pts ((l.drop k).take (h - k))) := by
  have hln := src_len hs
  rcases hs with ⟨e, rfl, e2⟩ | ⟨ad, c', e, hl, hc, ho⟩
  · simp at e
    obtain ⟨rfl, rfl⟩ := e
    obtain rfl : h = 0 := by omega
    obtain rfl : k = 0 := by omega
    exact .inl ⟨by simp [cutS], by omega, by simp [pts]⟩
  · simp at e
    obtain ⟨rfl, rfl⟩ := e
    refine .inr ⟨if c = k then ad else ad.add (k * 3), c - k, ?_, ?_, fun j u hj => ?_, pts_one _⟩
    · unfold cutS; split <;> rfl
    · rw [pts_len, List.length_take, List.length_drop]; congr 1; omega
    · rw [← pts_take, ← pts_drop, List.getElem?_take] at hj
      split at hj
      · rename_i hlt
        rw [List.getElem?_drop] at hj
        rw [if_neg (by omega), Go.Deep.add_add]
        exact hc _ _ hj
      · cases hj

/-- Where a group lies. -/
def gAt (gs : List (List Pt)) (j : Nat) : Nat := (gs.take j).flatten.length
theorem gAt_succ {gs : List (List Pt)} {j : Nat} {g : List Pt} (h : gs[j]? = some g) : gAt gs (j + 1) = gAt gs j + g.length := by
  unfold gAt
  rw [List.take_add_one, h]
  simp
theorem flat_split {gs : List (List Pt)} {j : Nat} {g : List Pt} (h : gs[j]? = some g) : gs.flatten = (gs.take j).flatten ++ (g ++ (gs.drop (j + 1)).flatten) := by
  obtain ⟨hj, e⟩ := List.getElem?_eq_some_iff.1 h
  conv => lhs; rw [← List.take_append_drop j gs]
  rw [List.flatten_append, List.drop_eq_getElem_cons hj, e, List.flatten_cons]
theorem grp_facts {gap : Int} {l : List Pt} {gs : List (List Pt)} (G : GrpOk gap l gs) (hgap : 1 ≤ gap) {j : Nat} {g : List Pt} (h : gs[j]? = some g) :
    gAt gs j + g.length ≤ l.length ∧ (l.drop (gAt gs j)).take g.length = g ∧ (∀ i p, i < g.length → l[gAt gs j + i]? = some p → p.t < gHi g + gap) ∧ (∀ q, l[gAt gs j + g.length]? = some q → ¬ q.t < gHi g + gap) := by
  have hs := flat_split h
  rw [G.flat] at hs
  have hgm := List.mem_of_getElem? h
  have e1 : gAt gs j = (gs.take j).flatten.length := rfl
  refine ⟨?_, ?_, ?_, ?_⟩
  · rw [e1, hs]; simp
  · rw [e1]
    conv => lhs; rw [hs]
    rw [List.drop_left, List.take_left]
  · intro i p hi hp
    rw [hs, e1, List.getElem?_append_right (by omega), Nat.add_sub_cancel_left, List.getElem?_append_left hi] at hp
    have := G.within g hgm p (List.mem_of_getElem? hp)
    omega
  · intro q hq
    rw [hs, e1, List.getElem?_append_right (by omega), Nat.add_sub_cancel_left, List.getElem?_append_right (by omega), Nat.sub_self] at hq
    cases hd : gs.drop (j + 1) with
    | nil => rw [hd] at hq; simp at hq
    | cons g' r =>
      have hg' : g' ∈ gs := List.mem_of_mem_drop (by rw [hd]; simp : g' ∈ gs.drop (j + 1))
      have hj' : gs[j + 1]? = some g' := by
        have := List.getElem?_drop (xs := gs) (i := j + 1) (j := 0)
        rw [hd] at this
        simpa using this.symm
      have hne := G.some g' hg'
      obtain ⟨i1, e1⟩ := List.getElem?_eq_some_iff.1 h
      obtain ⟨i2, e2⟩ := List.getElem?_eq_some_iff.1 hj'
      have hap := List.pairwise_iff_getElem.1 G.apart j (j + 1) i1 i2 (by omega)
      rw [e1, e2] at hap
      rw [hd] at hq
      cases g' with
      | nil => exact absurd rfl hne
      | cons x g' =>
        simp at hq
        subst hq
        simp [gLo] at hap
        omega

def bsPost (w : World) (gap : Int) (l : List Pt) (e : Ending) (w' : World) : Prop :=
  (sesOk gap (l.map (·.t)) ∧ ∃ v, e = .returned (.tuple #[v, .int .i64 0]) ∧ MadeTo w 77 13 v (sesL gap l).length (bks (sesL gap l)) w') ∨
  (¬ sesOk gap (l.map (·.t)) ∧ e = .returned (.tuple #[.slice none 0 0, .int .i64 2]) ∧ Ext w w')
theorem elem_i : ElemOk Tryz.prog 193 3 1 8 :=
  ⟨Tryz.underlying193, by
    obtain ⟨i0, hi, hz0, hz1, hz2⟩ := info_parts (show (Tryz.prog.info? 3).map (fun i => (i.zero, i.size, i.bytes)) = some (some (.int .i64 0), 1, 8) from by kernel_rfl)
    exact ⟨i0, _, hi, hz0, hz1, hz2, rfl⟩, by decide⟩
theorem src_i {W : World} {b : Nat} {z : Int} {t : TypeId} {fr : Nat × Nat} (h : W.heap[b]? = some (.cells #[.int .i64 z] t fr)) : Src W 1 (.slice (some ⟨b, 0, none⟩) 1 1) 1 [.int .i64 z] := by
  refine .inr ⟨_, _, rfl, rfl, fun j u hj => ?_, by simp [Value.oneCell']⟩
  rw [Go.WideShapes.add_plain, Nat.zero_add, cell_of_block h]
  simpa using hj
theorem size_pt (W : World) : (sizeOf 37).run Tryz.prog W = .ok 3 W := by kernel_rfl
theorem bk_ag (b : Bk) : bkc b = .int .i64 b.lo :: .int .i64 b.hi :: b.a.cells := rfl

end Go.Proofs.YtokllgdbmnmieaaGreat

/-! The document's aggr: of, Of, ahead. -/

namespace Go.Proofs.YtokllgdbmnmieaaGreat
open Go.RowKit Go.Lib Go.Sort

set_option maxHeartbeats 1000000 in
theorem rof_any (n : Int) (w : World) (h1 : -9223372036854775808 ≤ n) (h2 : n ≤ 9223372036854775807) :
    Calls Tryz.prog 93 #[.int .i64 n] w fun e w' => e = .returned (.agg (lmA n)) ∧ Ext w w' := by
  have HC := Lib.hid (fun W => limbs_any n W (by omega) (by omega))
  have e1 : n / 9223372036854775808 = n / 18446744073709551616 := by omega
  have e2 : IntKind.u64.wrap n = n % 18446744073709551616 := by rw [IntKind.wrap_u64]
  obtain ⟨hi, hhi⟩ : ∃ x, x = n / 18446744073709551616 := ⟨_, rfl⟩
  obtain ⟨lo, hlo⟩ : ∃ x, x = n % 18446744073709551616 := ⟨_, rfl⟩
  rw [← hhi] at e1 HC
  rw [← hlo] at e2 HC
  obtain ⟨A, hA⟩ : ∃ A, A = lmA n := ⟨_, rfl⟩
  rw [← hA] at HC ⊢
  have HA := Lib.hid hA
  clear hhi hlo hA h1 h2
  go_enter Tryz.func93, Tryz.ntmps93
  go_wp2_with fail
  refine (HC.out _).mono ?_
  rintro e w1 ⟨rfl, hx1⟩
  have HX1 := Lib.hid (((Ext.refl w).alloc (.cells #[.int .i64 0, .int .i64 0, .int .i64 0, .int .i64 0, .int .i64 0, .int .i64 0, .int .i64 0, .int .i64 0] 88 (0, 0))).trans hx1)
  have HZ1 := Lib.hid ((hx1.block (block_lt (heap_alloc_new w _))).trans (heap_alloc_new w (.cells #[.int .i64 0, .int .i64 0, .int .i64 0, .int .i64 0, .int .i64 0, .int .i64 0, .int .i64 0, .int .i64 0] 88 (0, 0))))
  clear hx1
  go_wp2_with (first | (refine wpList_store_box rfl _ _ _ rfl _ _ _ _ rfl rfl HZ1.out (by rw [HA.out]; rfl) (by rw [HA.out]; exact lm_info) (by rw [HA.out]; simp [lmA, Value.oneCell']) ?_; rintro w5 hb5 hc5; have HB5 := Lib.hid hb5; have HC5 := Lib.hid hc5; clear hb5 hc5))
  exact bodyPost_ret (results_box Tryz.results93 _ _ rfl HB5.out Tryz.underlying88 rfl (by rw [HA.out]; exact lm_info)) rfl ⟨rfl, ((Chg.of_ext (S := fun _ => False) HX1.out).trans HC5.out (fun i hi e => by omega)).ext (fun _ _ e => e)⟩

/-- What is told of points, as the document has it: its cells. -/
def agR (g : Ag) : Array Value := #[.int .i64 g.n, .int .i64 (g.s % 65536), .int .i64 (g.s / 65536 % 65536), .int .i64 (g.s / 4294967296 % 65536), .int .i64 (g.s / 281474976710656 % 65536),
  .int .i64 (g.s / 18446744073709551616 % 65536), .int .i64 (g.s / 1208925819614629174706176 % 65536), .int .i64 (g.s / 79228162514264337593543950336 % 65536), .int .i64 (g.s / 5192296858534827628530496329220096 % 65536),
  .int .i64 g.mn, .int .i64 g.mx, .int .i64 g.f.t, .int .i64 g.f.v, .int .i64 g.f.s, .int .i64 g.l.t, .int .i64 g.l.v, .int .i64 g.l.s]
theorem ar_info : (Tryz.prog.info? 90).map (·.size) = some 17 := by kernel_rfl
abbrev arZ : Obj := .cells #[.int .i64 0, .int .i64 0, .int .i64 0, .int .i64 0, .int .i64 0, .int .i64 0, .int .i64 0, .int .i64 0, .int .i64 0, .int .i64 0, .int .i64 0, .int .i64 0, .int .i64 0, .int .i64 0, .int .i64 0, .int .i64 0, .int .i64 0] 90 (0, 0)

set_option maxHeartbeats 2000000 in
set_option maxRecDepth 100000 in
theorem rOf_any (p : Pt) (w : World) (hv1 : -9223372036854775808 ≤ p.v) (hv2 : p.v ≤ 9223372036854775807) :
    Calls Tryz.prog 54 #[p.val] w fun e w' => e = .returned (.agg (agR (agOf p))) ∧ Ext w w' := by
  obtain ⟨pt, pv, ps⟩ := p
  unfold agOf Pt.val agR
  simp only at hv1 hv2 ⊢
  have HC := Lib.hid (fun W => rof_any pv W hv1 hv2)
  unfold lmA at HC
  obtain ⟨l0, h0⟩ : ∃ x, x = pv % 65536 := ⟨_, rfl⟩
  obtain ⟨l1, h1⟩ : ∃ x, x = pv / 65536 % 65536 := ⟨_, rfl⟩
  obtain ⟨l2, h2⟩ : ∃ x, x = pv / 4294967296 % 65536 := ⟨_, rfl⟩
  obtain ⟨l3, h3⟩ : ∃ x, x = pv / 281474976710656 % 65536 := ⟨_, rfl⟩
  obtain ⟨l4, h4⟩ : ∃ x, x = pv / 18446744073709551616 % 65536 := ⟨_, rfl⟩
  obtain ⟨l5, h5⟩ : ∃ x, x = pv / 1208925819614629174706176 % 65536 := ⟨_, rfl⟩
  obtain ⟨l6, h6⟩ : ∃ x, x = pv / 79228162514264337593543950336 % 65536 := ⟨_, rfl⟩
  obtain ⟨l7, h7⟩ : ∃ x, x = pv / 5192296858534827628530496329220096 % 65536 := ⟨_, rfl⟩
  rw [← h0, ← h1, ← h2, ← h3, ← h4, ← h5, ← h6, ← h7] at HC
  rw [← h0, ← h1, ← h2, ← h3, ← h4, ← h5, ← h6, ← h7]
  clear h0 h1 h2 h3 h4 h5 h6 h7 hv1 hv2
  go_enter Tryz.func54, Tryz.ntmps54
  go_wp2_with fail
  generalize hW : World.alloc _ _ = W
  have b0 : W.heap[w.heap.size]? = some (.cells #[.int .i64 pt, .int .i64 pv, .int .i64 ps] 37 (0, 0)) := by
    subst hW
    have h0 := heap_alloc_new w (.cells #[.int .i64 pt, .int .i64 pv, .int .i64 ps] 37 (0, 0))
    exact ((((Ext.refl _).alloc _).block (block_lt h0)).trans h0)
  have b1 : Hid (W.heap[w.heap.size + 1]? = some arZ) := Lib.hid (by
    subst hW
    exact heap_alloc2 w _ _)
  have HXW : Hid (Ext w W) := Lib.hid (by subst hW; exact (((Ext.refl w).alloc _).alloc _))
  clear hW
  have f0 := cell_turned (T := fun _ => false) (show W.cell? ⟨w.heap.size, 0, none⟩ = some (.int .i64 pt) by have := cell_of_block b0 0; simpa using this) rfl
  have f1 := cell_turned (T := fun _ => false) (show W.cell? ⟨w.heap.size, 1, none⟩ = some (.int .i64 pv) by have := cell_of_block b0 1; simpa using this) rfl
  have f2 := cell_turned (T := fun _ => false) (show W.cell? ⟨w.heap.size, 2, none⟩ = some (.int .i64 ps) by have := cell_of_block b0 2; simpa using this) rfl
  clear b0
  refine wp_region_plan 9 (fun w' => ∃ p : Turned, w' = turned W (fun _ => false) p.d p.f p.os) (.reads [0, 1, 3, 4, 5, 6, 7, 8] (.one 2 (.one 9 (.one 10 .done)))) (by kernel_rfl) (by kernel_rfl) (fun _ _ dd _ _ hh => by cases dd <;> exact hh) ?_ ?_
  · exact turned_of_ext (Ext.drewN W 1)
  refine wpPlan_reads ?_
  simp only [pickOps, List.getElem?_cons_succ, List.getElem?_cons_zero]
  repeat (go_big_quiet_step (fail))
  refine wpQuiet_nil ?_
  clear f0 f1 f2
  refine wpPlan_one ?_
  simp only [pickOps, List.getElem?_cons_succ, List.getElem?_cons_zero]
  go_wp2_with fail
  refine (HC.out _).mono ?_
  rintro e w1 ⟨rfl, hx1⟩
  have HX1 := Lib.hid ((Ext.drewN W 1).trans hx1)
  clear hx1 HC
  go_wp2_with fail
  refine thenX_mk (turned_of_ext HX1.out) (wpPlan_one ?_)
  simp only [pickOps, List.getElem?_cons_succ, List.getElem?_cons_zero]
  go_wp2_with fail
  refine thenX_last (wpPlan_one ?_)
  simp only [pickOps, List.getElem?_cons_succ, List.getElem?_cons_zero]
  have B2 := Lib.hid ((HX1.out.block (block_lt b1.out)).trans b1.out)
  clear b1
  refine wpList_store_box rfl _ _ _ rfl _ _ _ _ rfl rfl B2.out rfl (by kernel_rfl) (by simp [Value.oneCell']) ?_
  rintro w2 hb2 hc2
  have HX2 := Lib.hid (((Chg.of_ext (HXW.out.trans HX1.out)).trans hc2 (fun _ _ e => e)).ext (fun i hi e => by omega))
  have HB2 := Lib.hid hb2
  clear hb2 hc2
  go_wp2_with fail
  refine thenX_last (wpPlan_done ?_)
  go_wp2_with fail
  exact bodyPost_ret (results_box Tryz.results54 _ _ rfl HB2.out Tryz.underlying90 rfl (by kernel_rfl)) rfl ⟨rfl, HX2.out⟩

theorem ordI_lt (p q : Pt) : ordI p q < 0 ↔ (p.t < q.t ∨ (p.t = q.t ∧ (p.s < q.s ∨ (p.s = q.s ∧ p.v < q.v)))) := by
  unfold ordI orL orL orL orL cmpI
  split <;> split <;> (try split) <;> (try split) <;> omega

theorem ordI_zero (p q : Pt) : ordI p q = 0 ↔ (p.t = q.t ∧ p.s = q.s ∧ p.v = q.v) := by
  unfold ordI orL orL orL orL cmpI
  split <;> split <;> (try split) <;> (try split) <;> omega

set_option maxHeartbeats 2000000 in
theorem ahead_any (p q : Pt) (w : World) : Calls Tryz.prog 116 #[p.val, q.val] w fun e w' => e = .returned (.bool (decide (ordI p q < 0))) ∧ Ext w w' := by
  have HO := Lib.hid (ordI_lt p q)
  obtain ⟨pt, pv, ps⟩ := p
  obtain ⟨qt, qv, qs⟩ := q
  simp only at HO
  obtain ⟨Z, hZ⟩ : ∃ Z, Z = ordI ⟨pt, pv, ps⟩ ⟨qt, qv, qs⟩ := ⟨_, rfl⟩
  rw [← hZ] at HO ⊢
  clear hZ
  unfold Pt.val
  by_cases h1 : pt = qt
  case' pos => by_cases h2 : ps = qs
  case' neg => skip
  all_goals
    go_enter Tryz.func116, Tryz.ntmps116
    go_wp2_with fail
    go_ret
    have h := HO.out
    refine ⟨congrArg Ending.returned (congrArg Value.bool (decide_eq_decide.2 (Iff.trans ?_ h.symm))), ((Ext.refl w).alloc _).alloc _⟩
    omega
end Go.Proofs.YtokllgdbmnmieaaGreat

/-! The document's aggr: Merge, where the first one has no points. -/

namespace Go.Proofs.YtokllgdbmnmieaaGreat
open Go.RowKit Go.Lib Go.Sort

set_option maxHeartbeats 1000000 in
set_option maxRecDepth 100000 in
theorem rMerge_none (a b : Ag) (w : World) (ha : a.n = 0) (hb : 1 ≤ b.n) :
    Calls Tryz.prog 92 #[.agg (agR a), .agg (agR b)] w fun e w' => e = .returned (.tuple #[.agg (agR b), .int .i64 0]) ∧ Ext w w' := by
  obtain ⟨an, asu, amn, amx, ⟨aft, afv, afs⟩, ⟨alt, alv, als⟩⟩ := a
  obtain ⟨bn, bsu, bmn, bmx, ⟨bft, bfv, bfs⟩, ⟨blt, blv, bls⟩⟩ := b
  unfold agR
  simp only at ha hb ⊢
  subst ha
  obtain ⟨a0, ha0⟩ : ∃ x, x = asu % 65536 := ⟨_, rfl⟩
  obtain ⟨a1, ha1⟩ : ∃ x, x = asu / 65536 % 65536 := ⟨_, rfl⟩
  obtain ⟨a2, ha2⟩ : ∃ x, x = asu / 4294967296 % 65536 := ⟨_, rfl⟩
  obtain ⟨a3, ha3⟩ : ∃ x, x = asu / 281474976710656 % 65536 := ⟨_, rfl⟩
  obtain ⟨a4, ha4⟩ : ∃ x, x = asu / 18446744073709551616 % 65536 := ⟨_, rfl⟩
  obtain ⟨a5, ha5⟩ : ∃ x, x = asu / 1208925819614629174706176 % 65536 := ⟨_, rfl⟩
  obtain ⟨a6, ha6⟩ : ∃ x, x = asu / 79228162514264337593543950336 % 65536 := ⟨_, rfl⟩
  obtain ⟨a7, ha7⟩ : ∃ x, x = asu / 5192296858534827628530496329220096 % 65536 := ⟨_, rfl⟩
  obtain ⟨b0, hb0⟩ : ∃ x, x = bsu % 65536 := ⟨_, rfl⟩
  obtain ⟨b1, hb1⟩ : ∃ x, x = bsu / 65536 % 65536 := ⟨_, rfl⟩
  obtain ⟨b2, hb2⟩ : ∃ x, x = bsu / 4294967296 % 65536 := ⟨_, rfl⟩
  obtain ⟨b3, hb3⟩ : ∃ x, x = bsu / 281474976710656 % 65536 := ⟨_, rfl⟩
  obtain ⟨b4, hb4⟩ : ∃ x, x = bsu / 18446744073709551616 % 65536 := ⟨_, rfl⟩
  obtain ⟨b5, hb5⟩ : ∃ x, x = bsu / 1208925819614629174706176 % 65536 := ⟨_, rfl⟩
  obtain ⟨b6, hb6⟩ : ∃ x, x = bsu / 79228162514264337593543950336 % 65536 := ⟨_, rfl⟩
  obtain ⟨b7, hb7⟩ : ∃ x, x = bsu / 5192296858534827628530496329220096 % 65536 := ⟨_, rfl⟩
  rw [← ha0, ← ha1, ← ha2, ← ha3, ← ha4, ← ha5, ← ha6, ← ha7, ← hb0, ← hb1, ← hb2, ← hb3, ← hb4, ← hb5, ← hb6, ← hb7]
  clear ha0 ha1 ha2 ha3 ha4 ha5 ha6 ha7 hb0 hb1 hb2 hb3 hb4 hb5 hb6 hb7
  have h1 : ¬ bn < 0 := by omega
  have h2 : ¬ bn = 0 := by omega
  go_enter Tryz.func92, Tryz.ntmps92
  go_wp2_with fail
  exact bodyPost_ret (results_box_tmp Tryz.results92 _ _ rfl (heap_alloc3 w _ _ _) Tryz.underlying90 rfl (by kernel_rfl)) rfl ⟨rfl, (((Ext.refl w).alloc _).alloc _).alloc _⟩

end Go.Proofs.YtokllgdbmnmieaaGreat

/-! The document's windows: tidemillref09.time, first, Of. -/

namespace Go.Proofs.YtokllgdbmnmieaaGreat
open Go.RowKit Go.Lib Go.Sort

theorem elem_rspan : ElemOk Tryz.prog 138 141 2 16 :=
  ⟨Tryz.underlying138, by
    obtain ⟨i0, hi, hz0, hz1, hz2⟩ := info_parts (show (Tryz.prog.info? 141).map (fun i => (i.zero, i.size, i.bytes)) = some (some (.agg #[.int .i64 0, .int .i64 0]), 2, 16) from by kernel_rfl)
    exact ⟨i0, _, hi, hz0, hz1, hz2, rfl⟩, by decide⟩

set_option maxHeartbeats 1000000 in
theorem rtime_any (t : Int) (w : World) : Calls Tryz.prog 96 #[.int .i64 t] w fun e w' => e = .returned (.bool (timeB t)) ∧ w = w' := by
  have HE : Hid (timeB t = (decide (-1152921504606846976 ≤ t) && decide (t ≤ 1152921504606846976))) := Lib.hid rfl
  by_cases h1 : -1152921504606846976 ≤ t
  · by_cases h2 : t ≤ 1152921504606846976
    · have HB : Hid (timeB t = true) := Lib.hid (by rw [HE.out]; simp [h1, h2])
      go_enter Tryz.func96, Tryz.ntmps96
      go_wp2_with fail
      go_ret
      rw [HB.out]
      exact ⟨rfl, rfl⟩
    · have HB : Hid (timeB t = false) := Lib.hid (by rw [HE.out]; simp [h1, h2])
      go_enter Tryz.func96, Tryz.ntmps96
      go_wp2_with fail
      go_ret
      rw [HB.out]
      exact ⟨rfl, rfl⟩
  · have HB : Hid (timeB t = false) := Lib.hid (by rw [HE.out]; simp [h1])
    go_enter Tryz.func96, Tryz.ntmps96
    go_wp2_with fail
    go_ret
    rw [HB.out]
    exact ⟨rfl, rfl⟩

/-- On its way back: so many steps behind the first one. -/
theorem first_step {wd st off t f : Int} (h1 : 1 ≤ st) (h2 : st ≤ wd) (hf : ∃ c, f = off + st * c ∧ firstF wd st off t ≤ f ∧ f ≤ lastF st off t) :
    (f = firstF wd st off t ∧ f - st + wd ≤ t) ∨ (t < f - st + wd ∧ ∃ c, f - st = off + st * c ∧ firstF wd st off t ≤ f - st ∧ f - st ≤ lastF st off t) := by
  obtain ⟨c, hc, hlo, hhi⟩ := hf
  have e1 := lastF_eq st off t
  have e2 := firstF_eq wd st off t
  have q3 := Int.mul_ediv_self_le (x := t - wd - off) (k := st) (by omega)
  have q4 := Int.lt_mul_ediv_self_add (x := t - wd - off) (k := st) (by omega)
  obtain ⟨A, hA⟩ : ∃ A, A = (t - wd - off) / st := ⟨_, rfl⟩
  rw [← hA] at e2 q3 q4
  rcases Int.lt_or_le (A + 1) c with h | h
  · right
    have m1 : st * (A + 1) ≤ st * (c - 1) := Int.mul_le_mul_of_nonneg_left (by omega) (by omega)
    rw [Int.mul_add, Int.mul_one, Int.mul_sub, Int.mul_one] at m1
    exact ⟨by omega, c - 1, by rw [Int.mul_sub, Int.mul_one]; omega, by omega, by omega⟩
  · left
    have m1 : st * c ≤ st * (A + 1) := Int.mul_le_mul_of_nonneg_left h (by omega)
    rw [Int.mul_add, Int.mul_one] at m1
    exact ⟨by omega, by omega⟩
theorem first_bnd {wd st off t : Int} (h1 : 1 ≤ st) (h2 : st ≤ wd) (h3 : wd ≤ 1099511627776) (h4 : 0 ≤ off) (h5 : off < st) (t1 : -1152921504606846976 ≤ t) (t2 : t ≤ 1152921504606846976) :
    -2305843009213693952 ≤ firstF wd st off t ∧ firstF wd st off t ≤ lastF st off t ∧ lastF st off t ≤ t ∧ t < lastF st off t + st ∧ ∃ c, lastF st off t = off + st * c := by
  have m0 := Int.emod_nonneg (t - wd - off) (show st ≠ 0 by omega)
  have m1 := Int.emod_lt_of_pos (t - wd - off) (show 0 < st by omega)
  have m2 := Int.emod_nonneg (t - off) (show st ≠ 0 by omega)
  have m3 := Int.emod_lt_of_pos (t - off) (show 0 < st by omega)
  obtain ⟨x, hx⟩ : ∃ x, winN wd st off t = x + 1 := ⟨_, rfl⟩
  have e1 := lastF_eq st off t
  have e2 := firstF_eq wd st off t
  have q1 := Int.mul_ediv_self_le (x := t - off) (k := st) (by omega)
  have q2 := Int.lt_mul_ediv_self_add (x := t - off) (k := st) (by omega)
  have q3 := Int.mul_ediv_self_le (x := t - wd - off) (k := st) (by omega)
  have q4 := Int.lt_mul_ediv_self_add (x := t - wd - off) (k := st) (by omega)
  obtain ⟨B, hB⟩ : ∃ B, B = (t - off) / st := ⟨_, rfl⟩
  obtain ⟨A, hA⟩ : ∃ A, A = (t - wd - off) / st := ⟨_, rfl⟩
  rw [← hB] at e1 q1 q2
  rw [← hA] at e2 q3 q4
  have hAB : A + 1 ≤ B := by
    have h3 : st * (A + 1) < st * (B + 1) := by rw [Int.mul_add, Int.mul_add]; omega
    have := Int.lt_of_mul_lt_mul_left h3 (by omega)
    omega
  have hm : st * (A + 1) ≤ st * B := Int.mul_le_mul_of_nonneg_left hAB (by omega)
  rw [Int.mul_add, Int.mul_one] at hm
  refine ⟨?_, by omega, by omega, by omega, B, e1⟩
  unfold firstF lastF
  omega

set_option maxHeartbeats 2000000 in
set_option maxRecDepth 100000 in
theorem rfirst_any (wd st off t : Int) (w : World) (h1 : 1 ≤ st) (h2 : st ≤ wd) (h3 : wd ≤ 1099511627776) (h4 : 0 ≤ off) (h5 : off < st) (t1 : -1152921504606846976 ≤ t) (t2 : t ≤ 1152921504606846976) :
    Calls Tryz.prog 97 #[.int .i64 wd, .int .i64 st, .int .i64 off, .int .i64 t] w fun e w' => e = .returned (.int .i64 (firstF wd st off t)) ∧ w = w' := by
  have HB := Lib.hid (first_bnd h1 h2 h3 h4 h5 t1 t2)
  have HS := Lib.hid (fun f hf => first_step (wd := wd) (off := off) (t := t) (f := f) h1 h2 hf)
  have hm0 := Int.emod_nonneg (t - off) (show st ≠ 0 by omega)
  have hm1 := Int.emod_lt_of_pos (t - off) (show 0 < st by omega)
  have HL : Hid (t - (t - off) % st = lastF st off t) := Lib.hid rfl
  obtain ⟨F, hF⟩ : ∃ F, F = firstF wd st off t := ⟨_, rfl⟩
  obtain ⟨L, hL⟩ : ∃ L, L = lastF st off t := ⟨_, rfl⟩
  rw [← hF, ← hL] at HB HS
  rw [← hL] at HL
  rw [← hF]
  clear hF hL
  go_enter Tryz.func97, Tryz.ntmps97
  go_wp2_with fail
  refine (refMod_any (t - off) st _ h1 (by omega) (by omega) (by omega)).mono ?_
  rintro e w1 ⟨rfl, rfl⟩
  obtain ⟨m, hm⟩ : ∃ m, m = (t - off) % st := ⟨_, rfl⟩
  rw [← hm] at hm0 hm1 HL ⊢
  clear hm
  go_wp2_with fail
  rw [HL.out]
  go_loop [11] (fun s11 => ∃ f : Int, s11 = .int .i64 f ∧ Hid (∃ c, f = off + st * c ∧ F ≤ f ∧ f ≤ L)) (fun s11 => (RowKit.intOf s11 - F).toNat)
  case atStart => exact ⟨L, rfl, Lib.hid (by obtain ⟨c, hc⟩ := HB.out.2.2.2.2; exact ⟨c, hc, HB.out.2.1, Int.le_refl _⟩)⟩
  case round =>
    obtain ⟨f, rfl, HI⟩ := hrel
    have hb1 : F ≤ f := by obtain ⟨c, _, h, _⟩ := HI.out; exact h
    have hb2 : f ≤ L := by obtain ⟨c, _, _, h⟩ := HI.out; exact h
    have hb3 := HB.out.1
    have hb4 := HB.out.2.2.1
    rcases HS.out f HI.out with ⟨hf, hx⟩ | ⟨hx, hc⟩
    · go_wp2_with fail
      go_ret
      exact ⟨by rw [← hf]; rfl, rfl⟩
    · have HC := Lib.hid hc
      have hb5 : F ≤ f - st := by obtain ⟨c, _, h, _⟩ := hc; exact h
      clear hc
      go_wp2_with fail
      go_round
      case rel => exact ⟨f - st, rfl, HC⟩
      case measure => simp [RowKit.intOf]; omega
end Go.Proofs.YtokllgdbmnmieaaGreat

/-! The document's windows: tidemillref09.Of where the kind and the time may be. -/

namespace Go.Proofs.YtokllgdbmnmieaaGreat
open Go.RowKit Go.Lib Go.Sort

/-- The next window has the time, just if it is one of so many. -/
theorem of_step {wd st off t : Int} (h1 : 1 ≤ st) (h2 : st ≤ wd) (h3 : wd ≤ 1099511627776) (h4 : 0 ≤ off) (h5 : off < st) (t1 : -1152921504606846976 ≤ t) (t2 : t ≤ 1152921504606846976) (k : Nat) :
    (k < winN wd st off t ↔ firstF wd st off t + (k : Int) * st ≤ t) ∧ (k ≤ winN wd st off t → firstF wd st off t + (k : Int) * st ≤ t + st) := by
  obtain ⟨b0, b1, b2, b3, _⟩ := first_bnd h1 h2 h3 h4 h5 t1 t2
  have e1 := lastF_eq st off t
  have e2 := firstF_eq wd st off t
  obtain ⟨B, hB⟩ : ∃ B, B = (t - off) / st := ⟨_, rfl⟩
  obtain ⟨A, hA⟩ : ∃ A, A = (t - wd - off) / st := ⟨_, rfl⟩
  rw [← hB] at e1
  rw [← hA] at e2
  have hN : winN wd st off t = (B - A - 1).toNat + 1 := by
    unfold winN
    rw [e1, e2]
    have : ((off + st * B - (off + st * A + st)) : Int) = (B - A - 1) * st := by rw [Int.sub_mul, Int.sub_mul, Int.mul_comm B, Int.mul_comm A]; omega
    rw [this, Int.mul_ediv_cancel _ (by omega)]
  have hAB : A + 1 ≤ B := by
    have h3 : st * (A + 1) < st * (B + 1) := by rw [Int.mul_add, Int.mul_add]; omega
    have := Int.lt_of_mul_lt_mul_left h3 (by omega)
    omega
  have hL : lastF st off t = firstF wd st off t + (B - A - 1) * st := by
    rw [e1, e2, Int.sub_mul, Int.sub_mul, Int.mul_comm B, Int.mul_comm A]; omega
  rw [hN]
  refine ⟨⟨fun h => ?_, fun h => ?_⟩, fun h => ?_⟩
  · have : (k : Int) * st ≤ (B - A - 1) * st := Int.mul_le_mul_of_nonneg_right (by omega) (by omega)
    omega
  · rcases Nat.lt_or_ge k ((B - A - 1).toNat + 1) with h6 | h6
    · exact h6
    · have : (B - A) * st ≤ (k : Int) * st := Int.mul_le_mul_of_nonneg_right (by omega) (by omega)
      rw [Int.sub_mul, Int.one_mul] at hL
      omega
  · have : (k : Int) * st ≤ (B - A) * st := Int.mul_le_mul_of_nonneg_right (by omega) (by omega)
    rw [Int.sub_mul, Int.one_mul] at hL
    omega

set_option maxHeartbeats 2000000 in
set_option maxRecDepth 100000 in
theorem rof09_any (wd st off t : Int) (w : World) (hv : windowB wd st off = true) (ht : timeB t = true) :
    Calls Tryz.prog 91 #[.int .i64 wd, .int .i64 st, .int .i64 off, .int .i64 t] w fun e w' => ∃ v, e = .returned (.tuple #[v, .int .i64 0]) ∧ MadeTo w 141 2 v (winN wd st off t) (sps (winL wd st off t)) w' := by
  have HV := Lib.hid (window_nums hv)
  have HT := Lib.hid (time_nums ht)
  have HST := Lib.hid (fun k => of_step (wd := wd) (st := st) (off := off) (t := t) HV.out.2.2.1 HV.out.2.2.2.1 HV.out.2.1 HV.out.2.2.2.2.2.1 HV.out.2.2.2.2.2.2 HT.out.1 HT.out.2 k)
  have HFB := Lib.hid (first_bnd (wd := wd) (st := st) (off := off) (t := t) HV.out.2.2.1 HV.out.2.2.2.1 HV.out.2.1 HV.out.2.2.2.2.2.1 HV.out.2.2.2.2.2.2 HT.out.1 HT.out.2)
  have HW := Lib.hid hv
  have HTT := Lib.hid ht
  have HN : Hid (winN wd st off t ≤ 64) := Lib.hid (winN_le hv)
  have HFC := Lib.hid (fun W => rfirst_any wd st off t W HV.out.2.2.1 HV.out.2.2.2.1 HV.out.2.1 HV.out.2.2.2.2.2.1 HV.out.2.2.2.2.2.2 HT.out.1 HT.out.2)
  unfold winL
  obtain ⟨F, hF⟩ : ∃ F, F = firstF wd st off t := ⟨_, rfl⟩
  obtain ⟨N, hN⟩ : ∃ N, N = winN wd st off t := ⟨_, rfl⟩
  simp only [← hF, ← hN] at HST HFB HFC HN
  rw [← hF, ← hN]
  clear hv ht hF hN
  go_enter Tryz.func91, Tryz.ntmps91
  go_wp2_with fail
  refine (refWin_any wd st off _).mono ?_
  rw [HW.out]
  rintro e w1 ⟨rfl, rfl⟩
  go_wp2_with fail
  refine (rtime_any t _).mono ?_
  rw [HTT.out]
  rintro e w1 ⟨rfl, rfl⟩
  go_wp2_with fail
  refine (HFC.out _).mono ?_
  rintro e w1 ⟨rfl, rfl⟩
  go_wp2_with fail
  go_loopw [10, 11] (fun s10 s11 wr => ∃ (k vc : Nat) (va : Option Addr) (f : Int), k ≤ N ∧ f = F + (k : Int) * st ∧ s10 = .slice va k vc ∧ s11 = .int .i64 f ∧ Hid (MadeTo w 141 2 (.slice va k vc) k (sps (spansL k F wd st)) wr)) (fun _ s11 _ => (t + 1 + st - RowKit.intOf s11).toNat)
  case atStart => exact ⟨0, 0, none, F, by omega, by omega, rfl, rfl, Lib.hid ⟨Row.nil _ _ _, fun g hg => by simp [Value.ownBlock] at hg, Ext.refl w⟩⟩
  case round =>
    obtain ⟨k, vc, va, f, hk, hf, rfl, rfl, HM⟩ := hrel
    have hst := HST.out k
    rw [← hf] at hst
    have HFF := Lib.hid hf
    have HK := Lib.hid hk
    clear hf
    by_cases hkN : k < N
    · have hft := hst.1.1 hkN
      have hb := HFB.out.1
      have ht := HT.out
      have hv2 := HV.out
      have hfl : F ≤ f := by
        rw [HFF.out]
        have : 0 ≤ (k : Int) * st := Int.mul_nonneg (by omega) (by omega)
        omega
      have g1 : -9223372036854775808 ≤ f + wd := by omega
      have g2 : f + wd ≤ 9223372036854775807 := by omega
      have g3 : -9223372036854775808 ≤ f + st := by omega
      have g4 : f + st ≤ 9223372036854775807 := by omega
      have hk64 : k ≤ 64 := by have := HN.out; omega
      have HFS : Hid (f + st = F + ((k + 1 : Nat) : Int) * st) := Lib.hid (by rw [HFF.out, Int.natCast_add, Int.add_mul]; simp; omega)
      have HME : Hid (f ≤ t ∧ 1 ≤ st) := Lib.hid ⟨hft, by omega⟩
      clear hst hb ht hv2 hfl hk
      go_wp2_with (first | (refine wpList_append_start elem_rspan rfl _ _ rfl rfl rfl (Start.row ((HM.out.row).alloc _) HM.out.own) (HM.out.ext.alloc _) (src_new wr #[.int .i64 f, .int .i64 (f + wd)] 141 2 1 (0, 0) rfl (by simp [Value.oneCell'])) (by omega) (by unfold maxLen; omega) (by omega) ?_; rintro v' w5 ha; obtain ⟨va', vc', rfl⟩ := ha.row.shape; have HA := Lib.hid ha; clear ha))
      refine ⟨⟨k + 1, vc', va', f + st, hkN, HFS.out, rfl, by go_num, Lib.hid ?_⟩, ?_⟩
      · rw [spansL_succ, sps_append, ← HFF.out]; exact HA.out
      · have := HME.out
        simp [RowKit.intOf]; omega
    · have hft : ¬ f ≤ t := fun h => hkN (hst.1.2 h)
      have hkn : k = N := by omega
      clear hst
      go_wp2_with fail
      go_ret2
      refine ⟨_, rfl, ?_⟩
      rw [← hkn]
      exact HM.out
end Go.Proofs.YtokllgdbmnmieaaGreat

/-! The document's sessions of times: tidemillref09.Sessions. -/

namespace Go.Proofs.YtokllgdbmnmieaaGreat
open Go.RowKit Go.Lib Go.Sort

def rspPost (w : World) (gap : Int) (l : List Int) (e : Ending) (w' : World) : Prop :=
  (sesOk gap l ∧ ∃ v, e = .returned (.tuple #[v, .int .i64 0]) ∧ MadeTo w 141 2 v (spL gap l).length (sps (spL gap l)) w') ∨
  (¬ sesOk gap l ∧ e = .returned (.tuple #[.slice none 0 0, .int .i64 2]) ∧ Ext w w')
/-- So far. -/
structure RpR (w : World) (gap : Int) (l : List Int) (k : Nat) (va : Option Addr) (m vc : Nat) (wr : World) : Prop where
  made : MadeTo w 141 2 (.slice va m vc) m (sps (spL gap (l.take k))) wr
  len : (spL gap (l.take k)).length = m

end Go.Proofs.YtokllgdbmnmieaaGreat

/-! The document's windows of a span: tidemillref09.All. -/

namespace Go.Proofs.YtokllgdbmnmieaaGreat
open Go.RowKit Go.Lib Go.Sort

theorem all_step {wd st off fr tO : Int} (hv : windowB wd st off = true) (h : fr < tO) (k : Nat) : (k < allN wd st off fr tO ↔ firstF wd st off fr + (k : Int) * st < tO) ∧ (k ≤ allN wd st off fr tO → firstF wd st off fr + (k : Int) * st ≤ tO + st) := by
  obtain ⟨v1, v2, v3, v4, v5, v6, v7⟩ := window_nums hv
  obtain ⟨q, hq1, hq2, _⟩ := all_count hv h
  have e := lastF_eq st off (tO - 1)
  have m0 := Int.emod_nonneg (tO - 1 - off) (show st ≠ 0 by omega)
  have m1 := Int.emod_lt_of_pos (tO - 1 - off) (show 0 < st by omega)
  have d := Int.mul_ediv_add_emod (tO - 1 - off) st
  rw [hq2]
  refine ⟨⟨fun hk => ?_, fun hk => ?_⟩, fun hk => ?_⟩
  · have : (k : Int) * st ≤ (q : Int) * st := Int.mul_le_mul_of_nonneg_right (by omega) (by omega)
    omega
  · rcases Nat.lt_or_ge k (q + 1) with h6 | h6
    · exact h6
    · have : ((q : Int) + 1) * st ≤ (k : Int) * st := Int.mul_le_mul_of_nonneg_right (by omega) (by omega)
      rw [Int.add_mul, Int.one_mul] at this
      omega
  · have : (k : Int) * st ≤ ((q : Int) + 1) * st := Int.mul_le_mul_of_nonneg_right (by omega) (by omega)
    rw [Int.add_mul, Int.one_mul] at this
    omega

set_option maxHeartbeats 2000000 in
set_option maxRecDepth 100000 in
theorem rall09_any (wd st off fr tO : Int) (w : World) (hv : windowB wd st off = true) (h1 : timeB fr = true) (h2 : timeB tO = true) (h3 : fr ≤ tO) (hN : allN wd st off fr tO ≤ 65536) :
    Calls Tryz.prog 57 #[.int .i64 wd, .int .i64 st, .int .i64 off, .agg #[.int .i64 fr, .int .i64 tO]] w fun e w' => ∃ v, e = .returned (.tuple #[v, .int .i64 0]) ∧ MadeTo w 141 2 v (allN wd st off fr tO) (sps (allW wd st off fr tO)) w' := by
  have HV := Lib.hid (window_nums hv)
  have HW := Lib.hid hv
  have HT1 := Lib.hid (And.intro h1 (time_nums h1))
  have HT2 := Lib.hid (And.intro h2 (time_nums h2))
  have HNN := Lib.hid hN
  rcases Int.lt_or_eq_of_le h3 with hlt | heq
  · have HST := Lib.hid (fun k => all_step (wd := wd) (st := st) (off := off) hv hlt k)
    have HFB := Lib.hid (first_bnd (wd := wd) (st := st) (off := off) (t := fr) HV.out.2.2.1 HV.out.2.2.2.1 HV.out.2.1 HV.out.2.2.2.2.2.1 HV.out.2.2.2.2.2.2 HT1.out.2.1 HT1.out.2.2)
    have HFC := Lib.hid (fun W => rfirst_any wd st off fr W HV.out.2.2.1 HV.out.2.2.2.1 HV.out.2.1 HV.out.2.2.2.2.2.1 HV.out.2.2.2.2.2.2 HT1.out.2.1 HT1.out.2.2)
    unfold allW
    obtain ⟨F, hF⟩ : ∃ F, F = firstF wd st off fr := ⟨_, rfl⟩
    obtain ⟨N, hNe⟩ : ∃ N, N = allN wd st off fr tO := ⟨_, rfl⟩
    simp only [← hF, ← hNe] at HST HFB HFC HNN
    rw [← hF, ← hNe]
    have hne : (fr == tO) = false := beq_eq_false_iff_ne.2 (by omega)
    have hgt : ¬ tO < fr := by omega
    clear hv h1 h2 h3 hN hF hNe
    go_enter Tryz.func57, Tryz.ntmps57
    go_wp2_with fail
    refine (refWin_any wd st off _).mono ?_
    rw [HW.out]
    rintro e w1 ⟨rfl, rfl⟩
    generalize hW : World.alloc _ _ = W
    have HXW : Hid (Ext w W) := Lib.hid (by subst hW; exact (Ext.refl w).alloc _)
    have s0 : W.cell? ⟨w.heap.size, 0, none⟩ = some (.int .i64 fr) := by subst hW; simp [go_sem]
    have s1 : W.cell? ⟨w.heap.size, 1, none⟩ = some (.int .i64 tO) := by subst hW; simp [go_sem]
    have HS1 := Lib.hid s1
    clear hW
    go_wp2_with fail
    refine (rtime_any fr _).mono ?_
    rw [HT1.out.1]
    rintro e w1 ⟨rfl, rfl⟩
    go_wp2_with fail
    refine (rtime_any tO _).mono ?_
    rw [HT2.out.1]
    rintro e w1 ⟨rfl, rfl⟩
    go_wp2_with fail
    refine (HFC.out _).mono ?_
    rintro e w1 ⟨rfl, rfl⟩
    go_wp2_with fail
    clear s0 s1
    go_loopw [10, 11] (fun s10 s11 wr => ∃ (k vc : Nat) (va : Option Addr) (f : Int), k ≤ N ∧ f = F + (k : Int) * st ∧ s11 = .slice va k vc ∧ s10 = .int .i64 f ∧ Hid (MadeTo W 141 2 (.slice va k vc) k (sps (spansL k F wd st)) wr)) (fun s10 _ _ => (tO + 1 + st - RowKit.intOf s10).toNat)
    case atStart => exact ⟨0, 0, none, F, by omega, by omega, rfl, rfl, Lib.hid ⟨Row.nil _ _ _, fun g hg => by simp [Value.ownBlock] at hg, Ext.refl W⟩⟩
    case round =>
      obtain ⟨k, vc, va, f, hk, hf, rfl, rfl, HM⟩ := hrel
      have hst := HST.out k
      rw [← hf] at hst
      have HFF := Lib.hid hf
      clear hf
      have s1 := (HM.out.ext.cell (World.block_lt_of_cell? _ _ HS1.out)).trans HS1.out
      by_cases hkN : k < N
      · have hft := hst.1.1 hkN
        have hb := HFB.out.1
        have ht := HT2.out.2
        have hv2 := HV.out
        have hfl : F ≤ f := by
          rw [HFF.out]
          have : 0 ≤ (k : Int) * st := Int.mul_nonneg (by omega) (by omega)
          omega
        have g1 : -9223372036854775808 ≤ f + wd := by omega
        have g2 : f + wd ≤ 9223372036854775807 := by omega
        have g3 : -9223372036854775808 ≤ f + st := by omega
        have g4 : f + st ≤ 9223372036854775807 := by omega
        have hk64 : k < 65536 := by have := HNN.out; omega
        have hkb : ((k : Int) == 65536) = false := beq_eq_false_iff_ne.2 (by omega)
        have HFS : Hid (f + st = F + ((k + 1 : Nat) : Int) * st) := Lib.hid (by rw [HFF.out, Int.natCast_add, Int.add_mul]; simp; omega)
        have HME : Hid (f < tO ∧ 1 ≤ st) := Lib.hid ⟨hft, by omega⟩
        clear hst hb ht hv2 hfl hk
        go_wp2_with (first | (refine wpList_append_start elem_rspan rfl _ _ rfl rfl rfl (Start.row ((HM.out.row).alloc _) HM.out.own) (HM.out.ext.alloc _) (src_new wr #[.int .i64 f, .int .i64 (f + wd)] 141 2 1 (0, 0) rfl (by simp [Value.oneCell'])) (by omega) (by unfold maxLen; omega) (by omega) ?_; rintro v' w5 ha; obtain ⟨va', vc', rfl⟩ := ha.row.shape; have HA := Lib.hid ha; clear ha))
        refine ⟨⟨k + 1, vc', va', f + st, hkN, HFS.out, rfl, by go_num, Lib.hid ?_⟩, ?_⟩
        · rw [spansL_succ, sps_append, ← HFF.out]; exact HA.out
        · have := HME.out
          simp [RowKit.intOf]; omega
      · have hft : ¬ f < tO := fun h => hkN (hst.1.2 h)
        have hkn : k = N := by omega
        clear hst
        go_wp2_with fail
        go_ret2
        refine ⟨_, rfl, ?_⟩
        rw [← hkn]
        exact ⟨HM.out.row, fun g hg => by have h1 := HM.out.own g hg; have h2 := HXW.out.size; omega, HXW.out.trans HM.out.ext⟩
  · subst heq
    have hne : (fr == fr) = true := beq_self_eq_true _
    have hgt : ¬ fr < fr := by omega
    clear hv h1 h2 h3 hN
    go_enter Tryz.func57, Tryz.ntmps57
    go_wp2_with fail
    refine (refWin_any wd st off _).mono ?_
    rw [HW.out]
    rintro e w1 ⟨rfl, rfl⟩
    generalize hW : World.alloc _ _ = W
    have HXW : Hid (Ext w W) := Lib.hid (by subst hW; exact (Ext.refl w).alloc _)
    have s0 : W.cell? ⟨w.heap.size, 0, none⟩ = some (.int .i64 fr) := by subst hW; simp [go_sem]
    have s1 : W.cell? ⟨w.heap.size, 1, none⟩ = some (.int .i64 fr) := by subst hW; simp [go_sem]
    clear hW
    go_wp2_with fail
    refine (rtime_any fr _).mono ?_
    rw [HT1.out.1]
    rintro e w1 ⟨rfl, rfl⟩
    go_wp2_with fail
    refine (rtime_any fr _).mono ?_
    rw [HT1.out.1]
    rintro e w1 ⟨rfl, rfl⟩
    go_wp2_with fail
    go_ret2
    refine ⟨_, rfl, ?_⟩
    have e : allN wd st off fr fr = 0 := by unfold allN; rw [if_pos rfl]
    unfold allW
    rw [e]
    exact ⟨Row.nil _ _ _, by simp [Value.ownBlock], HXW.out⟩
end Go.Proofs.YtokllgdbmnmieaaGreat
