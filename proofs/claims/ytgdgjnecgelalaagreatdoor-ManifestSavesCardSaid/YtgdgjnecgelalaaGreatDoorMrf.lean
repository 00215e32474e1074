/- manifest.Read: many things of a kind (Read$1). -/
import Derived.Test.YtgdgjnecgelalaaGreatDoorMrd
namespace Go.Proofs.YtgdgjnecgelalaaGreatDoor
open Go.RowKit Go.Sort Go.Lib

section
variable {α : Type}
/-- A step is done till it is bad, at most so often. -/
def loopR (stp : α → Rd → α × Rd) : Nat → α × Rd → α × Rd
  | 0, s => s
  | k + 1, s => if (loopR stp k s).2.bad = true then loopR stp k s else stp (loopR stp k s).1 (loopR stp k s).2
theorem loopR_stay {stp : α → Rd → α × Rd} {s : α × Rd} {k m : Nat} (h : (loopR stp k s).2.bad = true) (hm : k ≤ m) : loopR stp m s = loopR stp k s := by
  induction m with
  | zero => obtain rfl : k = 0 := by omega
            rfl
  | succ m ih =>
    by_cases hk : k = m + 1
    · rw [hk]
    · have := ih (by omega)
      show (if (loopR stp m s).2.bad = true then loopR stp m s else _) = _
      rw [this, if_pos h]
def manyR (stp : α → Rd → α × Rd) (most : Nat) (s : α × Rd) : α × Rd :=
  loopR stp (rdNum s.2).1.toNat (s.1, ⟨(rdNum s.2).2.l, (rdNum s.2).2.bad || decide ((most : Int) < (rdNum s.2).1)⟩)
end
theorem rdNum_lo (r : Rd) : 0 ≤ (rdNum r).1 ∧ (rdNum r).1 ≤ 1152921504606846976 := by
  unfold rdNum
  simp only
  split
  · omega
  · rename_i h
    simp at h
    omega

set_option maxHeartbeats 8000000 in
set_option maxRecDepth 100000 in
/-- The walk of Read$1, whatever is done. -/
theorem many_any {α : Type} (stp : α → Rd → α × Rd) (most K : Nat) (caps : Array Value) (hcf : ∀ W, (callFunc K caps).run Tryz.prog W = .ok (.enter K caps) W) (w0 : World) (p rp : Nat) (hm : most < 1000) (A : Nat → α × Rd → World → Prop)
    (hA : ∀ k s w, A k s w → RdAt 122 w0 p s.2 w ∧ w.cell? ⟨rp, 0, none⟩ = some (.pointer (some ⟨p, 0, none⟩)))
    (hN : ∀ k s r' w w', A k s w → RdAt 122 w0 p r' w' → Chg (· = p) w w' → A k (s.1, r') w')
    (hS : ∀ k s w, k ≤ most → A k s w → Calls Tryz.prog K caps w fun e w' => e = .returned (.tuple #[]) ∧ A (k + 1) (stp s.1 s.2) w')
    (s : α × Rd) (w : World) (h : A 0 s w) :
    Calls Tryz.prog 67 #[.int .i64 (most : Int), .func (.func K) #[] caps, .pointer (some ⟨rp, 0, none⟩)] w fun e w' => e = .returned (.tuple #[]) ∧ ∃ k, k ≤ most ∧ A k (manyR stp most s) w' := by
  have H := Lib.hid h
  have HA := Lib.hid hA
  have HN := Lib.hid hN
  have HS := Lib.hid hS
  have c0 := (hA _ _ _ h).2
  clear h hA hN hS
  go_enter Tryz.func67, Tryz.ntmps67
  go_wp2_with fail
  refine (rdNum_any w0 w p s.2 (HA.out _ _ _ H.out).1).mono ?_
  rintro e w1 ⟨rfl, hr, hc⟩
  have H1 := Lib.hid (HN.out _ _ _ _ _ H.out hr hc)
  have HF : Hid (manyR stp most s = loopR stp (rdNum s.2).1.toNat (s.1, ⟨(rdNum s.2).2.l, (rdNum s.2).2.bad || decide ((most : Int) < (rdNum s.2).1)⟩)) := Lib.hid rfl
  have HLO := Lib.hid (rdNum_lo s.2)
  obtain ⟨⟨N, r1⟩, hN⟩ : ∃ x, x = rdNum s.2 := ⟨_, rfl⟩
  rw [← hN] at HF H1 HLO hr ⊢
  simp only at HF H1 HLO hr
  clear hN hc c0 H
  obtain ⟨N, rfl⟩ : ∃ n : Nat, N = (n : Int) := ⟨N.toNat, by have := HLO.out; omega⟩
  have HN60 : Hid (N ≤ 1152921504606846976) := Lib.hid (by have := HLO.out; omega)
  rw [Int.toNat_natCast] at HF
  obtain ⟨B, hB⟩ : ∃ B, B = (r1.bad || decide ((most : Int) < (N : Int))) := ⟨_, rfl⟩
  have HBM : Hid (B = false → N ≤ most) := Lib.hid (fun h => by rw [hB] at h; simp at h; omega)
  -- the number is too great, or not
  have HMID : Hid (∀ w2, w2 = (w1.setCell ⟨p, 1, none⟩ (.bool B)).drew → A 0 (s.1, ⟨r1.l, B⟩) w2) := Lib.hid (by
    rintro w2 rfl
    have hx := Ext.drewN (w1.setCell ⟨p, 1, none⟩ (.bool B)) 1
    exact HN.out 0 (s.1, r1) ⟨r1.l, B⟩ w1 _ H1.out ((RdAt.over hr B).ext' hx) ((setCell_chg w1 p 1 (.bool B)).trans (Chg.of_ext (S := (· = p)) hx) (fun _ _ e => e)))
  obtain ⟨l1, b1⟩ := r1
  rw [← hB] at HF
  obtain ⟨a, n, c, hb, -⟩ := hr.blk
  have q0 := cell_turned (T := fun _ => false) (HA.out _ _ _ H1.out).2 rfl
  have q1 := cell_turned (T := fun _ => false) (cell_of_block hb 1) rfl
  have z1 := free_of_block hb 1
  have d1 := cell_of_block hb 1
  clear hb hr HLO
  have HSTAY : Hid (B = true → ∀ k, loopR stp k (s.1, ⟨l1, B⟩) = (s.1, ⟨l1, B⟩)) := Lib.hid (fun h k => loopR_stay (k := 0) (m := k) (s := (s.1, ⟨l1, B⟩)) h (Nat.zero_le _))
  clear H1
  cases b1
  · have HBV : Hid (B = decide (most < N)) := Lib.hid (by rw [hB]; simp)
    clear hB
    go_wp2_with fail
    refine wp_region_plan 12 (fun w' => ∃ p : Turned, w' = turned w1 (fun _ => false) p.d p.f p.os) (.reads [0, 1, 2, 3, 4, 5, 6, 7, 8, 9, 10, 11] (.one 12 .done)) (by kernel_rfl) (by kernel_rfl) (fun _ _ dd _ _ hh => by cases dd <;> exact hh) ?_ ?_
    · exact turned_of_ext (Ext.drewN w1 1)
    refine wpPlan_reads ?_
    simp only [pickOps, List.getElem?_cons_succ, List.getElem?_cons_zero]
    repeat (go_big_quiet_step (fail))
    refine wpQuiet_nil ?_
    refine wpPlan_one ?_
    simp only [pickOps, List.getElem?_cons_succ, List.getElem?_cons_zero]
    clear q0 q1
    go_wp2_with fail
    refine thenX_last (wpPlan_done ?_)
    go_wp2_with fail
    generalize hw2 : World.drew _ = w2
    have HI := Lib.hid (HMID.out w2 (by rw [← hw2, HBV.out]))
    clear hw2 d1 z1 HMID HBV
    go_loopw [6] (fun i wr => ∃ k : Nat, k ≤ N ∧ k ≤ most ∧ i = .int .i64 k ∧ Hid (A k (loopR stp k (s.1, ⟨l1, B⟩)) wr)) (fun i _ => N - (RowKit.intOf i).toNat)
    case atStart => exact ⟨0, by omega, by omega, rfl, HI⟩
    case round =>
      obtain ⟨k, hk, hkm, rfl, HI2⟩ := hrel
      obtain ⟨hrd, r0⟩ := HA.out _ _ _ HI2.out
      obtain ⟨⟨x, ⟨lk, bk⟩⟩, hst⟩ : ∃ t, t = loopR stp k (s.1, ⟨l1, B⟩) := ⟨_, rfl⟩
      rw [← hst] at hrd HI2
      obtain ⟨a2, n2, c2, hb2, -⟩ := hrd.blk
      have r1 := cell_of_block hb2 1
      have HST := Lib.hid hst
      clear hst hb2 hrd
      by_cases hlt : k < N
      · cases bk
        · have hNm : N ≤ most := HBM.out (by
            cases hB : B with
            | false => rfl
            | true =>
              have h1 := HSTAY.out hB k
              rw [← HST.out] at h1
              rw [hB] at h1
              simp at h1)
          have hlti : (k : Int) < (N : Int) := by omega
          have HCC := Lib.hid (HS.out k _ _ hkm HI2.out)
          go_wp2_with fail
          refine HCC.out.mono ?_
          rintro e w5 ⟨rfl, hI⟩
          have HI3 : Hid (A (k + 1) (loopR stp (k + 1) (s.1, ⟨l1, B⟩)) w5) := Lib.hid (by
            show A (k + 1) (if (loopR stp k (s.1, ⟨l1, B⟩)).2.bad = true then _ else _) w5
            rw [← HST.out]
            exact hI)
          clear hI HCC
          go_wp2_with fail
          go_roundw
          case rel => exact ⟨k + 1, by omega, by omega, by go_num, HI3⟩
          case measure => simp [RowKit.intOf]; omega
        · have hlti : (k : Int) < (N : Int) := by omega
          have HI3 : Hid (A k (manyR stp most s) wr) := Lib.hid (by
            rw [HF.out, loopR_stay (k := k) (m := N) (by rw [← HST.out]) hk, ← HST.out]
            exact HI2.out)
          go_wp2_with fail
          go_end0
          exact ⟨rfl, k, hkm, HI3.out⟩
      · obtain rfl : k = N := by omega
        have hlti : ¬ (k : Int) < (k : Int) := by omega
        have HI3 : Hid (A k (manyR stp most s) wr) := Lib.hid (by
          rw [HF.out, ← HST.out]
          exact HI2.out)
        go_wp2_with fail
        go_end0
        exact ⟨rfl, k, hkm, HI3.out⟩
  · have HBV : Hid (B = true) := Lib.hid (by rw [hB]; rfl)
    clear hB
    go_wp2_with fail
    refine wp_region_plan 12 (fun w' => ∃ p : Turned, w' = turned w1 (fun _ => false) p.d p.f p.os) (.reads [0, 1, 2, 3, 4, 5, 6, 7, 8, 9, 10, 11] (.one 12 .done)) (by kernel_rfl) (by kernel_rfl) (fun _ _ dd _ _ hh => by cases dd <;> exact hh) ?_ ?_
    · exact turned_of_ext (Ext.drewN w1 1)
    refine wpPlan_reads ?_
    simp only [pickOps, List.getElem?_cons_succ, List.getElem?_cons_zero]
    repeat (go_big_quiet_step (fail))
    refine wpQuiet_nil ?_
    refine wpPlan_one ?_
    simp only [pickOps, List.getElem?_cons_succ, List.getElem?_cons_zero]
    clear q0 q1
    go_wp2_with fail
    refine thenX_last (wpPlan_done ?_)
    go_wp2_with fail
    generalize hw2 : World.drew _ = w2
    have HI := Lib.hid (HMID.out w2 (by rw [← hw2, HBV.out]))
    clear hw2 d1 z1 HMID HBV
    go_loopw [6] (fun i wr => ∃ k : Nat, k ≤ N ∧ k ≤ most ∧ i = .int .i64 k ∧ Hid (A k (loopR stp k (s.1, ⟨l1, B⟩)) wr)) (fun i _ => N - (RowKit.intOf i).toNat)
    case atStart => exact ⟨0, by omega, by omega, rfl, HI⟩
    case round =>
      obtain ⟨k, hk, hkm, rfl, HI2⟩ := hrel
      obtain ⟨hrd, r0⟩ := HA.out _ _ _ HI2.out
      obtain ⟨⟨x, ⟨lk, bk⟩⟩, hst⟩ : ∃ t, t = loopR stp k (s.1, ⟨l1, B⟩) := ⟨_, rfl⟩
      rw [← hst] at hrd HI2
      obtain ⟨a2, n2, c2, hb2, -⟩ := hrd.blk
      have r1 := cell_of_block hb2 1
      have HST := Lib.hid hst
      clear hst hb2 hrd
      by_cases hlt : k < N
      · cases bk
        · have hNm : N ≤ most := HBM.out (by
            cases hB : B with
            | false => rfl
            | true =>
              have h1 := HSTAY.out hB k
              rw [← HST.out] at h1
              rw [hB] at h1
              simp at h1)
          have hlti : (k : Int) < (N : Int) := by omega
          have HCC := Lib.hid (HS.out k _ _ hkm HI2.out)
          go_wp2_with fail
          refine HCC.out.mono ?_
          rintro e w5 ⟨rfl, hI⟩
          have HI3 : Hid (A (k + 1) (loopR stp (k + 1) (s.1, ⟨l1, B⟩)) w5) := Lib.hid (by
            show A (k + 1) (if (loopR stp k (s.1, ⟨l1, B⟩)).2.bad = true then _ else _) w5
            rw [← HST.out]
            exact hI)
          clear hI HCC
          go_wp2_with fail
          go_roundw
          case rel => exact ⟨k + 1, by omega, by omega, by go_num, HI3⟩
          case measure => simp [RowKit.intOf]; omega
        · have hlti : (k : Int) < (N : Int) := by omega
          have HI3 : Hid (A k (manyR stp most s) wr) := Lib.hid (by
            rw [HF.out, loopR_stay (k := k) (m := N) (by rw [← HST.out]) hk, ← HST.out]
            exact HI2.out)
          go_wp2_with fail
          go_end0
          exact ⟨rfl, k, hkm, HI3.out⟩
      · obtain rfl : k = N := by omega
        have hlti : ¬ (k : Int) < (k : Int) := by omega
        have HI3 : Hid (A k (manyR stp most s) wr) := Lib.hid (by
          rw [HF.out, ← HST.out]
          exact HI2.out)
        go_wp2_with fail
        go_end0
        exact ⟨rfl, k, hkm, HI3.out⟩
end Go.Proofs.YtgdgjnecgelalaaGreatDoor

/-! manifest.Read: a file, a tier is read and put behind the others (Read$2, Read$3). -/

namespace Go.Proofs.YtgdgjnecgelalaaGreatDoor
open Go.RowKit Go.Sort Go.Lib

theorem elem_mfile : ElemOk Tryz.prog 37 74 4 40 :=
  ⟨Tryz.underlying37, by
    obtain ⟨i0, hi, hz0, hz1, hz2⟩ := info_parts (show (Tryz.prog.info? 74).map (fun i => (i.zero, i.size, i.bytes)) = some (some (.agg #[.string ByteArray.empty, .int .i64 0, .int .i64 0, .int .i64 0]), 4, 40) from by kernel_rfl)
    exact ⟨i0, _, hi, hz0, hz1, hz2, rfl⟩, by decide⟩
theorem elem_tier : ElemOk Tryz.prog 38 76 5 48 :=
  ⟨Tryz.underlying38, by
    obtain ⟨i0, hi, hz0, hz1, hz2⟩ := info_parts (show (Tryz.prog.info? 76).map (fun i => (i.zero, i.size, i.bytes)) = some (some (.agg #[.int .i64 0, .int .i64 0, .int .i64 0, .bool false, .string ByteArray.empty]), 5, 48) from by kernel_rfl)
    exact ⟨i0, _, hi, hz0, hz1, hz2, rfl⟩, by decide⟩

/-- A field of a struct in a box grows while bytes are read. -/
structure StG (ws w0 : World) (q p : Nat) (tr ts te : TypeId) (i size : Nat) (base : Array Value) (n : Nat) (xs : List Value) (r : Rd) (w : World) : Prop where
  blk : ∃ a c, w.heap[q]? = some (.cells (base.setIfInBounds i (.slice a n c)) ts (0, 0)) ∧ Row w te size (.slice a n c) n xs ∧ ∀ g, (Value.slice a n c).ownBlock = some g → ws.heap.size ≤ g
  rd : RdAt tr w0 p r w
  chg : Chg (fun k => k = p ∨ k = q) ws w
  ql : q < ws.heap.size
  pl : p < ws.heap.size
  qp : q ≠ p
  qw : w0.heap.size ≤ q
section
variable {ws w0 w w1 w2 w3 : World} {q p : Nat} {tr ts te : TypeId} {i size n : Nat} {base : Array Value} {xs : List Value} {r r' : Rd}
theorem StG.read (h : StG ws w0 q p tr ts te i size base n xs r w) (hr : RdAt tr w0 p r' w1) (hc : Chg (· = p) w w1) : StG ws w0 q p tr ts te i size base n xs r' w1 := by
  obtain ⟨a, c, hb, hrow, ho⟩ := h.blk
  exact ⟨⟨a, c, (hc.block q (block_lt hb) h.qp).trans hb, hrow.chg hc (fun g hg e => by have := ho g hg; have := h.pl; omega), ho⟩, hr, h.chg.trans hc (fun _ _ e => .inl e), h.ql, h.pl, h.qp, h.qw⟩
theorem StG.ext' (h : StG ws w0 q p tr ts te i size base n xs r w) (hx : Ext w w1) : StG ws w0 q p tr ts te i size base n xs r w1 := by
  obtain ⟨a, c, hb, hrow, ho⟩ := h.blk
  exact ⟨⟨a, c, hx.keep hb, hrow.ext hx, ho⟩, h.rd.ext' hx, h.chg.trans (Chg.of_ext (S := fun _ => False) hx) (fun _ _ e => e.elim), h.ql, h.pl, h.qp, h.qw⟩
theorem StG.add {a : Option Addr} {c m : Nat} {ys : List Value} {v' : Value} (h : StG ws w0 q p tr ts te i size base n xs r w)
    (hb : w.heap[q]? = some (.cells (base.setIfInBounds i (.slice a n c)) ts (0, 0))) (ho : ∀ g, (Value.slice a n c).ownBlock = some g → ws.heap.size ≤ g)
    (happ : Appended w te size (.slice a n c) m ys v' w1) : w1.heap[q]? = some (.cells (base.setIfInBounds i (.slice a n c)) ts (0, 0)) ∧ StG ws w0 q p tr ts te i size base m ys r (w1.setCell ⟨q, i, none⟩ v') := by
  have hq1 : w1.heap[q]? = some (.cells (base.setIfInBounds i (.slice a n c)) ts (0, 0)) := (happ.chg.block q (block_lt hb) (fun e => by have := ho q e; have := h.ql; omega)).trans hb
  obtain ⟨a', c', rfl⟩ := happ.row.shape
  have hs := setCell_chg w1 q i (.slice a' m c')
  have ho' : ∀ g, (Value.slice a' m c').ownBlock = some g → ws.heap.size ≤ g := fun g hg => by
    rcases happ.loc with e | e
    · exact ho g (by rw [← e]; exact hg)
    · rw [e] at hg; simp at hg; have := h.chg.size; omega
  have hc : Chg (fun k => k = p ∨ k = q) ws (w1.setCell ⟨q, i, none⟩ (.slice a' m c')) := (h.chg.trans happ.chg (fun k hk e => by have := ho k e; omega)).trans hs (fun _ _ e => .inr e)
  refine ⟨hq1, ⟨a', c', ?_, happ.row.chg hs (fun g hg e => by have := ho' g hg; have := h.ql; omega), ho'⟩, ?_, hc, h.ql, h.pl, h.qp, h.qw⟩
  · have := setCell_block hq1 (i := i) (.slice a' m c')
    rw [this]
    simp [Array.setIfInBounds_setIfInBounds]
  · have h1 := h.rd.chg happ.chg (fun e => by have := ho p e; have := h.pl; omega) (fun g hg => by have := ho g hg; have := h.ql; have := h.qw; omega)
    exact h1.chg hs (fun e => h.qp e.symm) (fun g hg => by have := h.qw; omega)
end
theorem src_fl {W : World} {b : Nat} {p : Fl} {t : TypeId} {fr : Nat × Nat} (h : W.heap[b]? = some (.cells #[.string p.nm, .int .i64 p.a, .int .i64 p.b, .int .i64 p.k] t fr)) : Src W 4 (.slice (some ⟨b, 0, none⟩) 1 1) 1 (fls [p]) := by
  refine .inr ⟨_, _, rfl, by simp [fls, Fl.cells], fun j u hj => ?_, fls_one _⟩
  rw [Go.WideShapes.add_plain, Nat.zero_add, cell_of_block h]
  simpa [fls, Fl.cells] using hj
theorem src_tr {W : World} {b : Nat} {p : Tr} {t : TypeId} {fr : Nat × Nat} (h : W.heap[b]? = some (.cells #[.int .i64 p.w, .int .i64 p.o, .int .i64 p.u, .bool p.m, .string p.f] t fr)) : Src W 5 (.slice (some ⟨b, 0, none⟩) 1 1) 1 (trs [p]) := by
  refine .inr ⟨_, _, rfl, by simp [trs, Tr.cells], fun j u hj => ?_, trs_one _⟩
  rw [Go.WideShapes.add_plain, Nat.zero_add, cell_of_block h]
  simpa [trs, Tr.cells] using hj

set_option maxHeartbeats 4000000 in
set_option maxRecDepth 100000 in
theorem readF_any (ws w0 w : World) (q p rp n : Nat) (b0 b1 b2 b3 b4 b5 b6 b7 : Value) (l : List Fl) (r : Rd) (hn : n ≤ 600)
    (h : StG ws w0 q p 122 40 74 6 4 #[b0, b1, b2, b3, b4, b5, b6, b7] n (fls l) r w)
    (hr : w.cell? ⟨rp, 0, none⟩ = some (.pointer (some ⟨p, 0, none⟩))) :
    Calls Tryz.prog 68 #[.pointer (some ⟨q, 0, none⟩), .pointer (some ⟨rp, 0, none⟩)] w fun e w' => e = .returned (.tuple #[]) ∧
      StG ws w0 q p 122 40 74 6 4 #[b0, b1, b2, b3, b4, b5, b6, b7] (n + 1) (fls (l ++ [(rdFl r).1])) (rdFl r).2 w' := by
  obtain ⟨a, c, hb, -, ho⟩ := h.blk
  have H := Lib.hid h
  have HO := Lib.hid ho
  have HBQ := Lib.hid hb
  have hT : (fun k => k == p) q = false := by have := h.qp; simpa using this
  have hRP : (fun k => k == p) rp = false := by
    obtain ⟨_, _, _, hbp, _⟩ := h.rd.blk
    have h0 := cell_of_block hbp 0
    simp only [beq_eq_false_iff_ne, ne_eq]
    rintro rfl
    rw [hr] at h0
    simp at h0
  have f0 := cell_turned (T := fun k => k == p) (a := ⟨q, 6, none⟩) (v := .slice a n c) (by rw [cell_of_block hb 6]; rfl) hT
  have f1 := cell_turned (T := fun k => k == p) (a := ⟨rp, 0, none⟩) hr hRP
  clear h hb hr ho hT hRP
  go_enter Tryz.func68, Tryz.ntmps68
  go_wp2_with fail
  refine wp_region_plan 5 (fun w' => ∃ z : Turned, w' = turned w (fun k => k == p) z.d z.f z.os) (.reads [0, 1, 2] (.one 3 (.one 4 (.one 5 (.one 6 (.one 7 .done)))))) (by kernel_rfl) (by kernel_rfl) (fun _ _ dd _ _ hh => by cases dd <;> exact hh) ?_ ?_
  · exact turned_of_ext (Ext.drewN w 1)
  refine wpPlan_reads ?_
  simp only [pickOps, List.getElem?_cons_succ, List.getElem?_cons_zero]
  repeat (go_big_quiet_step (fail))
  refine wpQuiet_nil ?_
  clear f0 f1
  refine wpPlan_one ?_
  simp only [pickOps, List.getElem?_cons_succ, List.getElem?_cons_zero]
  go_wp2_with fail
  refine (rdFl_any w0 _ p r (H.out.rd.ext' (Ext.drewN w 1))).mono ?_
  rintro e w1 ⟨rfl, hr, hc⟩
  have hc' := (Chg.of_ext (S := (· = p)) (Ext.drewN w 1)).trans hc (fun _ _ e => e)
  have H1 := Lib.hid (H.out.read hr hc')
  have HC := Lib.hid hc'
  have HBQ1 := Lib.hid ((hc'.block q (block_lt HBQ.out) H.out.qp).trans HBQ.out)
  have HTU : Hid (∀ w', Ext w1 w' → ∃ z : Turned, w' = turned w (fun k => k == p) z.d z.f z.os) := Lib.hid (fun w' hx => turned_of_chg ((HC.out.trans (Chg.of_ext (S := (· = p)) hx) (fun _ _ e => e)).mono (fun _ _ e => by simpa using e)))
  clear hr hc hc' H HBQ
  generalize hy : (rdFl r).1 = y at *
  generalize hr1 : (rdFl r).2 = r1 at *
  have HY := Lib.hid hy
  have HR1 := Lib.hid hr1
  clear hy hr1
  go_wp2_with fail
  refine thenX_mk (HTU.out w1 (Ext.refl _)) (wpPlan_one ?_)
  simp only [pickOps, List.getElem?_cons_succ, List.getElem?_cons_zero]
  go_wp2_with fail
  generalize hw2 : w1.alloc _ = w2
  have hx2 : Ext w1 w2 := by rw [← hw2]; exact (Ext.refl w1).alloc _
  have hsrc : Src w2 4 (.slice (some ⟨w1.heap.size, 0, none⟩) 1 1) 1 (fls [y]) := src_fl (p := y) (by rw [← hw2]; exact heap_alloc_new w1 _)
  have HSRC := Lib.hid hsrc
  have HBQ2 := Lib.hid (hx2.keep HBQ1.out)
  have H2 := Lib.hid (H1.out.ext' hx2)
  have hrow : Row w2 74 4 (.slice a n c) n (fls l) := by
    obtain ⟨a2, c2, hb2, hrow, -⟩ := H2.out.blk
    have := hb2.symm.trans HBQ2.out
    simp at this
    obtain ⟨rfl, rfl⟩ := this
    exact hrow
  have HROW := Lib.hid hrow
  have HTU2 := Lib.hid (HTU.out w2 hx2)
  clear hw2 hx2 hsrc hrow HTU H1 HBQ1
  refine thenX_mk HTU2.out (wpPlan_one ?_)
  simp only [pickOps, List.getElem?_cons_succ, List.getElem?_cons_zero]
  refine wpList_append_to (n := n) (m := 1) elem_mfile rfl _ _ rfl (v := .slice a n c) rfl rfl HROW.out HSRC.out (by unfold maxLen; omega) (by omega) ?_
  intro v3 w3 happ
  rw [← fls_append] at happ
  obtain ⟨hq3, hfin⟩ := H2.out.add HBQ2.out HO.out happ
  have HFIN := Lib.hid hfin
  have d0 : w3.cell? ⟨q, 6, none⟩ = some (.slice a n c) := by rw [cell_of_block hq3 6]; rfl
  have z0 := free_of_block hq3 6
  obtain ⟨a3, c3, rfl⟩ := happ.row.shape
  clear happ hq3 hfin
  go_wp2_with fail
  refine thenX_last (wpPlan_one ?_)
  simp only [pickOps, List.getElem?_cons_succ, List.getElem?_cons_zero]
  go_wp2_with fail
  refine thenX_last (wpPlan_one ?_)
  simp only [pickOps, List.getElem?_cons_succ, List.getElem?_cons_zero]
  go_wp2_with fail
  refine thenX_last (wpPlan_done ?_)
  go_wp2_with fail
  go_end0
  rw [HY.out, HR1.out]
  exact ⟨rfl, HFIN.out⟩

set_option maxHeartbeats 4000000 in
set_option maxRecDepth 100000 in
theorem readT_any (ws w0 w : World) (q p rp n : Nat) (b0 b1 b2 b3 b4 b5 b6 b7 : Value) (l : List Tr) (r : Rd) (hn : n ≤ 600)
    (h : StG ws w0 q p 122 40 76 7 5 #[b0, b1, b2, b3, b4, b5, b6, b7] n (trs l) r w)
    (hr : w.cell? ⟨rp, 0, none⟩ = some (.pointer (some ⟨p, 0, none⟩))) :
    Calls Tryz.prog 70 #[.pointer (some ⟨q, 0, none⟩), .pointer (some ⟨rp, 0, none⟩)] w fun e w' => e = .returned (.tuple #[]) ∧
      StG ws w0 q p 122 40 76 7 5 #[b0, b1, b2, b3, b4, b5, b6, b7] (n + 1) (trs (l ++ [(rdTr r).1])) (rdTr r).2 w' := by
  obtain ⟨a, c, hb, -, ho⟩ := h.blk
  have H := Lib.hid h
  have HO := Lib.hid ho
  have HBQ := Lib.hid hb
  have hT : (fun k => k == p) q = false := by have := h.qp; simpa using this
  have hRP : (fun k => k == p) rp = false := by
    obtain ⟨_, _, _, hbp, _⟩ := h.rd.blk
    have h0 := cell_of_block hbp 0
    simp only [beq_eq_false_iff_ne, ne_eq]
    rintro rfl
    rw [hr] at h0
    simp at h0
  have f0 := cell_turned (T := fun k => k == p) (a := ⟨q, 7, none⟩) (v := .slice a n c) (by rw [cell_of_block hb 7]; rfl) hT
  have f1 := cell_turned (T := fun k => k == p) (a := ⟨rp, 0, none⟩) hr hRP
  clear h hb hr ho hT hRP
  go_enter Tryz.func70, Tryz.ntmps70
  go_wp2_with fail
  refine wp_region_plan 5 (fun w' => ∃ z : Turned, w' = turned w (fun k => k == p) z.d z.f z.os) (.reads [0, 1, 2] (.one 3 (.one 4 (.one 5 (.one 6 (.one 7 .done)))))) (by kernel_rfl) (by kernel_rfl) (fun _ _ dd _ _ hh => by cases dd <;> exact hh) ?_ ?_
  · exact turned_of_ext (Ext.drewN w 1)
  refine wpPlan_reads ?_
  simp only [pickOps, List.getElem?_cons_succ, List.getElem?_cons_zero]
  repeat (go_big_quiet_step (fail))
  refine wpQuiet_nil ?_
  clear f0 f1
  refine wpPlan_one ?_
  simp only [pickOps, List.getElem?_cons_succ, List.getElem?_cons_zero]
  go_wp2_with fail
  refine (rdTr_any w0 _ p r (H.out.rd.ext' (Ext.drewN w 1))).mono ?_
  rintro e w1 ⟨rfl, hr, hc⟩
  have hc' := (Chg.of_ext (S := (· = p)) (Ext.drewN w 1)).trans hc (fun _ _ e => e)
  have H1 := Lib.hid (H.out.read hr hc')
  have HC := Lib.hid hc'
  have HBQ1 := Lib.hid ((hc'.block q (block_lt HBQ.out) H.out.qp).trans HBQ.out)
  have HTU : Hid (∀ w', Ext w1 w' → ∃ z : Turned, w' = turned w (fun k => k == p) z.d z.f z.os) := Lib.hid (fun w' hx => turned_of_chg ((HC.out.trans (Chg.of_ext (S := (· = p)) hx) (fun _ _ e => e)).mono (fun _ _ e => by simpa using e)))
  clear hr hc hc' H HBQ
  generalize hy : (rdTr r).1 = y at *
  generalize hr1 : (rdTr r).2 = r1 at *
  have HY := Lib.hid hy
  have HR1 := Lib.hid hr1
  clear hy hr1
  go_wp2_with fail
  refine thenX_mk (HTU.out w1 (Ext.refl _)) (wpPlan_one ?_)
  simp only [pickOps, List.getElem?_cons_succ, List.getElem?_cons_zero]
  go_wp2_with fail
  generalize hw2 : w1.alloc _ = w2
  have hx2 : Ext w1 w2 := by rw [← hw2]; exact (Ext.refl w1).alloc _
  have hsrc : Src w2 5 (.slice (some ⟨w1.heap.size, 0, none⟩) 1 1) 1 (trs [y]) := src_tr (p := y) (by rw [← hw2]; exact heap_alloc_new w1 _)
  have HSRC := Lib.hid hsrc
  have HBQ2 := Lib.hid (hx2.keep HBQ1.out)
  have H2 := Lib.hid (H1.out.ext' hx2)
  have hrow : Row w2 76 5 (.slice a n c) n (trs l) := by
    obtain ⟨a2, c2, hb2, hrow, -⟩ := H2.out.blk
    have := hb2.symm.trans HBQ2.out
    simp at this
    obtain ⟨rfl, rfl⟩ := this
    exact hrow
  have HROW := Lib.hid hrow
  have HTU2 := Lib.hid (HTU.out w2 hx2)
  clear hw2 hx2 hsrc hrow HTU H1 HBQ1
  refine thenX_mk HTU2.out (wpPlan_one ?_)
  simp only [pickOps, List.getElem?_cons_succ, List.getElem?_cons_zero]
  refine wpList_append_to (n := n) (m := 1) elem_tier rfl _ _ rfl (v := .slice a n c) rfl rfl HROW.out HSRC.out (by unfold maxLen; omega) (by omega) ?_
  intro v3 w3 happ
  rw [← trs_append] at happ
  obtain ⟨hq3, hfin⟩ := H2.out.add HBQ2.out HO.out happ
  have HFIN := Lib.hid hfin
  have d0 : w3.cell? ⟨q, 7, none⟩ = some (.slice a n c) := by rw [cell_of_block hq3 7]; rfl
  have z0 := free_of_block hq3 7
  obtain ⟨a3, c3, rfl⟩ := happ.row.shape
  clear happ hq3 hfin
  go_wp2_with fail
  refine thenX_last (wpPlan_one ?_)
  simp only [pickOps, List.getElem?_cons_succ, List.getElem?_cons_zero]
  go_wp2_with fail
  refine thenX_last (wpPlan_one ?_)
  simp only [pickOps, List.getElem?_cons_succ, List.getElem?_cons_zero]
  go_wp2_with fail
  refine thenX_last (wpPlan_done ?_)
  go_wp2_with fail
  go_end0
  rw [HY.out, HR1.out]
  exact ⟨rfl, HFIN.out⟩
end Go.Proofs.YtgdgjnecgelalaaGreatDoor
