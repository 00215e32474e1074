/- The heap of merge: pop. -/
import Derived.Test.YtlgdfiapljmojaaMg2
namespace Go.Proofs.Ytlgdfiapljmojaa
open Go.RowKit Go.Sort Go.Lib

/-- The heap is cut. -/
theorem HeapAt.cut {W0 w : World} {h g : Nat} {n c : Nat} {L : List Cur} (H : HeapAt W0 w h (.slice (some ⟨g, 0, none⟩) n c) L) (m : Nat) (hm : m ≤ L.length) :
    HeapAt W0 (w.setCell ⟨h, 0, none⟩ (.slice (some ⟨g, 0, none⟩) m c)) h (.slice (some ⟨g, 0, none⟩) m c) (L.take m) := by
  have hc := setCell_chg w h 0 (.slice (some ⟨g, 0, none⟩) m c)
  obtain ⟨hg, hgh⟩ := H.vge g rfl
  refine ⟨?_, ?_, Chg.ext ((Chg.of_ext H.base).trans hc (fun _ _ h => h)) (fun i hi e => by have := H.hge; omega), H.hge, fun k hk => H.vge k hk, fun y hy => H.ok y (List.mem_of_mem_take hy)⟩
  · rw [setCell_block H.blk]; simp
  · have hl : (L.take m).length = m := by simp; omega
    rw [hl]
    have key : Row w 47 2 (.slice (some ⟨g, 0, none⟩) m c) m (curs (L.take m)) := by
      obtain ⟨hlen, ⟨e, _⟩ | ⟨g', cap, cur, e, hb, hg', hnc, hcm, hcs, htk⟩⟩ := H.row
      · simp at e
      · simp at e
        obtain ⟨rfl, rfl, rfl⟩ := e
        refine ⟨by rw [curs_len, hl], .inr ⟨g, c, cur, rfl, Nat.zero_le _, hg', by omega, hcm, hcs, ?_⟩⟩
        rw [curs_take, ← htk, List.take_take]
        congr 1; omega
    exact key.chg hc (fun k hk => by simp [Value.ownBlock] at hk; omega)

/-- What a pop leaves. -/
def Popped (W0 w : World) (h : Nat) (v : Value) (L : List Cur) (e : Ending) (w' : World) : Prop :=
  ∃ x v' L', e = .returned x.val ∧ HeapAt W0 w' h v' L' ∧ (x :: L').Perm L ∧ Heap leC L' ∧ (∀ y ∈ L, leC x y) ∧ Chg (fun k => k = h ∨ v.ownBlock = some k) w w' ∧ v'.ownBlock = v.ownBlock

set_option maxHeartbeats 4000000 in
set_option maxRecDepth 100000 in
theorem pop_any (W0 w : World) (h : Nat) (v : Value) (L : List Cur) (H : HeapAt W0 w h v L) (hp : Heap leC L) (h0 : L ≠ []) (hL : L.length < 4000) :
    Calls Try.prog 17 #[.pointer (some ⟨h, 0, none⟩)] w (Popped W0 w h v L) := by
  have hh : h < w.heap.size := block_lt H.blk
  obtain ⟨va, vn, vc, rfl⟩ : ∃ va vn vc, v = .slice va vn vc := by obtain ⟨a, c, e⟩ := H.row.shape; exact ⟨a, _, c, e⟩
  obtain ⟨g, rfl, rfl, hg0, hgh, hglt, hcells, hfz⟩ := H.at h0
  obtain ⟨last, hlast⟩ : ∃ last, L.length = last + 1 := ⟨L.length - 1, by have := List.length_pos_iff.2 h0; omega⟩
  have hxk : L[0]? = some (L[0]'(by omega)) := List.getElem?_eq_getElem (by omega)
  have hzk : L[last]? = some (L[last]'(by omega)) := List.getElem?_eq_getElem (by omega)
  obtain ⟨x, hx⟩ : ∃ x, x = L[0]'(by omega) := ⟨_, rfl⟩
  obtain ⟨z, hz⟩ : ∃ z, z = L[last]'(by omega) := ⟨_, rfl⟩
  rw [← hx] at hxk; rw [← hz] at hzk
  clear hx hz
  obtain ⟨x0, x1⟩ := hcells 0 x hxk
  obtain ⟨z0, z1⟩ := hcells last z hzk
  simp only [Nat.zero_mul, Nat.zero_add] at x0 x1
  have f0 := hfz 0; have f1 := hfz 1
  have hv : w.cell? ⟨h, 0, none⟩ = some (.slice (some ⟨g, 0, none⟩) L.length vc) := by have := cell_of_block H.blk 0; simpa using this
  rw [hlast] at hv H hL
  have H' := Lib.hid H
  have HP := Lib.hid hp
  have XK := Lib.hid hxk; have ZK := Lib.hid hzk
  have ZO := Lib.hid (H.ok z (List.mem_of_getElem? hzk))
  have HL := Lib.hid hlast
  rw [hlast]
  clear H hp hcells hfz hxk hzk h0 hlast
  go_enter Try.func17, Try.ntmps17
  go_wp2_with fail
  generalize hW : World.alloc _ _ = W
  have HX : Hid (Ext w W) := Lib.hid (by subst hW; exact (Ext.refl w).alloc _)
  have B2 : Hid (W.heap[w.heap.size]? = some (.cells #[.slice none 0 0, .int .i64 0] 47 (0, 0))) := Lib.hid (by subst hW; exact heap_alloc_new w _)
  replace hv := (HX.out.cell (p := ⟨h, 0, none⟩) hh).trans hv
  replace x0 := (HX.out.cell (p := ⟨g, 0, none⟩) hglt).trans x0
  replace x1 := (HX.out.cell (p := ⟨g, 1, none⟩) hglt).trans x1
  clear hW
  have e0 := cell_turned (T := fun _ => false) x0 rfl
  have e1 := cell_turned (T := fun _ => false) x1 rfl
  have e2 := cell_turned (T := fun _ => false) hv rfl
  refine wp_region_plan 14 (fun w' => ∃ p : Turned, w' = turned W (fun _ => false) p.d p.f p.os) (.reads [0, 1, 2, 3, 4, 5, 6, 7, 8, 9, 10, 11] (.one 12 (.one 13 (.one 14 .done)))) (by kernel_rfl) (by kernel_rfl) (fun _ _ dd _ _ hh => by cases dd <;> exact hh) ?_ ?_
  · exact turned_of_ext (Ext.drewN W 1)
  refine wpPlan_reads ?_
  simp only [pickOps, List.getElem?_cons_succ, List.getElem?_cons_zero]
  repeat (go_big_quiet_step (fail))
  refine wpQuiet_nil ?_
  have X0 := Lib.hid x0; have X1 := Lib.hid x1
  clear e0 e1 e2 x0 x1 hv
  refine wpPlan_one ?_
  simp only [pickOps, List.getElem?_cons_succ, List.getElem?_cons_zero]
  go_wp2_with fail
  refine thenX_mk (turned_of_ext ((Ext.refl W).alloc _).drew) (wpPlan_one ?_)
  simp only [pickOps, List.getElem?_cons_succ, List.getElem?_cons_zero]
  go_wp2_with fail
  refine thenX_mk (turned_of_ext ((Ext.refl W).alloc _).drew) (wpPlan_one ?_)
  simp only [pickOps, List.getElem?_cons_succ, List.getElem?_cons_zero]
  go_wp2_with fail
  refine thenX_last (wpPlan_done ?_)
  generalize hW2 : World.drew (World.alloc _ _) = W2
  have HX2 : Hid (Ext W W2) := Lib.hid (by subst hW2; exact ((Ext.refl W).alloc _).drew)
  have B3 : Hid (W2.heap[W.heap.size]? = some (.cells #[.slice x.a x.n x.c, .int .i64 x.i] 47 (0, 0))) := Lib.hid (by subst hW2; exact heap_alloc_new W _)
  have HX2' := Lib.hid (HX.out.trans HX2.out)
  have hv := (HX2'.out.cell (p := ⟨h, 0, none⟩) hh).trans (show w.cell? ⟨h, 0, none⟩ = some (.slice (some ⟨g, 0, none⟩) (last + 1) vc) by have := cell_of_block H'.out.blk 0; simpa using this)
  replace z0 := (HX2'.out.cell (p := ⟨g, last * 2, none⟩) hglt).trans z0
  replace z1 := (HX2'.out.cell (p := ⟨g, last * 2 + 1, none⟩) hglt).trans z1
  replace f0 := (HX2'.out.frozens g 0 hglt).trans f0
  replace f1 := (HX2'.out.frozens g 1 hglt).trans f1
  have hgW : g < W.heap.size := Nat.lt_of_lt_of_le hglt HX.out.size
  have x0 := (HX2.out.cell (p := ⟨g, 0, none⟩) hgW).trans X0.out
  have x1 := (HX2.out.cell (p := ⟨g, 1, none⟩) hgW).trans X1.out
  clear hW2
  go_wp2_with fail
  refine wp_region_split_lit [] [0, 1, 2, 3, 4, 5, 6, 7, 8, 9, 10, 11] [12] (by kernel_rfl) (by kernel_rfl) (fun _ _ dd _ _ hh => by cases dd <;> exact hh) ?_
  simp only [pickOps, List.getElem?_cons_succ, List.getElem?_cons_zero]
  refine wpQuiet_nil ?_
  repeat (go_big_quiet_step (fail))
  refine wpQuiet_nil ?_
  intro W3 hw'
  have HX3 : Hid (Ext W2 W3) := Lib.hid (by obtain ⟨k, rfl⟩ := hw'; exact Ext.drewN _ _)
  clear hw'
  have hg2 : g < W2.heap.size := World.block_lt_of_cell? W2 _ x0
  have hh2 : h < W2.heap.size := World.block_lt_of_cell? W2 _ hv
  have B32 : W3.heap[h]? = some (.cells #[.slice (some ⟨g, 0, none⟩) (last + 1) vc, .func (.func 14) #[] #[]] 43 (0, 0)) := (HX3.out.block hh2).trans ((HX2'.out.block hh).trans H'.out.blk)
  have hhf : W3.frozen? ⟨h, 0, none⟩ = false := free_of_block B32 0
  clear B32
  replace hv := (HX3.out.cell (p := ⟨h, 0, none⟩) hh2).trans hv
  replace x0 := (HX3.out.cell (p := ⟨g, 0, none⟩) hg2).trans x0
  replace x1 := (HX3.out.cell (p := ⟨g, 1, none⟩) hg2).trans x1
  replace f0 := (HX3.out.frozens g 0 hg2).trans f0
  replace f1 := (HX3.out.frozens g 1 hg2).trans f1
  have hcut : last ≤ vc := by
    obtain ⟨_, ⟨e, _⟩ | ⟨g', cap, cur, e, _, _, hnc, _⟩⟩ := H'.out.row
    · simp at e
    · have := HL.out; simp at e; omega
  clear z0 z1
  have HS := Lib.hid (((H'.out.ext HX2'.out).ext HX3.out).set 0 z ZO.out)
  have HC5 := Lib.hid (HS.out.cut last (by have := HL.out; simp; omega))
  have hgh' : h ≠ g := fun e => hgh e.symm
  have HC := Lib.hid (show Chg (fun k => k = h ∨ (Value.slice (some ⟨g, 0, none⟩) (last + 1) vc).ownBlock = some k) w (((W3.setCell ⟨g, 0 * 2, none⟩ (.slice z.a z.n z.c)).setCell ⟨g, 0 * 2 + 1, none⟩ (.int .i64 z.i)).setCell ⟨h, 0, none⟩ (.slice (some ⟨g, 0, none⟩) last vc)) from
    (((Chg.of_ext (HX2'.out.trans HX3.out)).trans (setCell_chg _ g _ _) (fun _ _ e => .inr (by rw [e]; rfl))).trans (setCell_chg _ g _ _) (fun _ _ e => .inr (by rw [e]; rfl))).trans (setCell_chg _ h _ _) (fun _ _ e => .inl e))
  have hb2 : w.heap.size < W2.heap.size := Nat.lt_of_lt_of_le (block_lt B2.out) HX2.out.size
  have B2' : Hid ((((W3.setCell ⟨g, 0 * 2, none⟩ (.slice z.a z.n z.c)).setCell ⟨g, 0 * 2 + 1, none⟩ (.int .i64 z.i)).setCell ⟨h, 0, none⟩ (.slice (some ⟨g, 0, none⟩) last vc)).heap[w.heap.size]? = some (.cells #[.slice none 0 0, .int .i64 0] 47 (0, 0))) := Lib.hid (by
    rw [setCell_other (by omega), setCell_other (by omega), setCell_other (by omega), HX3.out.block hb2, HX2.out.block (block_lt B2.out)]; exact B2.out)
  have B3' : Hid ((((W3.setCell ⟨g, 0 * 2, none⟩ (.slice z.a z.n z.c)).setCell ⟨g, 0 * 2 + 1, none⟩ (.int .i64 z.i)).setCell ⟨h, 0, none⟩ (.slice (some ⟨g, 0, none⟩) last vc)).heap[W.heap.size]? = some (.cells #[.slice x.a x.n x.c, .int .i64 x.i] 47 (0, 0))) := Lib.hid (by
    have := HX.out.size
    rw [setCell_other (by omega), setCell_other (by omega), setCell_other (by omega), HX3.out.block (block_lt B3.out)]; exact B3.out)
  simp only [Nat.zero_mul, Nat.zero_add] at HC5 HC B2' B3'
  go_wp2_with fail
  generalize hW5 : (((W3.setCell ⟨g, 0, none⟩ (.slice z.a z.n z.c)).setCell ⟨g, 1, none⟩ (.int .i64 z.i)).setCell ⟨h, 0, none⟩ (.slice (some ⟨g, 0, none⟩) last vc)) = W5 at *
  clear hW5
  have hbW : W.heap.size ≠ g := by omega
  have hbw : w.heap.size ≠ g := by omega
  have hb5 := Lib.hid (block_lt B2'.out)
  have hl5 : ((L.set 0 z).take last).length = last := by have := HL.out; simp; omega
  have HL5 := Lib.hid hl5
  clear hl5 hv x0 x1 f0 f1 hhf HS X0 X1 B2 B3
  go_loopw [5, 6] (fun si _ wr => ∃ (i : Nat) (L' : List Cur), si = .int .i64 i ∧ i ≤ last ∧ Hid (L'.length = last ∧ DownInv leC L' i ∧ (x :: L').Perm L ∧ HeapAt W0 wr h (.slice (some ⟨g, 0, none⟩) last vc) L' ∧ Chg (· = g) W5 wr)) (fun si _ _ => last - (intOf si).toNat)
  case atStart =>
    exact ⟨0, _, rfl, by omega, Lib.hid ⟨HL5.out, DownInv.new HP.out z last, pop_perm HL.out XK.out ZK.out, HC5.out, Chg.refl _ _⟩⟩
  case round =>
    obtain ⟨i, L', rfl, hi, I⟩ := hrel
    have hvr : wr.cell? ⟨h, 0, none⟩ = some (.slice (some ⟨g, 0, none⟩) last vc) := by have := cell_of_block I.out.2.2.2.1.blk 0; simpa using this
    have hfr : wr.cell? ⟨h, 1, none⟩ = some (.func (.func 14) #[] #[]) := by have := cell_of_block I.out.2.2.2.1.blk 1; simpa using this
    have q2 : Hid (∀ w', Ext wr w' → w'.heap[w.heap.size]? = some (.cells #[.slice none 0 0, .int .i64 0] 47 (0, 0))) := Lib.hid (fun w' hx => by
      have h1 := I.out.2.2.2.2.block _ (block_lt B2'.out) hbw
      rw [hx.block (block_lt (h1.trans B2'.out)), h1]; exact B2'.out)
    have q3 : Hid (∀ w', Ext wr w' → w'.heap[W.heap.size]? = some (.cells #[.slice x.a x.n x.c, .int .i64 x.i] 47 (0, 0))) := Lib.hid (fun w' hx => by
      have h1 := I.out.2.2.2.2.block _ (block_lt B3'.out) hbW
      rw [hx.block (block_lt (h1.trans B3'.out)), h1]; exact B3'.out)
    have fin : ∀ w' : World, Hid (Ext wr w' → Heap leC L' → Popped W0 w h (.slice (some ⟨g, 0, none⟩) (last + 1) vc) L (.returned x.val) ((w'.setCell ⟨w.heap.size, 0, none⟩ (.slice x.a x.n x.c)).setCell ⟨w.heap.size, 1, none⟩ (.int .i64 x.i))) := fun w' => Lib.hid (fun hx hheap => by
      obtain ⟨_, _, i2, i3, i4⟩ := I.out
      have hcc : Chg (· = w.heap.size) w' ((w'.setCell ⟨w.heap.size, 0, none⟩ (.slice x.a x.n x.c)).setCell ⟨w.heap.size, 1, none⟩ (.int .i64 x.i)) := (setCell_chg _ _ _ _).trans (setCell_chg _ _ _ _) (fun _ _ h => h)
      refine ⟨x, _, L', rfl, (i3.ext hx).chg hcc (by omega) (fun k hk => by simp [Value.ownBlock] at hk; omega) (fun k hk => by have := H'.out.base.size; omega), i2, hheap, ?_, ((HC.out.trans i4 (fun _ _ e => .inr (by rw [e]; rfl))).trans (Chg.of_ext (S := fun _ => False) hx) (fun _ _ h => h.elim)).trans hcc (fun _ hi e => by omega), rfl⟩
      intro y hy
      obtain ⟨k, hk⟩ := List.mem_iff_getElem?.1 hy
      exact HP.out.first leC_ord XK.out k y hk)
    by_cases hk : 2 * i + 1 < last
    · obtain ⟨g', hgg, hnn, hq4, hq5, hq6, hcells, hfz⟩ := I.out.2.2.2.1.at (fun e => by have := I.out.1; rw [e] at this; simp at this; omega)
      simp at hgg; subst hgg
      clear hnn
      have hlen := I.out.1
      have hxk : L'[i]? = some (L'[i]'(by omega)) := List.getElem?_eq_getElem (by omega)
      have hyk : L'[2 * i + 1]? = some (L'[2 * i + 1]'(by omega)) := List.getElem?_eq_getElem (by omega)
      obtain ⟨xk, hxk'⟩ : ∃ xk, xk = L'[i]'(by omega) := ⟨_, rfl⟩
      obtain ⟨yk, hyk'⟩ : ∃ yk, yk = (L'[2 * i + 1]'(by omega)) := ⟨_, rfl⟩
      rw [← hxk'] at hxk; rw [← hyk'] at hyk
      clear hxk' hyk'
      obtain ⟨x0, x1⟩ := hcells i xk hxk
      obtain ⟨y0, y1⟩ := hcells _ yk hyk
      have XO := Lib.hid (I.out.2.2.2.1.ok xk (List.mem_of_getElem? hxk))
      have YO := Lib.hid (I.out.2.2.2.1.ok yk (List.mem_of_getElem? hyk))
      have XI := Lib.hid hxk; have YI := Lib.hid hyk
      have HCE := Lib.hid hcells; have HFZ := Lib.hid hfz; have HLE := Lib.hid hlen
      clear hxk hyk hcells hfz hlen
      by_cases hk1 : 2 * i + 1 + 1 < last
      case' neg =>
        have MIN : Hid (∀ (j : Nat) (c : Cur), 0 < j → (j - 1) / 2 = i → L'[j]? = some c → leC yk c) := Lib.hid (fun j c h1 h2 h3 => by
          have h4 := (List.getElem?_eq_some_iff.1 h3).1
          have h5 := HLE.out
          obtain rfl : j = 2 * i + 1 := by omega
          rw [YI.out] at h3; cases h3; exact leC_ord.refl _)
        have hb1 : decide (2 * (i : Int) + 1 + 1 < (last : Int)) = false := by simp; omega
        go_wp2_with fail
        refine wp_region_split_lit [] [0, 1, 2, 3, 4, 5, 6, 7, 8, 9, 10, 11, 12, 13, 14, 15, 16, 17, 18, 19, 20, 21, 22, 23] [24, 25] (by kernel_rfl) (by kernel_rfl) (fun _ _ dd _ _ hh => by cases dd <;> exact hh) ?_
        simp only [pickOps, List.getElem?_cons_succ, List.getElem?_cons_zero]
        refine wpQuiet_nil ?_
        repeat (go_big_quiet_step (fail))
        refine wpQuiet_nil ?_
        intro w2 hw'
        have HXa : Hid (Ext wr w2) := Lib.hid (by obtain ⟨k, rfl⟩ := hw'; exact Ext.drewN _ _)
        clear hw'
        go_wp2_with fail
        clear hb1
        obtain ⟨kk, hkk⟩ : ∃ kk, kk = 2 * i + 1 := ⟨_, rfl⟩
        rw [← hkk] at YI y0 y1
        rw [show 2 * (i : Int) + 1 = (kk : Int) by omega]
        have HKK : Hid (0 < kk ∧ (kk - 1) / 2 = i ∧ kk < last ∧ i < kk) := Lib.hid (by omega)
        clear hk hk1 hkk
        obtain ⟨ck, CI, CO, c0, c1, MIN⟩ : ∃ ck : Cur, Hid (L'[kk]? = some ck) ∧ Hid (ck.Ok W0) ∧ wr.cell? ⟨g, kk * 2, none⟩ = some (.slice ck.a ck.n ck.c) ∧ wr.cell? ⟨g, kk * 2 + 1, none⟩ = some (.int .i64 ck.i) ∧ Hid (∀ (j : Nat) (c : Cur), 0 < j → (j - 1) / 2 = i → L'[j]? = some c → leC ck c) :=
          ⟨yk, YI, YO, y0, y1, MIN⟩
        clear YI YO y0 y1
      case' pos =>
        have hzk : L'[2 * i + 1 + 1]? = some (L'[2 * i + 1 + 1]'(by have := HLE.out; omega)) := List.getElem?_eq_getElem (by have := HLE.out; omega)
        obtain ⟨zk, hzk'⟩ : ∃ zk, zk = (L'[2 * i + 1 + 1]'(by have := HLE.out; omega)) := ⟨_, rfl⟩
        rw [← hzk'] at hzk
        clear hzk'
        obtain ⟨z0, z1⟩ := HCE.out _ zk hzk
        have ZI := Lib.hid hzk
        have ZOk := Lib.hid (I.out.2.2.2.1.ok zk (List.mem_of_getElem? hzk))
        clear hzk
        have hb1 : decide (2 * (i : Int) + 1 + 1 < (last : Int)) = true := by simp; omega
        go_wp2_with fail
        refine wp_region_split_lit [] [0, 1, 2, 3, 4, 5, 6, 7, 8, 9, 10, 11, 12, 13, 14, 15, 16, 17, 18, 19, 20, 21, 22, 23] [24, 25] (by kernel_rfl) (by kernel_rfl) (fun _ _ dd _ _ hh => by cases dd <;> exact hh) ?_
        simp only [pickOps, List.getElem?_cons_succ, List.getElem?_cons_zero]
        refine wpQuiet_nil ?_
        repeat (go_big_quiet_step (fail))
        refine wpQuiet_nil ?_
        intro wa hw'
        have HXo : Hid (Ext wr wa) := Lib.hid (by obtain ⟨k, rfl⟩ := hw'; exact Ext.drewN _ _)
        clear hw'
        go_wp2_with fail
        refine (before_any zk yk wa (ZOk.out.ext (I.out.2.2.2.1.base.trans HXo.out)) (YO.out.ext (I.out.2.2.2.1.base.trans HXo.out))).mono ?_
        rintro e w2 ⟨rfl, hx3⟩
        have HXa := Lib.hid (HXo.out.trans hx3); clear hx3 HXo hb1
        cases hah : ahead zk yk
        case' false =>
          have MIN : Hid (∀ (j : Nat) (c : Cur), 0 < j → (j - 1) / 2 = i → L'[j]? = some c → leC yk c) := Lib.hid (fun j c h1 h2 h3 => by
            have h4 := (List.getElem?_eq_some_iff.1 h3).1
            have h5 := HLE.out
            rcases (show j = 2 * i + 1 ∨ j = 2 * i + 1 + 1 by omega) with rfl | rfl
            · rw [YI.out] at h3; cases h3; exact leC_ord.refl _
            · rw [ZI.out] at h3; cases h3; exact hah)
          clear hah
          go_wp2_with fail
          obtain ⟨kk, hkk⟩ : ∃ kk, kk = 2 * i + 1 := ⟨_, rfl⟩
          rw [← hkk] at YI y0 y1
          rw [show 2 * (i : Int) + 1 = (kk : Int) by omega]
          have HKK : Hid (0 < kk ∧ (kk - 1) / 2 = i ∧ kk < last ∧ i < kk) := Lib.hid (by omega)
          clear hk hk1 hkk
          obtain ⟨ck, CI, CO, c0, c1, MIN⟩ : ∃ ck : Cur, Hid (L'[kk]? = some ck) ∧ Hid (ck.Ok W0) ∧ wr.cell? ⟨g, kk * 2, none⟩ = some (.slice ck.a ck.n ck.c) ∧ wr.cell? ⟨g, kk * 2 + 1, none⟩ = some (.int .i64 ck.i) ∧ Hid (∀ (j : Nat) (c : Cur), 0 < j → (j - 1) / 2 = i → L'[j]? = some c → leC ck c) :=
            ⟨yk, YI, YO, y0, y1, MIN⟩
          clear YI YO y0 y1 z0 z1
        case' true =>
          have MIN : Hid (∀ (j : Nat) (c : Cur), 0 < j → (j - 1) / 2 = i → L'[j]? = some c → leC zk c) := Lib.hid (fun j c h1 h2 h3 => by
            have h4 := (List.getElem?_eq_some_iff.1 h3).1
            have h5 := HLE.out
            rcases (show j = 2 * i + 1 ∨ j = 2 * i + 1 + 1 by omega) with rfl | rfl
            · rw [YI.out] at h3; cases h3; exact leC_of_ahead hah
            · rw [ZI.out] at h3; cases h3; exact leC_ord.refl _)
          clear hah
          go_wp2_with fail
          obtain ⟨kk, hkk⟩ : ∃ kk, kk = 2 * i + 1 + 1 := ⟨_, rfl⟩
          rw [← hkk] at ZI z0 z1
          rw [show 2 * (i : Int) + 1 + 1 = (kk : Int) by omega]
          have HKK : Hid (0 < kk ∧ (kk - 1) / 2 = i ∧ kk < last ∧ i < kk) := Lib.hid (by omega)
          clear hk hk1 hkk
          obtain ⟨ck, CI, CO, c0, c1, MIN⟩ : ∃ ck : Cur, Hid (L'[kk]? = some ck) ∧ Hid (ck.Ok W0) ∧ wr.cell? ⟨g, kk * 2, none⟩ = some (.slice ck.a ck.n ck.c) ∧ wr.cell? ⟨g, kk * 2 + 1, none⟩ = some (.int .i64 ck.i) ∧ Hid (∀ (j : Nat) (c : Cur), 0 < j → (j - 1) / 2 = i → L'[j]? = some c → leC ck c) :=
            ⟨zk, ZI, ZOk, z0, z1, MIN⟩
          clear YI YO y0 y1 z0 z1
      all_goals
        have hgr : g < wr.heap.size := World.block_lt_of_cell? wr _ x0
        have hhr : h < wr.heap.size := World.block_lt_of_cell? wr _ hvr
        replace hvr := (HXa.out.cell (p := ⟨h, 0, none⟩) hhr).trans hvr
        replace hfr := (HXa.out.cell (p := ⟨h, 1, none⟩) hhr).trans hfr
        replace x0 := (HXa.out.cell (p := ⟨g, i * 2, none⟩) hgr).trans x0
        replace x1 := (HXa.out.cell (p := ⟨g, i * 2 + 1, none⟩) hgr).trans x1
        replace c0 := (HXa.out.cell (p := ⟨g, kk * 2, none⟩) hgr).trans c0
        replace c1 := (HXa.out.cell (p := ⟨g, kk * 2 + 1, none⟩) hgr).trans c1
        have hkl : kk < last := HKK.out.2.2.1
        have hil : i < last := by have := HKK.out; omega
        have hkl2 : decide (last ≤ kk) = false := by simp; omega
        refine wp_region_split_lit [] [0, 1, 2, 3, 4, 5, 6, 7, 8, 9, 10, 11, 12, 13, 14, 15, 16, 17, 18, 19, 20, 21] [22, 23, 24] (by kernel_rfl) (by kernel_rfl) (fun _ _ dd _ _ hh => by cases dd <;> exact hh) ?_
        simp only [pickOps, List.getElem?_cons_succ, List.getElem?_cons_zero]
        refine wpQuiet_nil ?_
        repeat (go_big_quiet_step (fail))
        refine wpQuiet_nil ?_
        intro w3 hw'
        have HXb : Hid (Ext wr w3) := Lib.hid (by obtain ⟨k, rfl⟩ := hw'; exact HXa.out.trans (Ext.drewN _ _))
        have HXc : Hid (Ext w2 w3) := Lib.hid (by obtain ⟨k, rfl⟩ := hw'; exact Ext.drewN _ _)
        clear hw'
        go_wp2_with fail
        refine (before_any ck xk w3 (CO.out.ext (I.out.2.2.2.1.base.trans HXb.out)) (XO.out.ext (I.out.2.2.2.1.base.trans HXb.out))).mono ?_
        rintro e w4 ⟨rfl, hx4⟩
        have HXd := Lib.hid (HXb.out.trans hx4)
        have HXe := Lib.hid (HXc.out.trans hx4); clear hx4 hkl2
        cases hah : ahead ck xk
        · have Hh : Hid (Heap leC L') := Lib.hid (I.out.2.1.done (fun k a b hk0 hki ha hb => by
            rw [XI.out] at hb; cases hb
            exact leC_ord.trans _ _ _ hah (MIN.out k a hk0 hki ha)))
          clear hah hvr hfr x0 x1 c0 c1
          have b2 := q2.out w4 HXd.out; have b3 := q3.out w4 HXd.out
          have r0 : w4.cell? ⟨W.heap.size, 0, none⟩ = some (.slice x.a x.n x.c) := by have := cell_of_block b3 0; simpa using this
          have r1 : w4.cell? ⟨W.heap.size, 1, none⟩ = some (.int .i64 x.i) := by have := cell_of_block b3 1; simpa using this
          have s0 : w4.cell? ⟨w.heap.size, 0, none⟩ = some (.slice none 0 0) := by have := cell_of_block b2 0; simpa using this
          have s1 : w4.cell? ⟨w.heap.size, 1, none⟩ = some (.int .i64 0) := by have := cell_of_block b2 1; simpa using this
          have s2 := free_of_block b2 0
          have s3 := free_of_block b2 1
          have t0 : (w4.setCell ⟨w.heap.size, 0, none⟩ (.slice x.a x.n x.c)).cell? ⟨w.heap.size, 0, none⟩ = some (.slice x.a x.n x.c) := by have := cell_of_block (setCell_block (i := 0) b2 (.slice x.a x.n x.c)) 0; simpa using this
          have t1 : ((w4.setCell ⟨w.heap.size, 0, none⟩ (.slice x.a x.n x.c)).setCell ⟨w.heap.size, 1, none⟩ (.int .i64 x.i)).cell? ⟨w.heap.size, 1, none⟩ = some (.int .i64 x.i) := by
            have := cell_of_block (setCell_block (i := 1) (setCell_block (i := 0) b2 (.slice x.a x.n x.c)) (.int .i64 x.i)) 1; simpa using this
          have T0 := Lib.hid t0; have T1 := Lib.hid t1
          clear b2 b3 t0 t1
          go_wp2_with fail
          exact bodyPost_ret (v := x.val) (by simp [results, Try.results17, go_sem, Cur.val, T0.out, T1.out]) rfl ((fin w4).out HXd.out Hh.out)
        · have HA := Lib.hid hah
          have hg2' : g < w2.heap.size := World.block_lt_of_cell? w2 _ x0
          have hh2' : h < w2.heap.size := World.block_lt_of_cell? w2 _ hvr
          replace hvr := (HXe.out.cell (p := ⟨h, 0, none⟩) hh2').trans hvr
          replace x0 := (HXe.out.cell (p := ⟨g, i * 2, none⟩) hg2').trans x0
          replace x1 := (HXe.out.cell (p := ⟨g, i * 2 + 1, none⟩) hg2').trans x1
          replace c0 := (HXe.out.cell (p := ⟨g, kk * 2, none⟩) hg2').trans c0
          replace c1 := (HXe.out.cell (p := ⟨g, kk * 2 + 1, none⟩) hg2').trans c1
          clear hah hfr
          go_wp2_with fail
          refine wp_region_split_lit [9] [0, 1, 2, 3, 4, 5, 6, 7, 8, 10, 11, 12, 13, 14, 15, 16, 17, 18, 19, 20, 21, 22, 23, 24] [25, 26, 27] (by kernel_rfl) (by kernel_rfl) (fun _ _ dd _ _ hh => by cases dd <;> exact hh) ?_
          simp only [pickOps, List.getElem?_cons_succ, List.getElem?_cons_zero]
          repeat (go_big_quiet_step (fail))
          refine wpQuiet_nil ?_
          repeat (go_big_quiet_step (fail))
          refine wpQuiet_nil ?_
          intro w5 hw'
          have HXf : Hid (Ext wr w5) := Lib.hid (by obtain ⟨k, rfl⟩ := hw'; exact HXd.out.trans (Ext.drewN _ _))
          have HXg : Hid (Ext w4 w5) := Lib.hid (by obtain ⟨k, rfl⟩ := hw'; exact Ext.drewN _ _)
          clear hw' hvr
          have hg4 : g < w4.heap.size := World.block_lt_of_cell? w4 _ x0
          replace x0 := (HXg.out.cell (p := ⟨g, i * 2, none⟩) hg4).trans x0
          replace x1 := (HXg.out.cell (p := ⟨g, i * 2 + 1, none⟩) hg4).trans x1
          replace c0 := (HXg.out.cell (p := ⟨g, kk * 2, none⟩) hg4).trans c0
          replace c1 := (HXg.out.cell (p := ⟨g, kk * 2 + 1, none⟩) hg4).trans c1
          have f0 := (HXf.out.frozens g (i * 2) hgr).trans (HFZ.out (i * 2))
          have f1 := (HXf.out.frozens g (i * 2 + 1) hgr).trans (HFZ.out (i * 2 + 1))
          have f2 := (HXf.out.frozens g (kk * 2) hgr).trans (HFZ.out (kk * 2))
          have f3 := (HXf.out.frozens g (kk * 2 + 1) hgr).trans (HFZ.out (kk * 2 + 1))
          have hik : i < kk := HKK.out.2.2.2
          go_wp2_with fail
          obtain ⟨i0, i1, i2, i3, i4⟩ := I.out
          have hs3 := (i3.ext HXf.out).set i ck CO.out
          have hs4 := hs3.set kk xk XO.out
          refine ⟨⟨kk, swapL L' i kk xk ck, rfl, by omega, Lib.hid ⟨by rw [swapL_length]; exact i0, i1.step HKK.out.1 HKK.out.2.1 XI.out CI.out (leC_of_ahead HA.out) MIN.out, ((swapL_perm XI.out CI.out).cons x).trans i2, hs4, ?_⟩⟩, ?_⟩
          · exact ((((i4.trans (Chg.of_ext (S := fun _ => False) HXf.out) (fun _ _ h => h.elim)).trans (setCell_chg _ g _ _) (fun _ _ h => h)).trans (setCell_chg _ g _ _) (fun _ _ h => h)).trans (setCell_chg _ g _ _) (fun _ _ h => h)).trans (setCell_chg _ g _ _) (fun _ _ h => h)
          · simp [intOf]; omega
    · have Hh : Hid (Heap leC L') := Lib.hid (I.out.2.1.done (fun k a b hk0 hki ha _ => by
        have h1 := (List.getElem?_eq_some_iff.1 ha).1
        have h2 := I.out.1
        omega))
      have hk1 : decide (2 * (i : Int) + 1 + 1 < (last : Int)) = false := by simp; omega
      have hk2 : decide ((last : Int) ≤ 2 * (i : Int) + 1) = true := by simp; omega
      go_wp2_with fail
      refine wp_region_split_lit [] [0, 1, 2, 3, 4, 5, 6, 7, 8, 9, 10, 11, 12, 13, 14, 15, 16, 17, 18, 19, 20, 21, 22, 23] [24, 25] (by kernel_rfl) (by kernel_rfl) (fun _ _ dd _ _ hh => by cases dd <;> exact hh) ?_
      simp only [pickOps, List.getElem?_cons_succ, List.getElem?_cons_zero]
      refine wpQuiet_nil ?_
      repeat (go_big_quiet_step (fail))
      refine wpQuiet_nil ?_
      intro w2 hw'
      have HXa : Hid (Ext wr w2) := Lib.hid (by obtain ⟨k, rfl⟩ := hw'; exact Ext.drewN _ _)
      clear hw' hvr hfr
      go_wp2_with fail
      refine wp_region_split_lit [] [0, 1, 2, 3, 4, 5, 6, 7, 8, 9, 10, 11, 12, 13, 14, 15, 16, 17, 18, 19, 20, 21] [22, 23, 24] (by kernel_rfl) (by kernel_rfl) (fun _ _ dd _ _ hh => by cases dd <;> exact hh) ?_
      simp only [pickOps, List.getElem?_cons_succ, List.getElem?_cons_zero]
      refine wpQuiet_nil ?_
      repeat (go_big_quiet_step (fail))
      refine wpQuiet_nil ?_
      intro w3 hw'
      have HXb : Hid (Ext wr w3) := Lib.hid (by obtain ⟨k, rfl⟩ := hw'; exact HXa.out.trans (Ext.drewN _ _))
      clear hw' HXa
      have b2 := q2.out w3 HXb.out; have b3 := q3.out w3 HXb.out
      have r0 : w3.cell? ⟨W.heap.size, 0, none⟩ = some (.slice x.a x.n x.c) := by have := cell_of_block b3 0; simpa using this
      have r1 : w3.cell? ⟨W.heap.size, 1, none⟩ = some (.int .i64 x.i) := by have := cell_of_block b3 1; simpa using this
      have s0 : w3.cell? ⟨w.heap.size, 0, none⟩ = some (.slice none 0 0) := by have := cell_of_block b2 0; simpa using this
      have s1 : w3.cell? ⟨w.heap.size, 1, none⟩ = some (.int .i64 0) := by have := cell_of_block b2 1; simpa using this
      have s2 := free_of_block b2 0
      have s3 := free_of_block b2 1
      have t0 : (w3.setCell ⟨w.heap.size, 0, none⟩ (.slice x.a x.n x.c)).cell? ⟨w.heap.size, 0, none⟩ = some (.slice x.a x.n x.c) := by have := cell_of_block (setCell_block (i := 0) b2 (.slice x.a x.n x.c)) 0; simpa using this
      have t1 : ((w3.setCell ⟨w.heap.size, 0, none⟩ (.slice x.a x.n x.c)).setCell ⟨w.heap.size, 1, none⟩ (.int .i64 x.i)).cell? ⟨w.heap.size, 1, none⟩ = some (.int .i64 x.i) := by
        have := cell_of_block (setCell_block (i := 1) (setCell_block (i := 0) b2 (.slice x.a x.n x.c)) (.int .i64 x.i)) 1; simpa using this
      have T0 := Lib.hid t0; have T1 := Lib.hid t1
      clear b2 b3 t0 t1
      go_wp2_with fail
      exact bodyPost_ret (v := x.val) (by simp [results, Try.results17, go_sem, Cur.val, T0.out, T1.out]) rfl ((fin w3).out HXb.out Hh.out)

end Go.Proofs.Ytlgdfiapljmojaa
