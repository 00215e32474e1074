/- plan.Best. -/
import Derived.Test.YtpgnkknelaajdaaBst
namespace Go.Proofs.Ytpgnkknelaajdaa
open Go.RowKit Go.Sort Go.Lib

def bestStep (fr : Int) (l : List Ti) (p c : Pt) : Pt := if takes fr l p c = true then c else p
def bestOf (fr : Int) (l : List Ti) (cs : List Pt) : Pt := cs.foldl (bestStep fr l) ⟨-1, fr, fr⟩

theorem chFrom_mem (fr to wd st off low : Int) : ∀ (l : List Ti) (i : Nat) (c : Pt), c ∈ chFrom fr to wd st off low l i → ∃ (k : Nat) (t : Ti), c = ⟨(k : Int), spanA fr low t, spanB to t⟩ ∧ i ≤ k ∧ k < i + l.length ∧ l[k - i]? = some t ∧ tierIn wd st off t = true ∧ spanA fr low t < spanB to t
  | [], i, c, h => by simp [chFrom] at h
  | t :: l, i, c, h => by
    rw [chFrom, List.mem_append] at h
    rcases h with h | h
    · unfold oneCh at h
      split at h
      · rename_i hc
        simp at h hc
        exact ⟨i, t, h, Nat.le_refl _, by simp, by simp, hc.1, hc.2⟩
      · simp at h
    · obtain ⟨k, t', rfl, h1, h2, h3, h4, h5⟩ := chFrom_mem fr to wd st off low l (i + 1) c h
      refine ⟨k, t', rfl, by omega, by simp; omega, ?_, h4, h5⟩
      rw [show k - i = (k - (i + 1)) + 1 by omega]
      simpa using h3

/-- What the best one is so far: that of no tier, or a tier's. -/
theorem best_kind (fr : Int) (l : List Ti) (n : Nat) (cs : List Pt) (h : ∀ c ∈ cs, ∃ k : Nat, c.t = k ∧ k < n) :
    bestOf fr l cs = ⟨-1, fr, fr⟩ ∨ ∃ k : Nat, (bestOf fr l cs).t = k ∧ k < n := by
  unfold bestOf
  have : ∀ (cs : List Pt) (p : Pt), (p = ⟨-1, fr, fr⟩ ∨ ∃ k : Nat, p.t = k ∧ k < n) → (∀ c ∈ cs, ∃ k : Nat, c.t = k ∧ k < n) → (cs.foldl (bestStep fr l) p = ⟨-1, fr, fr⟩ ∨ ∃ k : Nat, (cs.foldl (bestStep fr l) p).t = k ∧ k < n) := by
    intro cs
    induction cs with
    | nil => intro p hp _; exact hp
    | cons c cs ih =>
      intro p hp hc
      refine ih _ ?_ (fun x hx => hc x (List.mem_cons_of_mem _ hx))
      unfold bestStep
      split
      · exact .inr (hc c List.mem_cons_self)
      · exact hp
  exact this cs _ (.inl rfl) h

theorem set3 {w : World} {b : Nat} {p : Pt} (h : chBlk w b p) (x y z : Int) : chBlk (((w.setCell ⟨b, 0, none⟩ (.int .i64 x)).setCell ⟨b, 1, none⟩ (.int .i64 y)).setCell ⟨b, 2, none⟩ (.int .i64 z)) b ⟨x, y, z⟩ := by
  unfold chBlk at *
  rw [setCell_block (setCell_block (setCell_block h _) _)]
  simp
theorem set3_ext {w0 w : World} {b : Nat} (h : Ext w0 w) (hb : w0.heap.size ≤ b) (x y z : Int) : Ext w0 (((w.setCell ⟨b, 0, none⟩ (.int .i64 x)).setCell ⟨b, 1, none⟩ (.int .i64 y)).setCell ⟨b, 2, none⟩ (.int .i64 z)) :=
  ((h.setCell hb _).setCell hb _).setCell hb _
theorem ch_cells {w : World} {b : Nat} {p : Pt} (h : chBlk w b p) : w.cell? ⟨b, 0, none⟩ = some (.int .i64 p.t) ∧ w.cell? ⟨b, 1, none⟩ = some (.int .i64 p.v) ∧ w.cell? ⟨b, 2, none⟩ = some (.int .i64 p.s) :=
  ⟨by have := cell_of_block h 0; simpa using this, by have := cell_of_block h 1; simpa using this, by have := cell_of_block h 2; simpa using this⟩
theorem ch_free {w : World} {b : Nat} {p : Pt} (h : chBlk w b p) : w.frozen? ⟨b, 0, none⟩ = false ∧ w.frozen? ⟨b, 1, none⟩ = false ∧ w.frozen? ⟨b, 2, none⟩ = false :=
  ⟨free_of_block h 0, free_of_block h 1, free_of_block h 2⟩
theorem ch_ext {w w' : World} {b : Nat} {p : Pt} (h : chBlk w b p) (hx : Ext w w') : chBlk w' b p := (hx.block (block_lt h)).trans h

set_option maxHeartbeats 2000000 in
set_option maxRecDepth 100000 in
theorem best_bad (op fn : Int) (ser oth : ByteArray) (fr to wd st off gap tol fill : Int) (hse : ser.size ≤ maxLen) (hot : oth.size ≤ maxLen) (low : Int) (w : World) (a : Option Addr) (n c : Nat) (he : allErr op fn ser oth fr to wd st off gap tol fill low ≠ 0) :
    Calls Try.prog 9 #[qV op fn ser oth fr to wd st off gap tol fill, .slice a n c, .int .i64 low] w fun e w' => e = .returned (.tuple #[.agg #[.int .i64 0, .int .i64 0, .int .i64 0], .int .i64 (allErr op fn ser oth fr to wd st off gap tol fill low)]) ∧ Ext w w' := by
  have HA := Lib.hid (fun W => all_bad op fn ser oth fr to wd st off gap tol fill hse hot low W (.slice a n c) he)
  generalize allErr op fn ser oth fr to wd st off gap tol fill low = er at *
  clear hse hot
  unfold qV at *
  go_enter Try.func9, Try.ntmps9
  go_wp2_with fail
  generalize hW : World.alloc _ _ = W
  have HX : Hid (Ext w W) := Lib.hid (by subst hW; exact (((Ext.refl w).alloc _).alloc _).alloc _)
  have BR : Hid (chBlk W (w.heap.size + 1 + 1) ⟨0, 0, 0⟩) := Lib.hid (by subst hW; have := heap_alloc_new ((w.alloc (.cells #[.int .i64 op, .int .i64 fn, .string ser, .string oth, .int .i64 fr, .int .i64 to, .int .i64 wd, .int .i64 st, .int .i64 off, .int .i64 gap, .int .i64 tol, .int .i64 fill] 23 (0, 0))).alloc (.cells #[.slice a n c] 24 (0, 0))) (.cells #[.int .i64 0, .int .i64 0, .int .i64 0] 37 (0, 0)); simpa [chBlk, go_sem] using this)
  clear hW
  refine (HA.out W).mono ?_
  rintro e w1 ⟨rfl, hx1⟩
  have HX1 := Lib.hid (HX.out.trans hx1)
  have BR1 : Hid (chBlk w1 (w.heap.size + 1 + 1) ⟨0, 0, 0⟩) := Lib.hid ((hx1.block (block_lt BR.out)).trans BR.out)
  clear hx1 HA BR HX
  obtain ⟨r0, r1, r2⟩ := ch_cells BR1.out
  obtain ⟨z0, z1, z2⟩ := ch_free BR1.out
  simp only at r0 r1 r2
  go_wp2_with fail
  have B2 := ch_cells (set3 BR1.out 0 0 0)
  have HX2 := Lib.hid (set3_ext HX1.out (b := w.heap.size + 1 + 1) (by omega) 0 0 0)
  generalize World.setCell _ _ _ = W2 at *
  obtain ⟨y0, y1, y2⟩ := B2
  simp only at y0 y1 y2
  exact bodyPost_ret (v := .tuple #[.agg #[.int .i64 0, .int .i64 0, .int .i64 0], .int .i64 er]) (by simp [results, Try.results9, go_sem, y0, y1, y2]) rfl ⟨rfl, HX2.out⟩

set_option maxRecDepth 100000 in
theorem take_any (op fn : Int) (ser oth : ByteArray) (fr to wd st off gap tol fill : Int) (p x : Pt) (w : World) (bb qb tb : Nat) (a : Option Addr) (n c : Nat) (l : List Ti) (hb : chBlk w bb p) (hq : qBlk w qb op fn ser oth fr to wd st off gap tol fill)
    (ht : w.cell? ⟨tb, 0, none⟩ = some (.slice a n c)) (hs : Src w 5 (.slice a n c) n (tis l)) (hp : p = ⟨-1, fr, fr⟩ ∨ ∃ i : Nat, p.t = i ∧ i < n) (hx : ∃ k : Nat, x.t = k ∧ k < n) :
    Calls Try.prog 20 #[.agg #[.int .i64 x.t, .int .i64 x.v, .int .i64 x.s], .pointer (some ⟨bb, 0, none⟩), .pointer (some ⟨qb, 0, none⟩), .pointer (some ⟨tb, 0, none⟩)] w fun e w' => e = .returned (.bool (takes fr l p x)) ∧ Ext w w' := by
  rcases hp with rfl | ⟨i, hi, hin⟩
  · have e : takes fr l ⟨-1, fr, fr⟩ x = true := by simp [takes]
    rw [e]
    exact take_raw op fn ser oth fr to wd st off gap tol fill x w bb qb tb hb hq
  · obtain ⟨k, hk, hkn⟩ := hx
    obtain ⟨pt, pv, ps⟩ := p
    obtain ⟨xt, xv, xs⟩ := x
    simp only at hi hk
    subst hi hk
    exact take_tier op fn ser oth fr to wd st off gap tol fill k i xv xs pv ps w bb qb tb a n c l hb hq ht hs hin hkn

set_option maxHeartbeats 8000000 in
set_option maxRecDepth 100000 in
theorem best_ok (op fn : Int) (ser oth : ByteArray) (fr to wd st off gap tol fill : Int) (hse : ser.size ≤ maxLen) (hot : oth.size ≤ maxLen) (low : Int) (w : World) (a : Option Addr) (n c : Nat) (l : List Ti) (hs : Src w 5 (.slice a n c) n (tis l)) (hn : n ≤ 4) (hfine : ∀ t ∈ l, TiFine t)
    (hck : planCheckB op fn ser oth fr to wd st off gap tol fill = true) (f1 : -1152921504606846976 ≤ fr) (f2 : fr ≤ 1152921504606846976) (g1 : -1152921504606846976 ≤ to) (g2 : to ≤ 1152921504606846976) (l1 : -1152921504606846976 ≤ low) (l2 : low ≤ 1152921504606846976) :
    Calls Try.prog 9 #[qV op fn ser oth fr to wd st off gap tol fill, .slice a n c, .int .i64 low] w fun e w' => e = .returned (.tuple #[(bestOf fr l (chFrom fr to wd st off low l 0)).val, .int .i64 0]) ∧ Ext w w' := by
  have HA := Lib.hid (fun W (hx : Ext w W) => all_ok op fn ser oth fr to wd st off gap tol fill hse hot low W a n c l (hs.ext hx) hn hfine hck f1 f2 g1 g2 l1 l2)
  have HS := Lib.hid hs
  have Ln := Lib.hid (tis_src_len hs)
  clear hse hot hfine hck f1 f2 g1 g2 l1 l2 hs
  obtain ⟨cl, hcl⟩ : ∃ cl, chFrom fr to wd st off low l 0 = cl := ⟨_, rfl⟩
  have HKI : Hid (∀ x ∈ cl, ∃ k : Nat, x.t = k ∧ k < n) := Lib.hid (fun x hx => by
    rw [← hcl] at hx
    obtain ⟨k, t, rfl, _, h, _⟩ := chFrom_mem _ _ _ _ _ _ _ _ _ hx
    exact ⟨k, rfl, by have := Ln.out; omega⟩)
  simp only [choices, hcl] at HA
  rw [hcl]
  clear hcl
  unfold qV at *
  have hmf : ∀ (fn : Fn) (first cap : Array Value) (w : World), (Instr.makeFunc fn first cap).run Try.prog w = .ok (.func fn first cap) w := fun _ _ _ _ => rfl
  go_enter Try.func9, Try.ntmps9
  go_wp2_with fail
  generalize hW : World.alloc _ _ = W
  have HX : Hid (Ext w W) := Lib.hid (by subst hW; exact (((Ext.refl w).alloc _).alloc _).alloc _)
  have BR : Hid (chBlk W (w.heap.size + 1 + 1) ⟨0, 0, 0⟩) := Lib.hid (by subst hW; have := heap_alloc_new ((w.alloc (.cells #[.int .i64 op, .int .i64 fn, .string ser, .string oth, .int .i64 fr, .int .i64 to, .int .i64 wd, .int .i64 st, .int .i64 off, .int .i64 gap, .int .i64 tol, .int .i64 fill] 23 (0, 0))).alloc (.cells #[.slice a n c] 24 (0, 0))) (.cells #[.int .i64 0, .int .i64 0, .int .i64 0] 37 (0, 0)); simpa [chBlk, go_sem] using this)
  have BQ : Hid (qBlk W w.heap.size op fn ser oth fr to wd st off gap tol fill) := Lib.hid (by
    subst hW
    exact ((((Ext.refl _).alloc _).alloc _).block (show w.heap.size < (w.alloc _).heap.size by simp [go_sem])).trans (heap_alloc_new w _))
  have BT : Hid (W.cell? ⟨w.heap.size + 1, 0, none⟩ = some (.slice a n c)) := Lib.hid (by subst hW; simp [go_sem])
  clear hW
  refine (HA.out W HX.out).mono ?_
  rintro e w1 ⟨oa, m, oc, rfl, hs1, hm5, hmc, hx1⟩
  have HX1 := Lib.hid (HX.out.trans hx1)
  have BR1 := Lib.hid (ch_ext BR.out hx1)
  have BQ1 : Hid (qBlk w1 w.heap.size op fn ser oth fr to wd st off gap tol fill) := Lib.hid ((hx1.block (block_lt BQ.out)).trans BQ.out)
  have BT1 := Lib.hid ((hx1.cell (p := ⟨w.heap.size + 1, 0, none⟩) (World.block_lt_of_cell? W _ BT.out)).trans BT.out)
  have HM : Hid (m = cl.length + 1) := Lib.hid (by have := src_len hs1; simp at this; omega)
  have h1m : 0 < m := by have := HM.out; omega
  obtain ⟨cb, co, p0, rfl, hp0, q0, q1, q2⟩ := pts_src hs1 h1m
  simp at hp0
  subst hp0
  simp only [Nat.zero_mul, Nat.add_zero] at q0 q1 q2
  have HS1 := Lib.hid hs1
  clear hx1 HA BR HX BQ BT hs1
  by_cases hoc : oc = 1
  · subst hoc
    obtain rfl : m = 1 := by omega
    have HNIL : Hid (cl = []) := Lib.hid (List.length_eq_zero_iff.1 (by have := HM.out; omega))
    go_wp2_with fail
    refine wp_loop_rounds 1 ?_
    rw [rounds_succ]
    have B2 : Hid (chBlk (w1.alloc (.cells #[.int .i64 (-1), .int .i64 fr, .int .i64 fr] 37 (0, 0))) w1.heap.size ⟨-1, fr, fr⟩) := Lib.hid (heap_alloc_new w1 _)
    have HX2 := Lib.hid ((Ext.refl w1).alloc (.cells #[.int .i64 (-1), .int .i64 fr, .int .i64 fr] 37 (0, 0)))
    generalize hw2 : w1.alloc (.cells #[.int .i64 (-1), .int .i64 fr, .int .i64 fr] 37 (0, 0)) = w2 at *
    clear hw2
    have BR2 := Lib.hid (ch_ext BR1.out HX2.out)
    obtain ⟨r0, r1, r2⟩ := ch_cells BR2.out
    obtain ⟨z0, z1, z2⟩ := ch_free BR2.out
    obtain ⟨b0, b1, b2⟩ := ch_cells B2.out
    simp only at r0 r1 r2 b0 b1 b2
    clear q0 q1 q2
    go_wp2_with fail
    have B3 := ch_cells (set3 BR2.out (-1) fr fr)
    have HX3 := Lib.hid (set3_ext (HX1.out.trans HX2.out) (b := w.heap.size + 1 + 1) (by omega) (-1) fr fr)
    generalize World.setCell _ _ _ = W3 at *
    obtain ⟨y0, y1, y2⟩ := B3
    simp only at y0 y1 y2
    rw [HNIL.out]
    exact bodyPost_ret (v := .tuple #[.agg #[.int .i64 (-1), .int .i64 fr, .int .i64 fr], .int .i64 0]) (by simp [results, Try.results9, go_sem, y0, y1, y2]) rfl ⟨rfl, HX3.out⟩
  · go_wp2_with fail
    have B2 : Hid (chBlk (w1.alloc (.cells #[.int .i64 (-1), .int .i64 fr, .int .i64 fr] 37 (0, 0))) w1.heap.size ⟨-1, fr, fr⟩) := Lib.hid (heap_alloc_new w1 _)
    have HX2 := Lib.hid ((Ext.refl w1).alloc (.cells #[.int .i64 (-1), .int .i64 fr, .int .i64 fr] 37 (0, 0)))
    generalize hw2 : w1.alloc (.cells #[.int .i64 (-1), .int .i64 fr, .int .i64 fr] 37 (0, 0)) = w2 at *
    clear hw2 q0 q1 q2
    have HCM : Hid (m - 1 = cl.length) := Lib.hid (by have := HM.out; omega)
    go_loopw [32] (fun i wr => ∃ j : Nat, j ≤ m - 1 ∧ i = .int .i64 j ∧ Hid (Ext w1 wr ∧ chBlk wr w1.heap.size (bestOf fr l (cl.take j)))) (fun i _ => m - (RowKit.intOf i).toNat)
    case atStart => exact ⟨0, by omega, rfl, Lib.hid ⟨HX2.out, B2.out⟩⟩
    case round =>
      clear B2 HX2
      obtain ⟨j, hj, rfl, I⟩ := hrel
      by_cases hlt : j < m - 1
      · obtain ⟨cb', co', x, e, hx, x0, x1, x2⟩ := pts_src (HS1.out.ext I.out.1) (show j + 1 < m by omega)
        simp at e
        obtain ⟨rfl, rfl⟩ := e
        rw [show co + (j + 1) * 3 = co + 3 + j * 3 by omega] at x0 x1 x2
        simp at hx
        have HXK := Lib.hid (HKI.out x (List.mem_of_getElem? hx))
        have HPK := Lib.hid (best_kind fr l n (cl.take j) (fun c hc => HKI.out c (List.mem_of_mem_take hc)))
        have HST : Hid (bestOf fr l (cl.take (j + 1)) = bestStep fr l (bestOf fr l (cl.take j)) x) := Lib.hid (by rw [take_snoc5 hx]; simp [bestOf])
        clear hx
        obtain ⟨p, hp⟩ : ∃ p, bestOf fr l (cl.take j) = p := ⟨_, rfl⟩
        rw [hp] at HPK HST I
        clear hp
        have HSN := Lib.hid (HS.out.ext (HX1.out.trans I.out.1))
        have BQN : Hid (qBlk wr w.heap.size op fn ser oth fr to wd st off gap tol fill) := Lib.hid ((I.out.1.block (block_lt BQ1.out)).trans BQ1.out)
        have BTN := Lib.hid ((I.out.1.cell (p := ⟨w.heap.size + 1, 0, none⟩) (World.block_lt_of_cell? w1 _ BT1.out)).trans BT1.out)
        have hs1 := I.out.1.size
        cases htk : takes fr l p x
        · have HST' : Hid (bestOf fr l (cl.take (j + 1)) = p) := Lib.hid (by rw [HST.out]; simp [bestStep, htk])
          go_wp2_with (go_at_call 20; refine (take_any op fn ser oth fr to wd st off gap tol fill p x _ w1.heap.size w.heap.size (w.heap.size + 1) a n c l (ch_ext I.out.2 ((Ext.refl _).alloc _)) ((((Ext.refl _).alloc _).block (block_lt BQN.out)).trans BQN.out) ((((Ext.refl _).alloc _).cell (World.block_lt_of_cell? wr _ BTN.out)).trans BTN.out) (HSN.out.ext ((Ext.refl _).alloc _)) HPK.out HXK.out).mono ?_; rw [htk]; rintro e w3 ⟨rfl, hx3⟩; have HX3 := Lib.hid (((Ext.refl wr).alloc _).trans hx3); clear hx3)
          go_roundw
          case rel => exact ⟨j + 1, by omega, by go_num, Lib.hid ⟨I.out.1.trans HX3.out, by rw [HST'.out]; exact ch_ext I.out.2 HX3.out⟩⟩
          case measure => simp [RowKit.intOf]; omega
        · have HST' : Hid (bestOf fr l (cl.take (j + 1)) = x) := Lib.hid (by rw [HST.out]; simp [bestStep, htk])
          go_wp2_with fail
          have HXA := Lib.hid ((Ext.refl wr).alloc (.cells #[.int .i64 x.t, .int .i64 x.v, .int .i64 x.s] 37 (0, 0)))
          have BXA : Hid (chBlk (wr.alloc (.cells #[.int .i64 x.t, .int .i64 x.v, .int .i64 x.s] 37 (0, 0))) wr.heap.size x) := Lib.hid (heap_alloc_new wr _)
          generalize hwa : wr.alloc (.cells #[.int .i64 x.t, .int .i64 x.v, .int .i64 x.s] 37 (0, 0)) = wa at *
          clear hwa
          refine (take_any op fn ser oth fr to wd st off gap tol fill p x wa w1.heap.size w.heap.size (w.heap.size + 1) a n c l (ch_ext I.out.2 HXA.out) ((HXA.out.block (block_lt BQN.out)).trans BQN.out) ((HXA.out.cell (p := ⟨w.heap.size + 1, 0, none⟩) (World.block_lt_of_cell? wr _ BTN.out)).trans BTN.out) (HSN.out.ext HXA.out) HPK.out HXK.out).mono ?_
          rw [htk]
          rintro e w3 ⟨rfl, hx3⟩
          have HX3 := Lib.hid (HXA.out.trans hx3)
          have BX3 := Lib.hid (ch_ext BXA.out hx3)
          have BB3 := Lib.hid (ch_ext I.out.2 HX3.out)
          clear hx3 BXA HXA x0 x1 x2
          obtain ⟨x0, x1, x2⟩ := ch_cells BX3.out
          obtain ⟨b0, b1, b2⟩ := ch_cells BB3.out
          obtain ⟨z0, z1, z2⟩ := ch_free BB3.out
          go_wp2_with fail
          go_roundw
          case rel => exact ⟨j + 1, by omega, by go_num, Lib.hid ⟨set3_ext (I.out.1.trans HX3.out) (Nat.le_refl _) _ _ _, by rw [HST'.out]; exact set3 BB3.out _ _ _⟩⟩
          case measure => simp [RowKit.intOf]; omega
      · have HTO : Hid (cl.take j = cl) := Lib.hid (List.take_of_length_le (by have := HCM.out; omega))
        have BB2 : Hid (chBlk wr w1.heap.size (bestOf fr l cl)) := Lib.hid (by have := I.out.2; rw [HTO.out] at this; exact this)
        have HX2 := Lib.hid I.out.1
        clear I
        obtain ⟨p, hp⟩ : ∃ p, bestOf fr l cl = p := ⟨_, rfl⟩
        rw [hp] at BB2
        have HP := Lib.hid hp
        clear hp
        have BR2 := Lib.hid (ch_ext BR1.out HX2.out)
        obtain ⟨r0, r1, r2⟩ := ch_cells BR2.out
        obtain ⟨z0, z1, z2⟩ := ch_free BR2.out
        obtain ⟨b0, b1, b2⟩ := ch_cells BB2.out
        simp only at r0 r1 r2
        go_wp2_with fail
        have B3 := ch_cells (set3 BR2.out p.t p.v p.s)
        have HX3 := Lib.hid (set3_ext (HX1.out.trans HX2.out) (b := w.heap.size + 1 + 1) (by omega) p.t p.v p.s)
        generalize World.setCell _ _ _ = W3 at *
        obtain ⟨y0, y1, y2⟩ := B3
        simp only at y0 y1 y2
        exact bodyPost_ret (v := .tuple #[.agg #[.int .i64 p.t, .int .i64 p.v, .int .i64 p.s], .int .i64 0]) (by simp [results, Try.results9, go_sem, y0, y1, y2]) rfl ⟨by rw [HP.out]; rfl, HX3.out⟩

end Go.Proofs.Ytpgnkknelaajdaa
