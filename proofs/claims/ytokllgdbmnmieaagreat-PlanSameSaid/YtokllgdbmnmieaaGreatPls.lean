/- PlanSame: the walk. -/
import Derived.Test.YtokllgdbmnmieaaGreatRaw
import Derived.Test.YtokllgdbmnmieaaGreatRlg
import Derived.Test.YtokllgdbmnmieaaGreatOpq
import Derived.Test.YtokllgdbmnmieaaGreatR23s
import Derived.Test.YtokllgdbmnmieaaGreatPlanEdgesA
import Derived.Test.YtokllgdbmnmieaaGreatOpw
namespace Go.Proofs.YtokllgdbmnmieaaGreat
open Go.RowKit Go.Lib Go.Sort

abbrev qc (op fn : Int) (ser oth : ByteArray) (fr tO wd st off gap tol fill : Int) : Array Value := #[.int .i64 op, .int .i64 fn, .string ser, .string oth, .int .i64 fr, .int .i64 tO, .int .i64 wd, .int .i64 st, .int .i64 off, .int .i64 gap, .int .i64 tol, .int .i64 fill]

set_option maxHeartbeats 4000000 in
set_option maxRecDepth 100000 in
theorem planSame_not (op fn : Int) (ser oth : ByteArray) (fr tO wd st off gap tol fill : Int) (w : World) (a : Option Addr) (n c : Nat) (l : List Ti) (hs : Src w 5 (.slice a n c) n (tis l)) (hn : n ≤ 4398046511104)
    (a2 : Option Addr) (n2 c2 : Nat) (h : fineB n l = false ∨ 60 < n2) :
    Calls Tryz.prog 3 #[qV op fn ser oth fr tO wd st off gap tol fill, .slice a n c, .slice a2 n2 c2] w fun e w' => e = .returned (.bool true) ∧ Ext w w' := by
  have HFI := Lib.hid (fun W (hx : Ext w W) => fine_any W a n c l (hs.ext hx) hn)
  clear hs hn
  unfold qV
  by_cases h60 : 60 < n2
  · have h60' : (60 : Int) < (n2 : Int) := by omega
    clear HFI h
    go_enter Tryz.func3, Tryz.ntmps3
    go_wp2_with fail
    go_ret
    exact ⟨rfl, (Ext.refl w).alloc _⟩
  · have h60' : ¬ (60 : Int) < (n2 : Int) := by omega
    rw [h.resolve_right h60] at HFI
    clear h h60
    go_enter Tryz.func3, Tryz.ntmps3
    go_wp2_with fail
    refine (HFI.out _ ((Ext.refl w).alloc _)).mono ?_
    rintro e w1 ⟨rfl, hx1⟩
    have HX1 := Lib.hid (((Ext.refl w).alloc _).trans hx1)
    clear hx1
    go_wp2_with fail
    go_ret
    exact ⟨rfl, HX1.out⟩

set_option maxHeartbeats 4000000 in
set_option maxRecDepth 100000 in
theorem planSame_bad (op fn : Int) (ser oth : ByteArray) (fr tO wd st off gap tol fill : Int) (hse : ser.size ≤ maxLen) (hot : oth.size ≤ maxLen) (w : World) (a : Option Addr) (n c : Nat) (l : List Ti) (hs : Src w 5 (.slice a n c) n (tis l)) (hn : n ≤ 4398046511104)
    (a2 : Option Addr) (n2 c2 : Nat) (h60 : n2 ≤ 60) (hfi : fineB n l = true) (hck : planCheckB op fn ser oth fr tO wd st off gap tol fill = false) :
    Calls Tryz.prog 3 #[qV op fn ser oth fr tO wd st off gap tol fill, .slice a n c, .slice a2 n2 c2] w fun e w' => e = .returned (.bool true) ∧ Ext w w' := by
  have HFI := Lib.hid (fun W (hx : Ext w W) => fine_any W a n c l (hs.ext hx) hn)
  rw [hfi] at HFI
  have he := allErr_bad (low := fr) hck
  have HA := Lib.hid (fun W => all_bad op fn ser oth fr tO wd st off gap tol fill hse hot fr W (.slice a n c) (by rw [he]; omega))
  rw [he] at HA
  have HO := Lib.hid one_rows
  clear hs he hck hse hot hfi hn
  unfold qV at *
  have h60' : ¬ (60 : Int) < (n2 : Int) := by omega
  go_enter Tryz.func3, Tryz.ntmps3
  go_wp2_with fail
  generalize hW : World.alloc _ _ = W
  have HX : Hid (Ext w W) := Lib.hid (by subst hW; exact (Ext.refl w).alloc _)
  have BQ : Hid (W.heap[w.heap.size]? = some (.cells (qc op fn ser oth fr tO wd st off gap tol fill) 23 (0, 0))) := Lib.hid (by subst hW; exact heap_alloc_new w _)
  clear hW
  refine (HFI.out W HX.out).mono ?_
  rintro e w1 ⟨rfl, hx1⟩
  have BQ1 := Lib.hid ((hx1.block (block_lt BQ.out)).trans BQ.out)
  have HX1 := Lib.hid (HX.out.trans hx1)
  clear hx1 HX BQ HFI
  have c4 : w1.cell? ⟨w.heap.size, 4, none⟩ = some (.int .i64 fr) := by have := cell_of_block BQ1.out 4; simpa using this
  go_wp2_with (first | (refine wpList_load_box rfl _ _ rfl _ _ _ _ _ rfl BQ1.out Tryz.underlying23 rfl qry_info ?_))
  refine (HA.out w1).mono ?_
  rintro e w2 ⟨rfl, hx2⟩
  have HX2 := Lib.hid (HX1.out.trans hx2)
  clear hx2 HX1 BQ1 HA c4
  go_wp2_with fail
  refine (HO.out (w2.alloc (.cells #[.int .i64 4, .int .i64 0, .int .i64 0] 37 (0, 0))) w2.heap.size (src_pt' (p := (⟨4, 0, 0⟩ : Pt)) (heap_alloc_new w2 _))).mono ?_
  rintro e w3 ⟨rb, ro, c', rfl, hx3, r0⟩
  have HX3 := Lib.hid ((HX2.out.alloc (.cells #[.int .i64 4, .int .i64 0, .int .i64 0] 37 (0, 0))).trans hx3)
  clear hx3 HX2
  go_wp2_with fail
  go_ret
  exact ⟨rfl, HX3.out⟩

set_option maxHeartbeats 4000000 in
set_option maxRecDepth 100000 in
theorem planSame_far (op fn : Int) (ser oth : ByteArray) (fr tO wd st off gap tol fill : Int) (hse : ser.size ≤ maxLen) (hot : oth.size ≤ maxLen) (w : World) (a : Option Addr) (n c : Nat) (l : List Ti) (hs : Src w 5 (.slice a n c) n (tis l)) (hn : n ≤ 4398046511104)
    (a2 : Option Addr) (n2 c2 : Nat) (h60 : n2 ≤ 60) (hfi : fineB n l = true) (hck : planCheckB op fn ser oth fr tO wd st off gap tol fill = true) (hfar : 3000 < tO - fr) :
    Calls Tryz.prog 3 #[qV op fn ser oth fr tO wd st off gap tol fill, .slice a n c, .slice a2 n2 c2] w fun e w' => e = .returned (.bool true) ∧ Ext w w' := by
  have HFI := Lib.hid (fun W (hx : Ext w W) => fine_any W a n c l (hs.ext hx) hn)
  rw [hfi] at HFI
  obtain ⟨hn4, hfin⟩ := fineB_le hfi
  obtain ⟨⟨f1, f2⟩, g1, g2⟩ := planCheck_bounds hck
  have HA := Lib.hid (fun W (hx : Ext w W) => all_ok op fn ser oth fr tO wd st off gap tol fill hse hot fr W a n c l (hs.ext hx) hn4 hfin hck f1 f2 g1 g2 f1 f2)
  have hm0 : Hid (1 ≤ (choices fr tO wd st off fr l).length) := Lib.hid (by simp [choices])
  generalize choices fr tO wd st off fr l = cs at HA hm0
  clear hs hck hse hot hfi hn hfin hn4
  unfold qV at *
  have h60' : ¬ (60 : Int) < (n2 : Int) := by omega
  have hw : IntKind.i64.wrap (tO - fr) = tO - fr := IntWalk.i64_in _ (by omega)
  go_enter Tryz.func3, Tryz.ntmps3
  go_wp2_with fail
  generalize hW : World.alloc _ _ = W
  have HX : Hid (Ext w W) := Lib.hid (by subst hW; exact (Ext.refl w).alloc _)
  have BQ : Hid (W.heap[w.heap.size]? = some (.cells (qc op fn ser oth fr tO wd st off gap tol fill) 23 (0, 0))) := Lib.hid (by subst hW; exact heap_alloc_new w _)
  clear hW
  refine (HFI.out W HX.out).mono ?_
  rintro e w1 ⟨rfl, hx1⟩
  have BQ1 := Lib.hid ((hx1.block (block_lt BQ.out)).trans BQ.out)
  have HX1 := Lib.hid (HX.out.trans hx1)
  clear hx1 HX BQ HFI
  have c4 : w1.cell? ⟨w.heap.size, 4, none⟩ = some (.int .i64 fr) := by have := cell_of_block BQ1.out 4; simpa using this
  go_wp2_with (first | (refine wpList_load_box rfl _ _ rfl _ _ _ _ _ rfl BQ1.out Tryz.underlying23 rfl qry_info ?_))
  refine (HA.out w1 HX1.out).mono ?_
  rintro e w2 ⟨oa, m, oc, rfl, hs2, hm5, hmc, hx2⟩
  have HX2 := Lib.hid (HX1.out.trans hx2)
  have BQ2 := Lib.hid ((hx2.block (block_lt BQ1.out)).trans BQ1.out)
  have hm1 : 1 ≤ m := by have := src_len hs2; have := hm0.out; omega
  clear hx2 HX1 BQ1 HA c4 hs2
  have c4 : w2.cell? ⟨w.heap.size, 4, none⟩ = some (.int .i64 fr) := by have := cell_of_block BQ2.out 4; simpa using this
  have c5 : w2.cell? ⟨w.heap.size, 5, none⟩ = some (.int .i64 tO) := by have := cell_of_block BQ2.out 5; simpa using this
  have hm1' : (0 : Int) < (m : Int) := by omega
  go_wp2_with fail
  go_ret
  exact ⟨by first | (simp [hm1']; done) | (simp; omega), HX2.out⟩

/-- What of the points is taken. -/
structure Taken (fr tO : Int) (k : Nat) (P : List Pt) : Prop where
  len : P.length ≤ k
  up : P.Pairwise (fun p q => p.t < q.t)
  pt : ∀ p ∈ P, fr ≤ p.t ∧ p.t < tO ∧ -9223372036854775808 ≤ p.v ∧ p.v ≤ 9223372036854775807
theorem Taken.next {fr tO : Int} {k : Nat} {P : List Pt} (h : Taken fr tO k P) : Taken fr tO (k + 1) P := ⟨by have := h.len; omega, h.up, h.pt⟩
theorem Taken.snoc {fr tO : Int} {k : Nat} {P : List Pt} (h : Taken fr tO k P) {p : Pt} (hp : fr ≤ p.t ∧ p.t < tO ∧ -9223372036854775808 ≤ p.v ∧ p.v ≤ 9223372036854775807) (hl : P = [] ∨ ∃ (j : Nat) (q : Pt), P[j]? = some q ∧ P.length = j + 1 ∧ q.t < p.t) : Taken fr tO (k + 1) (P ++ [p]) := by
  refine ⟨by have := h.len; simp; omega, ?_, fun q hq => ?_⟩
  · rw [List.pairwise_append]
    refine ⟨h.up, List.pairwise_singleton _ _, fun x hx y hy => ?_⟩
    simp at hy
    subst hy
    rcases hl with rfl | ⟨j, q, hq, hj, hlt⟩
    · exact (List.not_mem_nil hx).elim
    · obtain ⟨i, hi, rfl⟩ := List.getElem_of_mem hx
      obtain ⟨hj2, rfl⟩ := List.getElem?_eq_some_iff.1 hq
      rcases Nat.lt_or_ge i j with h1 | h1
      · have := List.pairwise_iff_getElem.1 h.up i j hi hj2 h1
        omega
      · obtain rfl : i = j := by omega
        exact hlt
  · rcases List.mem_append.1 hq with hq | hq
    · exact h.pt q hq
    · simp at hq; subst hq; exact hp
theorem made_appended {w0 w w' : World} {e : TypeId} {size : Nat} {v v' : Value} {n : Nat} {xs : List Value} (ha : Appended w e size v n xs v' w') (hnew : ∀ g, v.ownBlock = some g → w0.heap.size ≤ g) (hext : Ext w0 w) : MadeTo w0 e size v' n xs w' :=
  ⟨ha.row, fun g hg => by
    rcases ha.loc with e | e
    · exact hnew g (e ▸ hg)
    · rw [e] at hg; cases hg; exact hext.size, Chg.ext ((Chg.of_ext hext).trans ha.chg (fun _ _ e => e)) (fun i hi e => by have := hnew i e; omega)⟩
theorem rawR_len {fn wd st off fr tO fill : Int} {l : List Pt} (H : QIn wd st off fr tO l) : (rawR fn wd st off fr tO fill l).length ≤ 3840 := by
  unfold rawR fillL
  split
  · have := (doc_ok (fn := fn) H).2.2.1
    simpa using this
  · have := all_few H.win H.le H.small
    simp [allW, spansL]
    omega

theorem cut_named (W : World) (a : Option Addr) (n c : Nat) (f t : Int) (l : List Pt) (hl : Src W 3 (.slice a n c) n (pts l)) (hn : n ≤ 60) :
    Calls Tryz.prog 8 #[.slice a n c, .int .i64 f, .int .i64 t] W fun e w' => ∃ o q d, e = .returned (.slice o q d) ∧ q ≤ 60 ∧ MadeTo W 37 3 (.slice o q d) q (pts (cutL f t l)) w' := by
  refine (refCut_any W a n c f t l hl (by omega)).mono ?_
  rintro e w' ⟨v, rfl, h⟩
  obtain ⟨o, d, rfl⟩ := h.row.shape
  have h1 := src_len hl
  have h2 : (cutL f t l).length ≤ l.length := List.length_filter_le _ _
  exact ⟨o, _, d, rfl, by omega, h.row, h.own, h.ext⟩
theorem chc_info : (Tryz.prog.info? 35).map (·.size) = some 3 := by kernel_rfl

set_option maxHeartbeats 8000000 in
set_option maxRecDepth 100000 in
theorem planSame_ok (op fn : Int) (ser oth : ByteArray) (fr tO wd st off gap tol fill : Int) (hse : ser.size ≤ maxLen) (hot : oth.size ≤ maxLen) (w : World) (a : Option Addr) (n c : Nat) (l : List Ti) (hs : Src w 5 (.slice a n c) n (tis l)) (hn : n ≤ 4398046511104)
    (a2 : Option Addr) (n2 c2 : Nat) (l2 : List Pt) (hs2 : Src w 3 (.slice a2 n2 c2) n2 (pts l2)) (hfit : ∀ p ∈ l2, p.fits) (h60 : n2 ≤ 60) (hfi : fineB n l = true) (hck : planCheckB op fn ser oth fr tO wd st off gap tol fill = true) (hnear : tO - fr ≤ 3000) :
    Calls Tryz.prog 3 #[qV op fn ser oth fr tO wd st off gap tol fill, .slice a n c, .slice a2 n2 c2] w fun e w' => e = .returned (.bool true) ∧ Ext w w' := by
  have HFI := Lib.hid (fun W (hx : Ext w W) => fine_any W a n c l (hs.ext hx) hn)
  rw [hfi] at HFI
  obtain ⟨hn4, hfin⟩ := fineB_le hfi
  obtain ⟨⟨f1, f2⟩, g1, g2⟩ := planCheck_bounds hck
  obtain ⟨hwin, hle, hfill, hfn⟩ := planCheck_win hck
  have HA := Lib.hid (fun W (hx : Ext w W) => all_ok op fn ser oth fr tO wd st off gap tol fill hse hot fr W a n c l (hs.ext hx) hn4 hfin hck f1 f2 g1 g2 f1 f2)
  have HPR := Lib.hid (fun (i A B : Int) (W : World) (a1 : Option Addr) (n1 c1 : Nat) (l1 : List Pt) (h1 : Src W 3 (.slice a1 n1 c1) n1 (pts l1)) (a3 : Option Addr) (n3 c3 : Nat) (L : List Bk) (h3 : Src W 13 (.slice a3 n3 c3) n3 (bks L)) hli hit =>
    prows_any op fn ser oth fr tO wd st off gap tol fill hse hot i A B W a1 n1 c1 l1 h1 a3 n3 c3 L h3 hck hli hwin (time_in f1 f2) (time_in g1 g2) hle (by have := all_few hwin hle hnear; omega) hfill hfn hit)
  have HPB := Lib.hid (fun W => prows_bad op fn ser oth fr tO wd st off gap tol fill hse hot (-1) tO (fr - 1) W hck hle (by omega))
  have HRA := Lib.hid (fun (W : World) (a : Option Addr) (n c : Nat) (P : List Pt) (h : Src W 3 (.slice a n c) n (pts P)) (H : QIn wd st off fr tO P) => rraw_any op fn ser oth fr tO wd st off gap tol fill W a n c P h H hfill hfn)
  have HQM := Lib.hid (fun (P : List Pt) (h : Taken fr tO 60 P) => (⟨hwin, f1, hle, g2, hnear, h.len, h.up, h.pt⟩ : QIn wd st off fr tO P))
  have HTS := Lib.hid hs
  have HL2 := Lib.hid hs2
  have HFT := Lib.hid (fun p hp => (hfit p hp))
  have HFN := Lib.hid hfin
  have LN := Lib.hid (src_len hs2)
  have LT := Lib.hid (tis_src_len hs)
  have HCS : Hid (choices fr tO wd st off fr l = ⟨-1, fr, fr⟩ :: chFrom fr tO wd st off fr l 0) := Lib.hid rfl
  obtain ⟨cs, hcs⟩ : ∃ cs, cs = choices fr tO wd st off fr l := ⟨_, rfl⟩
  rw [← hcs] at HA HCS
  clear hs hs2 hck hse hot hfi hn hfin hfit hcs hwin hfill hfn
  unfold qV at *
  have h60' : ¬ (60 : Int) < (n2 : Int) := by omega
  have hw : IntKind.i64.wrap (tO - fr) = tO - fr := IntWalk.i64_in _ (by omega)
  have hnear' : ¬ 3000 < tO - fr := by omega
  go_enter Tryz.func3, Tryz.ntmps3
  go_wp2_with fail
  generalize hW : World.alloc _ _ = W
  have HX : Hid (Ext w W) := Lib.hid (by subst hW; exact (Ext.refl w).alloc _)
  have BQ : Hid (W.heap[w.heap.size]? = some (.cells (qc op fn ser oth fr tO wd st off gap tol fill) 23 (0, 0))) := Lib.hid (by subst hW; exact heap_alloc_new w _)
  clear hW
  refine (HFI.out W HX.out).mono ?_
  rintro e w1 ⟨rfl, hx1⟩
  have BQ1 := Lib.hid ((hx1.block (block_lt BQ.out)).trans BQ.out)
  have HX1 := Lib.hid (HX.out.trans hx1)
  clear hx1 HX BQ HFI
  have c4 : w1.cell? ⟨w.heap.size, 4, none⟩ = some (.int .i64 fr) := by have := cell_of_block BQ1.out 4; simpa using this
  go_wp2_with (first | (refine wpList_load_box rfl _ _ rfl _ _ _ _ _ rfl BQ1.out Tryz.underlying23 rfl qry_info ?_))
  refine (HA.out w1 HX1.out).mono ?_
  rintro e w2 ⟨oa, m, oc, rfl, hs2, hm5, hmc, hx2⟩
  have HX2 := Lib.hid (HX1.out.trans hx2)
  have BQ2 := Lib.hid ((hx2.block (block_lt BQ1.out)).trans BQ1.out)
  have HS2 := Lib.hid hs2
  have hm1 : 1 ≤ m := by have := src_len hs2; rw [HCS.out] at this; simp at this; omega
  clear hx2 HX1 BQ1 HA c4 hs2 hmc
  have c4 : w2.cell? ⟨w.heap.size, 4, none⟩ = some (.int .i64 fr) := by have := cell_of_block BQ2.out 4; simpa using this
  have c5 : w2.cell? ⟨w.heap.size, 5, none⟩ = some (.int .i64 tO) := by have := cell_of_block BQ2.out 5; simpa using this
  go_upto_block 0 with fail
  clear c4 c5 hw hnear' h60' hnear hle
  go_cut [11] (fun s11 wx => ∃ (P : List Pt) (pa : Option Addr) (pm pc : Nat), s11 = .slice pa pm pc ∧ pm ≤ 60 ∧ Hid (MadeTo w2 37 3 (.slice pa pm pc) pm (pts P) wx ∧ Taken fr tO 60 P))
  case first => as_aux_lemma =>
    go_wp2_with fail
    go_loopw [11, 12] (fun s11 s12 wr => ∃ (k pm pc : Nat) (pa : Option Addr) (P : List Pt), s11 = .slice pa pm pc ∧ s12 = .int .i64 k ∧ k ≤ n2 ∧ pm ≤ k ∧ Hid (MadeTo w2 37 3 (.slice pa pm pc) pm (pts P) wr ∧ Taken fr tO k P)) (fun _ i _ => n2 - (RowKit.intOf i).toNat)
    case atStart => exact ⟨0, 0, 0, none, [], rfl, rfl, by omega, by omega, Lib.hid ⟨⟨Row.nil _ _ _, fun g hg => by simp [Value.ownBlock] at hg, Ext.refl w2⟩, ⟨by simp, List.Pairwise.nil, by simp⟩⟩⟩
    case round =>
      obtain ⟨k, pm, pc, pa, P, rfl, rfl, hk, hpm, HI⟩ := hrel
      by_cases hlt : k < n2
      · obtain ⟨pb, po, p, rfl, hp, p0, p1, p2⟩ := pts_src (HL2.out.ext (HX2.out.trans HI.out.1.ext)) hlt
        have HPF := Lib.hid (HFT.out p (List.mem_of_getElem? hp)).2.1
        have BQr := Lib.hid ((HI.out.1.ext.block (block_lt BQ2.out)).trans BQ2.out)
        have HP3 := Lib.hid (And.intro p0 (And.intro p1 p2))
        have LP := Lib.hid (src_len (HI.out.1.row.src (pts_one P)))
        clear hp p1 p2
        have c4 : wr.cell? ⟨w.heap.size, 4, none⟩ = some (.int .i64 fr) := by have := cell_of_block BQr.out 4; simpa using this
        have c5 : wr.cell? ⟨w.heap.size, 5, none⟩ = some (.int .i64 tO) := by have := cell_of_block BQr.out 5; simpa using this
        by_cases ha : fr ≤ p.t
        · have hd1 : decide (fr ≤ p.t) = true := decide_eq_true ha
          by_cases hb : p.t < tO
          · have hd2 : decide (p.t < tO) = true := decide_eq_true hb
            rcases Nat.eq_zero_or_pos pm with h0 | h0
            · have HSN : Hid (Taken fr tO (k + 1) (P ++ [p])) := Lib.hid (HI.out.2.snoc ⟨ha, hb, HPF.out⟩ (.inl (List.eq_nil_of_length_eq_zero (by have := LP.out; omega))))
              have hd3 : ((pm : Int) == 0) = true := beq_iff_eq.2 (by omega)
              clear ha hb
              (
                  go_upto_region 13 with fail
                  go_big_quiet (fail)
                  generalize hWz : wr.drewN nq = Wz
                  have HXz : Hid (Ext wr Wz) := Lib.hid (by subst hWz; exact Ext.drewN _ _)
                  clear hWz nq c4 c5 p0 hd1 hd2 hd3
                  have p0 := (HXz.out.cell (World.block_lt_of_cell? _ _ HP3.out.1)).trans HP3.out.1
                  have p1 := (HXz.out.cell (World.block_lt_of_cell? _ _ HP3.out.2.1)).trans HP3.out.2.1
                  have p2 := (HXz.out.cell (World.block_lt_of_cell? _ _ HP3.out.2.2)).trans HP3.out.2.2
                  go_wp2_with (at_builtin; go_must (refine wpList_append_start elem_pt rfl _ _ rfl rfl rfl (Start.row (HI.out.1.row.ext (HXz.out.trans ((Ext.refl _).alloc _))) HI.out.1.own) (HI.out.1.ext.trans (HXz.out.trans ((Ext.refl _).alloc _))) (src_pt' (p := p) (heap_alloc_new _ _)) (by omega) (by unfold maxLen; omega) (by omega) ?_; intro v' w4 hmade); have HM := Lib.hid hmade; obtain ⟨va', vc', rfl⟩ := hmade.row.shape; clear hmade)
                  go_roundw
                  case rel => exact ⟨k + 1, pm + 1, vc', va', P ++ [p], by go_num, by go_num, by omega, by omega, Lib.hid ⟨by rw [pts_append]; exact HM.out, HSN.out⟩⟩
                  case measure => simp [RowKit.intOf]; omega)
            · obtain ⟨qb, qo, q, rfl, hq, q0, q1, q2⟩ := pts_src (HI.out.1.row.src (pts_one P)) (show pm - 1 < pm by omega)
              obtain ⟨jq, hjq⟩ : ∃ jq, jq = pm - 1 := ⟨_, rfl⟩
              rw [← hjq] at hq q0
              have hd3 : ((pm : Int) == 0) = false := beq_eq_false_iff_ne.2 (by omega)
              have hw1 : IntKind.i64.wrap ((pm : Int) - 1) = (jq : Int) := by rw [IntWalk.i64_in _ (by omega)]; omega
              have hjn : jq < pm := by omega
              by_cases hc : q.t < p.t
              · have hd4 : decide (q.t < p.t) = true := decide_eq_true hc
                have HSN : Hid (Taken fr tO (k + 1) (P ++ [p])) := Lib.hid (HI.out.2.snoc ⟨ha, hb, HPF.out⟩ (.inr ⟨jq, q, hq, by have := LP.out; omega, hc⟩))
                clear ha hb hc hq q1 q2 hjq
                (
                    go_upto_region 13 with fail
                    go_big_quiet (fail)
                    generalize hWz : wr.drewN nq = Wz
                    have HXz : Hid (Ext wr Wz) := Lib.hid (by subst hWz; exact Ext.drewN _ _)
                    clear hWz nq c4 c5 p0 hd1 hd2 hd3
                    have p0 := (HXz.out.cell (World.block_lt_of_cell? _ _ HP3.out.1)).trans HP3.out.1
                    have p1 := (HXz.out.cell (World.block_lt_of_cell? _ _ HP3.out.2.1)).trans HP3.out.2.1
                    have p2 := (HXz.out.cell (World.block_lt_of_cell? _ _ HP3.out.2.2)).trans HP3.out.2.2
                    go_wp2_with (at_builtin; go_must (refine wpList_append_start elem_pt rfl _ _ rfl rfl rfl (Start.row (HI.out.1.row.ext (HXz.out.trans ((Ext.refl _).alloc _))) HI.out.1.own) (HI.out.1.ext.trans (HXz.out.trans ((Ext.refl _).alloc _))) (src_pt' (p := p) (heap_alloc_new _ _)) (by omega) (by unfold maxLen; omega) (by omega) ?_; intro v' w4 hmade); have HM := Lib.hid hmade; obtain ⟨va', vc', rfl⟩ := hmade.row.shape; clear hmade)
                    go_roundw
                    case rel => exact ⟨k + 1, pm + 1, vc', va', P ++ [p], by go_num, by go_num, by omega, by omega, Lib.hid ⟨by rw [pts_append]; exact HM.out, HSN.out⟩⟩
                    case measure => simp [RowKit.intOf]; omega)
              · have hd4 : decide (q.t < p.t) = false := decide_eq_false hc
                clear ha hb hc hq q1 q2 hjq
                (
                    go_upto_region 13 with fail
                    go_big_quiet (fail)
                    go_wp2_with fail
                    go_roundw
                    case rel => exact ⟨k + 1, pm, pc, _, P, rfl, by go_num, by omega, by omega, Lib.hid ⟨⟨HI.out.1.row.ext (Ext.drewN _ _), HI.out.1.own, HI.out.1.ext.trans (Ext.drewN _ _)⟩, HI.out.2.next⟩⟩
                    case measure => simp [RowKit.intOf]; omega)
          · have hd2 : decide (p.t < tO) = false := decide_eq_false hb
            clear ha hb
            (
                go_upto_region 13 with fail
                go_big_quiet (fail)
                go_wp2_with fail
                go_roundw
                case rel => exact ⟨k + 1, pm, pc, _, P, rfl, by go_num, by omega, by omega, Lib.hid ⟨⟨HI.out.1.row.ext (Ext.drewN _ _), HI.out.1.own, HI.out.1.ext.trans (Ext.drewN _ _)⟩, HI.out.2.next⟩⟩
                case measure => simp [RowKit.intOf]; omega)
        · have hd1 : decide (fr ≤ p.t) = false := decide_eq_false ha
          clear ha
          (
              go_upto_region 13 with fail
              go_big_quiet (fail)
              go_wp2_with fail
              go_roundw
              case rel => exact ⟨k + 1, pm, pc, _, P, rfl, by go_num, by omega, by omega, Lib.hid ⟨⟨HI.out.1.row.ext (Ext.drewN _ _), HI.out.1.own, HI.out.1.ext.trans (Ext.drewN _ _)⟩, HI.out.2.next⟩⟩
              case measure => simp [RowKit.intOf]; omega)
      · go_wp2_with fail
        go_meet
        exact ⟨P, pa, pm, pc, rfl, by omega, Lib.hid ⟨HI.out.1, ⟨by have := HI.out.2.len; omega, HI.out.2.up, HI.out.2.pt⟩⟩⟩
  case rest => as_aux_lemma =>
    obtain ⟨P, pa, pm, pc, rfl, hpm, HI⟩ := hcut
    have HQI := Lib.hid (HQM.out P HI.out.2)
    have HPP := Lib.hid (HI.out.1.row.src (pts_one P))
    have BQ3 := Lib.hid ((HI.out.1.ext.block (block_lt BQ2.out)).trans BQ2.out)
    have HX3 := Lib.hid (HX2.out.trans HI.out.1.ext)
    have HS3 := Lib.hid (HS2.out.ext HI.out.1.ext)
    clear HI BQ2 HX2 HS2 HQM HL2 HFT LN
    go_wp2_with (first | (refine wpList_load_box rfl _ _ rfl _ _ _ _ _ rfl BQ3.out Tryz.underlying23 rfl qry_info ?_))
    refine (HRA.out _ pa pm pc P HPP.out HQI.out).mono ?_
    rintro e w5 ⟨ra, rm, rc, rfl, hrw, hx5⟩
    have HRW := Lib.hid hrw
    have HX5 := Lib.hid (HX3.out.trans hx5)
    have BQ5 := Lib.hid ((hx5.block (block_lt BQ3.out)).trans BQ3.out)
    have HS5 := Lib.hid (HS3.out.ext hx5)
    have HPP5 := Lib.hid (HPP.out.ext hx5)
    have hrm : rm ≤ 3840 := by
      have e1 := enc_src_len rwc_len (by decide) hrw
      have e2 := rawR_len (fn := fn) (fill := fill) HQI.out
      omega
    clear hrw hx5 HX3 BQ3 HS3 HPP HRA
    go_wp2_with fail
    go_loopw [6, 15] (fun s6 s15 wr => ∃ j : Nat, s6 = .bool false ∧ s15 = .int .i64 j ∧ j ≤ m ∧ Hid (Ext w5 wr)) (fun _ i _ => m - (RowKit.intOf i).toNat)
    case atStart => exact ⟨0, rfl, rfl, by omega, Lib.hid (Ext.refl _)⟩
    case round =>
      obtain ⟨j, rfl, rfl, hj, HXR⟩ := hrel
      by_cases hlt : j < m
      · obtain ⟨cb, co, ⟨T, A, B⟩, rfl, hx, x0, x1, x2⟩ := pts_src (HS5.out.ext HXR.out) hlt
        simp only at x0 x1 x2
        have HXC := Lib.hid hx
        clear hx
        go_upto_region 20 with fail
        generalize hW1 : World.alloc _ _ = W1
        have HXW1 : Hid (Ext wr W1) := Lib.hid (by subst hW1; exact (Ext.refl wr).alloc _)
        have HC1 : Hid (W1.heap[wr.heap.size]? = some (.cells #[.int .i64 T, .int .i64 A, .int .i64 B] 35 (0, 0))) := Lib.hid (by subst hW1; exact heap_alloc_new wr _)
        clear hW1 x0 x1 x2
        have BQ1 := Lib.hid (((HXR.out.trans HXW1.out).block (block_lt BQ5.out)).trans BQ5.out)
        have e4 := cell_turned (T := fun _ => false) (show W1.cell? ⟨w.heap.size, 4, none⟩ = some (.int .i64 fr) by have := cell_of_block BQ1.out 4; simpa using this) rfl
        have e5 := cell_turned (T := fun _ => false) (show W1.cell? ⟨w.heap.size, 5, none⟩ = some (.int .i64 tO) by have := cell_of_block BQ1.out 5; simpa using this) rfl
        have k1 := cell_turned (T := fun _ => false) (show W1.cell? ⟨wr.heap.size, 1, none⟩ = some (.int .i64 A) by have := cell_of_block HC1.out 1; simpa using this) rfl
        have k2 := cell_turned (T := fun _ => false) (show W1.cell? ⟨wr.heap.size, 2, none⟩ = some (.int .i64 B) by have := cell_of_block HC1.out 2; simpa using this) rfl
        have HPW := Lib.hid (HPP5.out.ext (HXR.out.trans HXW1.out))
        have HCT1 := Lib.hid (fun W (hx : Ext W1 W) => cut_named W pa pm pc fr A P (HPW.out.ext hx) hpm)
        have HCT2 := Lib.hid (fun W (hx : Ext W1 W) => cut_named W pa pm pc B tO P (HPW.out.ext hx) hpm)
        refine wp_region_plan 11 (fun w' => ∃ z : Turned, w' = turned W1 (fun _ => false) z.d z.f z.os) (.reads [0, 1, 2, 3, 4, 6, 7, 8, 9, 10] (.one 5 (.one 11 (.one 12 (.one 13 .done))))) (by kernel_rfl) (by kernel_rfl) (fun _ _ dd _ _ hh => by cases dd <;> exact hh) ?_ ?_
        · exact turned_of_ext (Ext.drewN W1 1)
        refine wpPlan_reads ?_
        simp only [pickOps, List.getElem?_cons_succ, List.getElem?_cons_zero]
        repeat (go_big_quiet_step (fail))
        refine wpQuiet_nil ?_
        clear e4 e5 k1 k2
        change wpPlan _ _ _ _ _ _ _ _ (W1.drewN 1)
        have HXd : Hid (Ext W1 (W1.drewN 1)) := Lib.hid (Ext.drewN W1 1)
        generalize W1.drewN 1 = Wd at HXd ⊢
        refine wpPlan_one ?_
        simp only [pickOps, List.getElem?_cons_succ, List.getElem?_cons_zero]
        go_wp2_with fail
        refine (HCT1.out _ HXd.out).mono ?_
        rintro e u1 ⟨o1, q1, d1, rfl, hq1, ht1⟩
        have HK1 := Lib.hid ht1
        have HY1 := Lib.hid (HXd.out.trans ht1.ext)
        clear ht1
        go_wp2_with fail
        refine thenX_mk (turned_of_ext HY1.out) (wpPlan_one ?_)
        simp only [pickOps, List.getElem?_cons_succ, List.getElem?_cons_zero]
        go_wp2_with fail
        refine (HCT2.out _ HY1.out).mono ?_
        rintro e u2 ⟨o2, q2, d2, rfl, hq2, ht2⟩
        have HK2 := Lib.hid ht2
        have HY2 := Lib.hid (HY1.out.trans ht2.ext)
        have HR1 := Lib.hid (HK1.out.row.ext ht2.ext)
        clear ht2
        go_wp2_with fail
        refine thenX_last (wpPlan_one ?_)
        simp only [pickOps, List.getElem?_cons_succ, List.getElem?_cons_zero]
        go_wp2_with (at_builtin; go_must (refine wpList_append_to elem_pt rfl _ _ rfl rfl rfl HR1.out (HK2.out.row.src (pts_one _)) (by unfold maxLen; omega) (by omega) ?_; intro v3 w3 happ); have HM3 := Lib.hid (made_appended (w0 := W1) happ (fun g hg => Nat.le_trans HXd.out.size (HK1.out.own g hg)) HY2.out); obtain ⟨o3, d3, rfl⟩ := happ.row.shape; clear happ)
        refine thenX_last (wpPlan_one ?_)
        simp only [pickOps, List.getElem?_cons_succ, List.getElem?_cons_zero]
        go_wp2_with fail
        refine thenX_last (wpPlan_done ?_)
        obtain ⟨q3, hq3⟩ : ∃ q3, q3 = q1 + q2 := ⟨_, rfl⟩
        rw [← hq3] at HM3 ⊢
        have HX3 := Lib.hid (HXR.out.trans (HXW1.out.trans HM3.out.ext))
        have HC3 := Lib.hid ((HM3.out.ext.block (block_lt HC1.out)).trans HC1.out)
        have BQ3 := Lib.hid ((HM3.out.ext.block (block_lt BQ1.out)).trans BQ1.out)
        have HPP3 := Lib.hid (HPW.out.ext HM3.out.ext)
        have HCU : Hid (A ≤ B → Src w3 3 (.slice o3 q3 d3) q3 (pts (P.filter (outP A B)))) := Lib.hid (fun hAB => by
          rw [← cut_two HQI.out.up hAB (fun p hp => ⟨(HQI.out.pt p hp).1, (HQI.out.pt p hp).2.1⟩), pts_append]
          refine HM3.out.row.src (fun u hu => ?_)
          rw [← pts_append] at hu
          exact pts_one _ u hu)
        clear HM3 HK1 HK2 HR1 HY1 HY2 HXd HCT1 HCT2 HPW HC1 BQ1 HXW1 hq1 hq2 hq3
        rcases Nat.eq_zero_or_pos j with hj0 | hj0
        · have hx := HXC.out
          rw [hj0, HCS.out] at hx
          simp only [List.getElem?_cons_zero, Option.some.injEq, Pt.mk.injEq] at hx
          obtain ⟨rfl, rfl, rfl⟩ := hx
          have HCR := Lib.hid (ch_raw HQI.out)
          have HCI := Lib.hid HCR.out.1
          have HPS : Hid (Src w3 3 (.slice pa pm pc) pm (pts (P.filter (outP fr fr)))) := Lib.hid (by rw [HCR.out.2]; exact HPP3.out)
          have HBS : Hid (Src w3 13 (.slice none 0 0) 0 (bks [])) := Lib.hid (.inl ⟨rfl, rfl, rfl⟩)
          have BQ6 := BQ3
          have HC6 := HC3
          have HX6 := HX3
          have k0 : w3.cell? ⟨wr.heap.size, 0, none⟩ = some (.int .i64 (-1)) := by have := cell_of_block HC3.out 0; simpa using this
          clear hj0 HX3 BQ3 HC3 HCU HPP3
          (
              have HIT := Lib.hid (ch_rows (fn := fn) (fill := fill) HQI.out HCI.out)
              have HLI := Lib.hid (ch_lies HQI.out HCI.out)
              go_upto_region 29 with fail
              go_wp2_with (first | (refine wpList_load_box rfl _ _ rfl _ _ _ _ _ rfl BQ6.out Tryz.underlying23 rfl qry_info ?_) | (refine wpList_load_box rfl _ _ rfl _ _ _ _ _ rfl HC6.out Tryz.underlying35 rfl chc_info ?_))
              refine (HPR.out _ _ _ _ _ _ _ _ HPS.out _ _ _ _ HBS.out HLI.out HIT.out).mono ?_
              rintro e w9 ⟨a9, m9, c9, rfl, hx9, R, hR, hs9⟩
              rw [ch_res HQI.out HCI.out hR] at hs9
              have hm9 : m9 = rm := by
                have e1 := enc_src_len rwc_len (by decide) hs9
                have e2 := enc_src_len rwc_len (by decide) HRW.out
                omega
              subst hm9
              have HX9 := Lib.hid (HX6.out.trans hx9)
              have HSM := Lib.hid (rsame_any w9 a9 m9 c9 ra rc _ hs9 (HRW.out.ext HX9.out) (by omega))
              clear hR hs9 hx9
              go_wp2_with fail
              refine HSM.out.mono ?_
              rintro e w10 ⟨rfl, hx10⟩
              have HX10 := Lib.hid (HX9.out.trans hx10)
              clear hx10
              go_wp2_with fail
              go_roundw
              case rel => exact ⟨j + 1, rfl, by go_num, by omega, HX10⟩
              case measure => simp [RowKit.intOf]; omega)
        · obtain ⟨i', hi'⟩ : ∃ i', i' = j - 1 := ⟨_, rfl⟩
          have hx := HXC.out
          rw [HCS.out, show j = i' + 1 by omega] at hx
          have hmem := List.mem_of_getElem? (show (chFrom fr tO wd st off fr l 0)[i']? = some ⟨T, A, B⟩ by simpa using hx)
          obtain ⟨kk, ⟨tw, tof, tu, tm, tf⟩, ect, hat, hwt, ha1, ha2, ha3, hma, hmb, hch⟩ := ch_tier HQI.out HFN.out hmem
          simp only at ect hwt ha1 ha2 ha3 hma hmb hch
          simp only [Pt.mk.injEq, and_true] at ect
          subst ect
          have HCH := Lib.hid hch
          have HRO := Lib.hid (fun W (hx : Ext w3 W) => rollg_any W pa pm pc P tw tof A B (HPP3.out.ext hx) (by omega) hwt (by omega) ha2 (by omega) hma hmb (fun p hp => by have := HQI.out.pt p hp; omega))
          have hkn : kk < n := by have h1 := LT.out; have h2 := (List.getElem?_eq_some_iff.1 hat).1; omega
          obtain ⟨tb, tbo, t', rfl, ht', t0, t1, t2, t3, t4⟩ := tis_src (HTS.out.ext (HX5.out.trans HX3.out)) hkn
          obtain rfl : t' = ⟨tw, tof, tu, tm, tf⟩ := by rw [hat] at ht'; exact (Option.some.inj ht').symm
          simp only at t0 t1 t2 t3 t4
          have k0 : w3.cell? ⟨wr.heap.size, 0, none⟩ = some (.int .i64 (kk : Int)) := by have := cell_of_block HC3.out 0; simpa using this
          have HPS0 := Lib.hid (HCU.out ha2)
          clear hx hmem hch hat ht' hi' hj0 hwt ha1 ha2 ha3 hma hmb HXC HCU
          go_upto_region 24 with fail
          generalize hW2 : World.alloc _ _ = W2
          have HXW2 : Hid (Ext w3 W2) := Lib.hid (by subst hW2; exact (Ext.refl w3).alloc _)
          have HT2 : Hid (W2.heap[w3.heap.size]? = some (.cells #[.int .i64 tw, .int .i64 tof, .int .i64 tu, .bool tm, .string tf] 48 (0, 0))) := Lib.hid (by subst hW2; exact heap_alloc_new w3 _)
          clear hW2 t0 t1 t2 t3 t4 k0
          have HC4 := Lib.hid ((HXW2.out.block (block_lt HC3.out)).trans HC3.out)
          have k1 : W2.cell? ⟨wr.heap.size, 1, none⟩ = some (.int .i64 A) := by have := cell_of_block HC4.out 1; simpa using this
          have k2 : W2.cell? ⟨wr.heap.size, 2, none⟩ = some (.int .i64 B) := by have := cell_of_block HC4.out 2; simpa using this
          have t0 : W2.cell? ⟨w3.heap.size, 0, none⟩ = some (.int .i64 tw) := by have := cell_of_block HT2.out 0; simpa using this
          have t1 : W2.cell? ⟨w3.heap.size, 1, none⟩ = some (.int .i64 tof) := by have := cell_of_block HT2.out 1; simpa using this
          go_wp2_with fail
          refine (HRO.out W2 HXW2.out).mono ?_
          rintro e w6 ⟨v6, rfl, ds, hd1, hd2, hm6⟩
          obtain ⟨o6, d6, rfl⟩ := hm6.row.shape
          obtain ⟨N, hN⟩ : ∃ N, N = ds.length := ⟨_, rfl⟩
          rw [← hN] at hm6 ⊢
          have HCI := Lib.hid (HCH.out ds hd1 hd2)
          have HXX := Lib.hid (HXW2.out.trans hm6.ext)
          have HX6 := Lib.hid (HX3.out.trans HXX.out)
          have HC6 := Lib.hid ((HXX.out.block (block_lt HC3.out)).trans HC3.out)
          have BQ6 := Lib.hid ((HXX.out.block (block_lt BQ3.out)).trans BQ3.out)
          have HPS := Lib.hid (HPS0.out.ext HXX.out)
          have HBS := Lib.hid (hm6.row.src (bks_one _))
          clear hd1 hd2 hm6 hN HXX HX3 HC3 BQ3 HPS0 HXW2 HT2 HC4 k1 k2 t0 t1 HRO HCH HPP3
          (
              have HIT := Lib.hid (ch_rows (fn := fn) (fill := fill) HQI.out HCI.out)
              have HLI := Lib.hid (ch_lies HQI.out HCI.out)
              go_upto_region 29 with fail
              go_wp2_with (first | (refine wpList_load_box rfl _ _ rfl _ _ _ _ _ rfl BQ6.out Tryz.underlying23 rfl qry_info ?_) | (refine wpList_load_box rfl _ _ rfl _ _ _ _ _ rfl HC6.out Tryz.underlying35 rfl chc_info ?_))
              refine (HPR.out _ _ _ _ _ _ _ _ HPS.out _ _ _ _ HBS.out HLI.out HIT.out).mono ?_
              rintro e w9 ⟨a9, m9, c9, rfl, hx9, R, hR, hs9⟩
              rw [ch_res HQI.out HCI.out hR] at hs9
              have hm9 : m9 = rm := by
                have e1 := enc_src_len rwc_len (by decide) hs9
                have e2 := enc_src_len rwc_len (by decide) HRW.out
                omega
              subst hm9
              have HX9 := Lib.hid (HX6.out.trans hx9)
              have HSM := Lib.hid (rsame_any w9 a9 m9 c9 ra rc _ hs9 (HRW.out.ext HX9.out) (by omega))
              clear hR hs9 hx9
              go_wp2_with fail
              refine HSM.out.mono ?_
              rintro e w10 ⟨rfl, hx10⟩
              have HX10 := Lib.hid (HX9.out.trans hx10)
              clear hx10
              go_wp2_with fail
              go_roundw
              case rel => exact ⟨j + 1, rfl, by go_num, by omega, HX10⟩
              case measure => simp [RowKit.intOf]; omega)
      · have HXE := Lib.hid (HX5.out.trans HXR.out)
        have BQ6 := Lib.hid ((HXR.out.block (block_lt BQ5.out)).trans BQ5.out)
        have c4 : wr.cell? ⟨w.heap.size, 4, none⟩ = some (.int .i64 fr) := by have := cell_of_block BQ6.out 4; simpa using this
        have c5 : wr.cell? ⟨w.heap.size, 5, none⟩ = some (.int .i64 tO) := by have := cell_of_block BQ6.out 5; simpa using this
        have hw1 : IntKind.i64.wrap (fr - 1) = fr - 1 := IntWalk.i64_in _ (by omega)
        have hm1' : (0 : Int) < (m : Int) := by omega
        go_wp2_with (first | (refine wpList_load_box rfl _ _ rfl _ _ _ _ _ rfl BQ6.out Tryz.underlying23 rfl qry_info ?_))
        refine (HPB.out _).mono ?_
        rintro e w9 ⟨rfl, hx9⟩
        have HX9 := Lib.hid (HXE.out.trans hx9)
        clear hx9 c4 c5
        go_wp2_with fail
        go_ret
        exact ⟨by first | (simp [hm1']; done) | (simp; omega), HX9.out⟩

theorem planSame_any (op fn : Int) (ser oth : ByteArray) (fr tO wd st off gap tol fill : Int) (hse : ser.size ≤ maxLen) (hot : oth.size ≤ maxLen) (w : World) (a : Option Addr) (n c : Nat) (l : List Ti) (hs : Src w 5 (.slice a n c) n (tis l)) (hn : n ≤ 4398046511104)
    (a2 : Option Addr) (n2 c2 : Nat) (l2 : List Pt) (hs2 : Src w 3 (.slice a2 n2 c2) n2 (pts l2)) (hfit : ∀ p ∈ l2, p.fits) :
    Calls Tryz.prog 3 #[qV op fn ser oth fr tO wd st off gap tol fill, .slice a n c, .slice a2 n2 c2] w fun e w' => e = .returned (.bool true) ∧ Ext w w' := by
  cases hfi : fineB n l with
  | false => exact planSame_not op fn ser oth fr tO wd st off gap tol fill w a n c l hs hn a2 n2 c2 (.inl hfi)
  | true =>
    by_cases h60 : 60 < n2
    · exact planSame_not op fn ser oth fr tO wd st off gap tol fill w a n c l hs hn a2 n2 c2 (.inr h60)
    · cases hck : planCheckB op fn ser oth fr tO wd st off gap tol fill with
      | false => exact planSame_bad op fn ser oth fr tO wd st off gap tol fill hse hot w a n c l hs hn a2 n2 c2 (by omega) hfi hck
      | true =>
        by_cases hnear : tO - fr ≤ 3000
        · exact planSame_ok op fn ser oth fr tO wd st off gap tol fill hse hot w a n c l hs hn a2 n2 c2 l2 hs2 hfit (by omega) hfi hck hnear
        · exact planSame_far op fn ser oth fr tO wd st off gap tol fill hse hot w a n c l hs hn a2 n2 c2 (by omega) hfi hck (by omega)
end Go.Proofs.YtokllgdbmnmieaaGreat
