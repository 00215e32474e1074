/- The law's own and same: buckets of the program and of the document that have the same. -/
import Derived.Test.YthnpchfcafaiiaaR21s
import Derived.Test.YthnpchfcafaiiaaWdw
import Derived.Test.YthnpchfcafaiiaaSeb
import Derived.ChangeKeysEq
import Derived.Deep.DeepCutAuto
namespace Go.Proofs.Ythnpchfcafaiiaa
open Go.RowKit Go.Lib Go.Sort

theorem agR_lits (g : Ag) : ∃ y2 y3 y4 y5 y6 y7 y8 y9 : Int, lmA g.s = #[.int .i64 y2, .int .i64 y3, .int .i64 y4, .int .i64 y5, .int .i64 y6, .int .i64 y7, .int .i64 y8, .int .i64 y9] ∧
    agR g = #[.int .i64 g.n, .int .i64 y2, .int .i64 y3, .int .i64 y4, .int .i64 y5, .int .i64 y6, .int .i64 y7, .int .i64 y8, .int .i64 y9, .int .i64 g.mn, .int .i64 g.mx, .int .i64 g.f.t, .int .i64 g.f.v, .int .i64 g.f.s, .int .i64 g.l.t, .int .i64 g.l.v, .int .i64 g.l.s] := ⟨_, _, _, _, _, _, _, _, rfl, rfl⟩

set_option maxHeartbeats 2000000 in
set_option maxRecDepth 100000 in
theorem own_agg (g : Ag) (w : World) (h1 : -170141183460469231731687303715884105728 ≤ g.s) (h2 : g.s < 170141183460469231731687303715884105728) :
    Calls Try.prog 26 #[g.val] w fun e w' => e = .returned (.agg (agR g)) ∧ Ext w w' := by
  have HC := Lib.hid (fun W => limbs_any g.s W h1 h2)
  obtain ⟨y2, y3, y4, y5, y6, y7, y8, y9, e1, e2⟩ := agR_lits g
  rw [e2]
  rw [e1] at HC
  clear e1 e2 h1 h2
  obtain ⟨gn, gs, gmn, gmx, ⟨gft, gfv, gfs⟩, ⟨glt, glv, gls⟩⟩ := g
  unfold Ag.val
  simp only at HC ⊢
  obtain ⟨hi, hhi⟩ : ∃ x, x = gs / 18446744073709551616 := ⟨_, rfl⟩
  obtain ⟨lo, hlo⟩ : ∃ x, x = gs % 18446744073709551616 := ⟨_, rfl⟩
  rw [← hhi, ← hlo] at HC
  rw [← hhi, ← hlo]
  clear hhi hlo
  go_enter Try.func26, Try.ntmps26
  go_wp2_with fail
  generalize hW : World.alloc _ _ = W
  have b0 : W.heap[w.heap.size]? = some (.cells #[.int .i64 gn, .int .i64 hi, .int .u64 lo, .int .i64 gmn, .int .i64 gmx, .int .i64 gft, .int .i64 gfv, .int .i64 gfs, .int .i64 glt, .int .i64 glv, .int .i64 gls] 48 (0, 0)) := by
    subst hW
    have h0 := heap_alloc_new w (.cells #[.int .i64 gn, .int .i64 hi, .int .u64 lo, .int .i64 gmn, .int .i64 gmx, .int .i64 gft, .int .i64 gfv, .int .i64 gfs, .int .i64 glt, .int .i64 glv, .int .i64 gls] 48 (0, 0))
    exact ((((Ext.refl _).alloc _).block (block_lt h0)).trans h0)
  have b1 : Hid (W.heap[w.heap.size + 1]? = some arZ) := Lib.hid (by
    subst hW
    exact heap_alloc2 w _ _)
  have HXW : Hid (Ext w W) := Lib.hid (by subst hW; exact (((Ext.refl w).alloc _).alloc _))
  clear hW
  have f0 := cell_turned (T := fun _ => false) (show W.cell? ⟨w.heap.size, 0, none⟩ = some (.int .i64 gn) by have := cell_of_block b0 0; simpa using this) rfl
  have f1 := cell_turned (T := fun _ => false) (show W.cell? ⟨w.heap.size, 1, none⟩ = some (.int .i64 hi) by have := cell_of_block b0 1; simpa using this) rfl
  have f2 := cell_turned (T := fun _ => false) (show W.cell? ⟨w.heap.size, 2, none⟩ = some (.int .u64 lo) by have := cell_of_block b0 2; simpa using this) rfl
  have f3 := cell_turned (T := fun _ => false) (show W.cell? ⟨w.heap.size, 3, none⟩ = some (.int .i64 gmn) by have := cell_of_block b0 3; simpa using this) rfl
  have f4 := cell_turned (T := fun _ => false) (show W.cell? ⟨w.heap.size, 4, none⟩ = some (.int .i64 gmx) by have := cell_of_block b0 4; simpa using this) rfl
  have f5 := cell_turned (T := fun _ => false) (show W.cell? ⟨w.heap.size, 5, none⟩ = some (.int .i64 gft) by have := cell_of_block b0 5; simpa using this) rfl
  have f6 := cell_turned (T := fun _ => false) (show W.cell? ⟨w.heap.size, 6, none⟩ = some (.int .i64 gfv) by have := cell_of_block b0 6; simpa using this) rfl
  have f7 := cell_turned (T := fun _ => false) (show W.cell? ⟨w.heap.size, 7, none⟩ = some (.int .i64 gfs) by have := cell_of_block b0 7; simpa using this) rfl
  have f8 := cell_turned (T := fun _ => false) (show W.cell? ⟨w.heap.size, 8, none⟩ = some (.int .i64 glt) by have := cell_of_block b0 8; simpa using this) rfl
  have f9 := cell_turned (T := fun _ => false) (show W.cell? ⟨w.heap.size, 9, none⟩ = some (.int .i64 glv) by have := cell_of_block b0 9; simpa using this) rfl
  have f10 := cell_turned (T := fun _ => false) (show W.cell? ⟨w.heap.size, 10, none⟩ = some (.int .i64 gls) by have := cell_of_block b0 10; simpa using this) rfl
  clear b0
  refine wp_region_plan 17 (fun w' => ∃ p : Turned, w' = turned W (fun _ => false) p.d p.f p.os) (.reads [0, 1, 2, 3, 4, 5, 6, 7, 9, 10, 11, 12, 13, 14, 15, 16] (.one 8 (.one 17 (.one 18 .done)))) (by kernel_rfl) (by kernel_rfl) (fun _ _ dd _ _ hh => by cases dd <;> exact hh) ?_ ?_
  · exact turned_of_ext (Ext.drewN W 1)
  refine wpPlan_reads ?_
  simp only [pickOps, List.getElem?_cons_succ, List.getElem?_cons_zero]
  repeat (go_big_quiet_step (fail))
  refine wpQuiet_nil ?_
  clear f0 f1 f2 f3 f4 f5 f6 f7 f8 f9 f10
  refine wpPlan_one ?_
  simp only [pickOps, List.getElem?_cons_succ, List.getElem?_cons_zero]
  go_wp2_with fail
  refine (HC.out _).mono ?_
  rintro e w1 ⟨rfl, hx1⟩
  have HX1 := Lib.hid ((Ext.drewN W 1).trans hx1)
  clear hx1 HC
  go_wp2_with fail
  refine thenX_mk (turned_of_ext HX1.out) (wpPlan_one ?_)
  simp only [pickOps, List.getElem?_cons_succ, List.getElem?_cons_zero]
  go_wp2_with fail
  refine thenX_last (wpPlan_one ?_)
  simp only [pickOps, List.getElem?_cons_succ, List.getElem?_cons_zero]
  have B2 := Lib.hid ((HX1.out.block (block_lt b1.out)).trans b1.out)
  clear b1
  refine wpList_store_box rfl _ _ _ rfl _ _ _ _ rfl rfl B2.out rfl (by kernel_rfl) (by simp [Value.oneCell']) ?_
  rintro w2 hb2 hc2
  have HX2 := Lib.hid (((Chg.of_ext (HXW.out.trans HX1.out)).trans hc2 (fun _ _ e => e)).ext (fun i hi e => by omega))
  have HB2 := Lib.hid hb2
  clear hb2 hc2
  go_wp2_with fail
  refine thenX_last (wpPlan_done ?_)
  go_wp2_with fail
  exact bodyPost_ret (results_box Try.results26 _ _ rfl HB2.out Try.underlying66 rfl (by kernel_rfl)) rfl ⟨rfl, HX2.out⟩

theorem eq_lm (y2 y3 y4 y5 y6 y7 y8 y9 : Int) (W : World) : (Op.equalIn 9999 64 (.agg #[.int .i64 y2, .int .i64 y3, .int .i64 y4, .int .i64 y5, .int .i64 y6, .int .i64 y7, .int .i64 y8, .int .i64 y9]) (.agg #[.int .i64 y2, .int .i64 y3, .int .i64 y4, .int .i64 y5, .int .i64 y6, .int .i64 y7, .int .i64 y8, .int .i64 y9])).run Try.prog W = .ok true W := by
  obtain ⟨i, hi⟩ := info_of_underlying Try.underlying3
  have hc : Try.prog.cellsOf 3 = 1 := by kernel_rfl
  have hp : ∀ (xs : Array Value) (k : Nat) (v : Value), xs[k]? = some v → (part 3 xs k).run Try.prog W = .ok v W := fun xs k v h => run_part_plain W (by kernel_rfl) h
  have hq : ∀ a : Int, (Op.equalIn 9998 3 (.int .i64 a) (.int .i64 a)).run Try.prog W = .ok true W := fun a => by
    have := run_equalIn_int (P := Try.prog) (w := W) 9997 3 .i64 .i64 a a Try.underlying3
    rw [this]
    simp
  have st : ∀ (xs : Array Value) (k : Nat) (z : Int) (is : List Nat), xs[k]? = some (.int .i64 z) → (Op.eqItems 9998 3 1 xs xs (k :: is)).run Try.prog W = (Op.eqItems 9998 3 1 xs xs is).run Try.prog W := fun xs k z is h => by
    simp only [Op.eqItems, Nat.mul_one, Sem.run_bind, hp xs k _ h, Result.andThen_ok, hq]
    simp
  rw [run_equalIn_array W 9998 _ _ Try.underlying64 hi, show List.range 8 = [0, 1, 2, 3, 4, 5, 6, 7] from rfl, hc]
  rw [st _ 0 y2 _ rfl, st _ 1 y3 _ rfl, st _ 2 y4 _ rfl, st _ 3 y5 _ rfl, st _ 4 y6 _ rfl, st _ 5 y7 _ rfl, st _ 6 y8 _ rfl, st _ 7 y9 _ rfl]
  simp [Op.eqItems]

theorem ag_info : (Try.prog.info? 48).map (·.size) = some 11 := by kernel_rfl

set_option maxHeartbeats 4000000 in
set_option maxRecDepth 100000 in
theorem same_any (w : World) (a1 a2 : Option Addr) (n c1 c2 : Nat) (B : List Bk) (h1 : Src w 13 (.slice a1 n c1) n (bks B)) (h2 : Src w 19 (.slice a2 n c2) n (rbs B)) (hn : n ≤ 70000)
    (hb : ∀ b ∈ B, -170141183460469231731687303715884105728 ≤ b.a.s ∧ b.a.s < 170141183460469231731687303715884105728) :
    Calls Try.prog 9 #[.slice a1 n c1, .slice a2 n c2] w fun e w' => e = .returned (.bool true) ∧ Ext w w' := by
  have H1 := Lib.hid h1
  have H2 := Lib.hid h2
  have HB := Lib.hid hb
  clear h1 h2 hb
  go_enter Try.func9, Try.ntmps9
  go_wp2_with fail
  go_loopw [5] (fun s5 wr => ∃ k : Nat, k ≤ n ∧ s5 = .int .i64 k ∧ Hid (Ext w wr)) (fun i _ => n - (RowKit.intOf i).toNat)
  case atStart => exact ⟨0, by omega, rfl, Lib.hid (Ext.refl _)⟩
  case round =>
    obtain ⟨k, hk, rfl, HX⟩ := hrel
    by_cases hlt : k < n
    · have hd1 : decide ((k : Int) < (n : Int)) = true := by simp; omega
      obtain ⟨b1, o1, bk, rfl, hbk, hr1⟩ := enc_src bkc_len (by decide) (H1.out.ext HX.out) hlt
      obtain ⟨b2, o2, bk', rfl, hbk', hr2⟩ := enc_src rbc_len (by decide) (H2.out.ext HX.out) hlt
      obtain rfl : bk = bk' := by rw [hbk] at hbk'; exact Option.some.inj hbk'
      have HOWN : Hid (∀ W, Calls Try.prog 26 #[bk.a.val] W fun e w' => e = .returned (.agg (agR bk.a)) ∧ Ext W w') := Lib.hid (fun W => own_agg bk.a W (HB.out bk (List.mem_of_getElem? hbk)).1 (HB.out bk (List.mem_of_getElem? hbk)).2)
      have f0 := cell_turned (T := fun _ => false) (show wr.cell? ⟨b1, o1 + k * 13, none⟩ = some (.int .i64 bk.lo) from hr1 0 _ rfl) rfl
      have f1 := cell_turned (T := fun _ => false) (show wr.cell? ⟨b1, o1 + k * 13 + 1, none⟩ = some (.int .i64 bk.hi) from hr1 1 _ rfl) rfl
      have f2 := cell_turned (T := fun _ => false) (show wr.cell? ⟨b2, o2 + k * 19, none⟩ = some (.int .i64 bk.lo) from hr2 0 _ rfl) rfl
      have f3 := cell_turned (T := fun _ => false) (show wr.cell? ⟨b2, o2 + k * 19 + 1, none⟩ = some (.int .i64 bk.hi) from hr2 1 _ rfl) rfl
      have g1 : ∀ (d : Nat) (f : Nat → Obj) (os : Array Obj), (Instr.loadAt 48 (.pointer (some ⟨b1, o1 + k * 13 + 2, none⟩))).run Try.prog (turned wr (fun _ => false) d f os) = .ok bk.a.val (turned wr (fun _ => false) d f os) := fun d f os => by
        have h1 := run_loadAt_mid (P := Try.prog) (turned wr (fun _ => false) d f os) b1 (o1 + k * 13 + 2) 48 bk.a.cells _ (fun i u hu => by
          have h2 := hr1 (2 + i) u (by rw [Nat.add_comm]; exact hu)
          have h3 := cell_turned (T := fun _ => false) h2 rfl d f os
          rw [← Nat.add_assoc] at h3
          exact h3) Try.underlying48 rfl ag_info
        exact h1
      have g2 : ∀ (d : Nat) (f : Nat → Obj) (os : Array Obj), (Instr.loadAt 66 (.pointer (some ⟨b2, o2 + k * 19 + 2, none⟩))).run Try.prog (turned wr (fun _ => false) d f os) = .ok (.agg (agR bk.a)) (turned wr (fun _ => false) d f os) := fun d f os => by
        have h1 := run_loadAt_mid (P := Try.prog) (turned wr (fun _ => false) d f os) b2 (o2 + k * 19 + 2) 66 (agR bk.a).toList _ (fun i u hu => by
          have h2 := hr2 (2 + i) u (by rw [Nat.add_comm]; exact hu)
          have h3 := cell_turned (T := fun _ => false) h2 rfl d f os
          rw [← Nat.add_assoc] at h3
          exact h3) Try.underlying66 rfl ar_info
        simpa using h1
      obtain ⟨y2, y3, y4, y5, y6, y7, y8, y9, _e1, e2⟩ := agR_lits bk.a
      clear _e1
      rw [e2] at g2 HOWN
      clear e2 hr1 hr2 hbk hbk'
      obtain ⟨lo, hi, ⟨gn, gs, gmn, gmx, ⟨gft, gfv, gfs⟩, ⟨glt, glv, gls⟩⟩⟩ := bk
      unfold Ag.val at g1 HOWN
      simp only at f0 f1 f2 f3 g1 g2 HOWN
      go_wp2_with fail
      refine wp_region_plan 39 (fun w' => ∃ p : Turned, w' = turned wr (fun _ => false) p.d p.f p.os) (.reads [0, 1, 2, 3, 4, 5, 6, 7, 8, 9, 10, 11, 12, 13, 14, 15, 16, 17, 18, 19, 20, 21, 22, 23, 24, 25, 26, 27, 28, 29, 30, 33, 34, 35, 36, 31, 37] (.one 32 (.one 38 (.one 39 .done)))) (by kernel_rfl) (by kernel_rfl) (fun _ _ dd _ _ hh => by cases dd <;> exact hh) ?_ ?_
      · exact turned_of_ext (Ext.drewN wr 1)
      refine wpPlan_reads ?_
      simp only [pickOps, List.getElem?_cons_succ, List.getElem?_cons_zero]
      repeat (first | (go_big_quiet_want; refine quiet_load_law _ _ rfl _ _ rfl (fun w hw => by obtain ⟨p, rfl⟩ := hw; exact g1 p.d p.f p.os) ?_; go_big_quiet_on; simp only [Act.put, List.setIfInBounds_toArray, List.set_cons_succ, List.set_cons_zero]) | (go_big_quiet_want; refine quiet_load_law _ _ rfl _ _ rfl (fun w hw => by obtain ⟨p, rfl⟩ := hw; exact g2 p.d p.f p.os) ?_; go_big_quiet_on; simp only [Act.put, List.setIfInBounds_toArray, List.set_cons_succ, List.set_cons_zero]) | (go_big_quiet_step (fail)))
      refine wpQuiet_nil ?_
      clear f0 f1 f2 f3 g1 g2
      refine wpPlan_one ?_
      simp only [pickOps, List.getElem?_cons_succ, List.getElem?_cons_zero]
      go_wp2_with fail
      refine (HOWN.out _).mono ?_
      rintro e w5 ⟨rfl, hx5⟩
      have HX5 := Lib.hid ((Ext.drewN wr 1).trans hx5)
      clear hx5 HOWN
      go_wp2_with fail
      refine thenX_mk (turned_of_ext HX5.out) (wpPlan_one ?_)
      simp only [pickOps, List.getElem?_cons_succ, List.getElem?_cons_zero]
      have he8 := eq_lm y2 y3 y4 y5 y6 y7 y8 y9 w5
      go_wp2_with fail
      refine thenX_mk (turned_of_ext HX5.out) (wpPlan_one ?_)
      simp only [pickOps, List.getElem?_cons_succ, List.getElem?_cons_zero]
      go_wp2_with fail
      refine thenX_last (wpPlan_done ?_)
      go_wp2_with fail
      exact ⟨⟨k + 1, by omega, by go_num, Lib.hid (HX.out.trans HX5.out)⟩, by simp [RowKit.intOf]; omega⟩
    · have hd1 : decide ((k : Int) < (n : Int)) = false := by simp; omega
      go_wp2_with fail
      go_ret
      exact ⟨rfl, HX.out⟩
end Go.Proofs.Ythnpchfcafaiiaa

/-! BucketsTells: the law's walk. -/

namespace Go.Proofs.Ythnpchfcafaiiaa
open Go.RowKit Go.Lib Go.Sort

theorem ptk_take (l : List Pt) (k : Nat) : (pts l).take (k * 3) = pts (l.take k) := pts_take l k
theorem psrc_hi {w : World} {a : Option Addr} {n c k : Nat} {l : List Pt} (h : Src w 3 (.slice a n c) n (pts l)) (hk : k ≤ n) (h0 : 0 < n) : Src w 3 (.slice a k c) k (pts (l.take k)) := by
  have hl := src_len h
  rcases h with ⟨e, e0, _⟩ | ⟨ad, c', e, _, h2, h3⟩
  · omega
  · cases e
    refine .inr ⟨ad, c, rfl, by rw [pts_len]; simp; omega, fun j u hj => ?_, pts_one _⟩
    rw [← ptk_take, List.getElem?_take] at hj
    split at hj
    · exact h2 j u hj
    · cases hj

def isWin (wd st off : Int) (l : List Pt) : Bool := windowB wd st off && !(l.any (fun p => !timeB p.t))
def WB (wd st off : Int) (l : List Pt) : List Bk := if isWin wd st off l = true then docL wd st off l else []
def WE (wd st off : Int) (l : List Pt) : Int := if isWin wd st off l = true then 0 else 2
theorem isWin_iff (wd st off : Int) (l : List Pt) : isWin wd st off l = true ↔ (windowB wd st off = true ∧ l.any (fun p => !timeB p.t) = false) := by
  unfold isWin; simp only [Bool.and_eq_true, Bool.not_eq_true']
instance sesDec (gap : Int) (l : List Int) : Decidable (sesOk gap l) := by unfold sesOk; infer_instance
def SBs (gap : Int) (l : List Pt) : List Bk := if sesOk gap (l.map (·.t)) then sesL gap l else []
def SE (gap : Int) (l : List Pt) : Int := if sesOk gap (l.map (·.t)) then 0 else 2

theorem nil_src13 (w : World) (s : Nat) : Src w s (.slice none 0 0) 0 [] := .inl ⟨rfl, rfl, rfl⟩

theorem windows_u (w : World) (a : Option Addr) (n c : Nat) (l : List Pt) (wd st off : Int) (hl : Src w 3 (.slice a n c) n (pts l)) (hn : n ≤ 900) (hp : ∀ p ∈ l, -9223372036854775808 ≤ p.v ∧ p.v ≤ 9223372036854775807) :
    Calls Try.prog 5 #[.slice a n c, .agg #[.int .i64 wd, .int .i64 st, .int .i64 off]] w fun e w' => ∃ a' c', e = .returned (.tuple #[.slice a' (WB wd st off l).length c', .int .i64 (WE wd st off l)]) ∧
      Src w' 13 (.slice a' (WB wd st off l).length c') (WB wd st off l).length (bks (WB wd st off l)) ∧ Ext w w' := by
  refine (windows_any w a n c l wd st off hl hn hp).mono ?_
  intro e w' h
  unfold winPost at h
  by_cases hg : isWin wd st off l = true
  · rw [if_pos ((isWin_iff wd st off l).1 hg)] at h
    obtain ⟨v, rfl, ds, h1, h2, h3⟩ := h
    obtain ⟨va, vc, rfl⟩ := h3.row.shape
    have hv := window_nums ((isWin_iff wd st off l).1 hg).1
    have hd := doc_wins hv.2.2.1 hv.2.2.2.1 l h1 h2
    have hlen : ds.length = (docL wd st off l).length := by rw [hd]; simp
    unfold WB WE
    rw [if_pos hg, if_pos hg, ← hlen]
    rw [hd]
    exact ⟨va, vc, rfl, h3.row.src (bks_one _), h3.ext⟩
  · rw [if_neg (fun e => hg ((isWin_iff wd st off l).2 e))] at h
    obtain ⟨rfl, hx⟩ := h
    unfold WB WE
    rw [if_neg hg, if_neg hg]
    exact ⟨none, 0, rfl, nil_src13 _ _, hx⟩

theorem rwindows_u (w : World) (a : Option Addr) (n c : Nat) (l : List Pt) (wd st off : Int) (hl : Src w 3 (.slice a n c) n (pts l)) (hn : n ≤ 900) (hp : ∀ p ∈ l, -9223372036854775808 ≤ p.v ∧ p.v ≤ 9223372036854775807) :
    Calls Try.prog 6 #[.slice a n c, .int .i64 wd, .int .i64 st, .int .i64 off] w fun e w' => ∃ a' c', e = .returned (.tuple #[.slice a' (WB wd st off l).length c', .int .i64 (WE wd st off l)]) ∧
      Src w' 19 (.slice a' (WB wd st off l).length c') (WB wd st off l).length (rbs (WB wd st off l)) ∧ Ext w w' := by
  refine (rwindows_any w a n c l wd st off hl hn hp).mono ?_
  intro e w' h
  unfold rwinPost at h
  by_cases hg : isWin wd st off l = true
  · rw [if_pos ((isWin_iff wd st off l).1 hg)] at h
    obtain ⟨v, m, rfl, h3, h4⟩ := h
    obtain ⟨va, vc, rfl⟩ := h3.row.shape
    unfold WB WE
    rw [if_pos hg, if_pos hg, h4]
    exact ⟨va, vc, rfl, h3.row.src (rbs_one _), h3.ext⟩
  · rw [if_neg (fun e => hg ((isWin_iff wd st off l).2 e))] at h
    obtain ⟨rfl, hx⟩ := h
    unfold WB WE
    rw [if_neg hg, if_neg hg]
    exact ⟨none, 0, rfl, nil_src13 _ _, hx⟩

theorem sessions_u (w : World) (a : Option Addr) (n c : Nat) (l : List Pt) (gap : Int) (hl : Src w 3 (.slice a n c) n (pts l)) (hn : n ≤ 900) (hc : n ≤ c) (hp : ∀ p ∈ l, -9223372036854775808 ≤ p.v ∧ p.v ≤ 9223372036854775807) :
    Calls Try.prog 7 #[.slice a n c, .int .i64 gap] w fun e w' => ∃ a' c', e = .returned (.tuple #[.slice a' (SBs gap l).length c', .int .i64 (SE gap l)]) ∧
      Src w' 13 (.slice a' (SBs gap l).length c') (SBs gap l).length (bks (SBs gap l)) ∧ Ext w w' := by
  refine (bsessions_any w a n c l gap hl hn hc hp).mono ?_
  intro e w' h
  unfold bsPost at h
  unfold SBs SE
  rcases h with ⟨hok, v, rfl, hm⟩ | ⟨hno, rfl, hx⟩
  · obtain ⟨va, vc, rfl⟩ := hm.row.shape
    rw [if_pos hok, if_pos hok]
    exact ⟨va, vc, rfl, hm.row.src (bks_one _), hm.ext⟩
  · rw [if_neg hno, if_neg hno]
    exact ⟨none, 0, rfl, nil_src13 _ _, hx⟩

theorem rsessions_u (w : World) (a : Option Addr) (n c : Nat) (l : List Pt) (gap : Int) (hl : Src w 3 (.slice a n c) n (pts l)) (hn : n ≤ 900) (hp : ∀ p ∈ l, -9223372036854775808 ≤ p.v ∧ p.v ≤ 9223372036854775807) :
    Calls Try.prog 8 #[.slice a n c, .int .i64 gap] w fun e w' => ∃ a' c', e = .returned (.tuple #[.slice a' (SBs gap l).length c', .int .i64 (SE gap l)]) ∧
      Src w' 19 (.slice a' (SBs gap l).length c') (SBs gap l).length (rbs (SBs gap l)) ∧ Ext w w' := by
  refine (rsess_any w a n c l gap hl hn hp).mono ?_
  intro e w' h
  unfold rsesPost at h
  unfold SBs SE
  rcases h with ⟨hok, v, rfl, hm⟩ | ⟨hno, rfl, hx⟩
  · obtain ⟨va, vc, rfl⟩ := hm.row.shape
    rw [dses_same hok.1.1 l hok.2] at hm ⊢
    rw [if_pos hok, if_pos hok]
    exact ⟨va, vc, rfl, hm.row.src (rbs_one _), hm.ext⟩
  · rw [if_neg hno, if_neg hno]
    exact ⟨none, 0, rfl, nil_src13 _ _, hx⟩

theorem bnd_sum {K : Nat} {g : Ag} (h : g.bnd K) (hk : K ≤ 1000000) : -170141183460469231731687303715884105728 ≤ g.s ∧ g.s < 170141183460469231731687303715884105728 := by
  unfold Ag.bnd at h; omega
theorem WB_ok (wd st off : Int) (l : List Pt) (hl : l.length ≤ 900) (hp : ∀ p ∈ l, -9223372036854775808 ≤ p.v ∧ p.v ≤ 9223372036854775807) :
    (WB wd st off l).length ≤ 60000 ∧ ∀ b ∈ WB wd st off l, -170141183460469231731687303715884105728 ≤ b.a.s ∧ b.a.s < 170141183460469231731687303715884105728 := by
  unfold WB
  split
  · rename_i hg
    have hv := ((isWin_iff wd st off l).1 hg).1
    exact ⟨by have := docL_len hv l; omega, fun b hb => bnd_sum (docL_bnd hv l hp b hb) (by omega)⟩
  · simp
theorem len_le_sum (g : List Pt) : ∀ gs : List (List Pt), g ∈ gs → g.length ≤ (gs.map List.length).sum
  | [], h => by simp at h
  | c :: gs, h => by
    rw [List.map_cons, List.sum_cons]
    rcases List.mem_cons.1 h with rfl | h
    · omega
    · have := len_le_sum g gs h; omega
theorem SB_ok (gap : Int) (l : List Pt) (hl : l.length ≤ 900) (hp : ∀ p ∈ l, -9223372036854775808 ≤ p.v ∧ p.v ≤ 9223372036854775807) :
    (SBs gap l).length ≤ 60000 ∧ ∀ b ∈ SBs gap l, -170141183460469231731687303715884105728 ≤ b.a.s ∧ b.a.s < 170141183460469231731687303715884105728 := by
  unfold SBs
  split
  · rename_i hok
    have G := grp_ok (gap := gap) hok.1.1 l (by have := hok.2; rw [List.pairwise_map] at this; exact this)
    refine ⟨?_, fun b hb => ?_⟩
    · have h1 := spL_len gap (l.map (·.t))
      rw [G.spans] at h1
      unfold sesL
      simp at h1 ⊢
      omega
    · unfold sesL at hb
      obtain ⟨g, hg, rfl⟩ := List.mem_map.1 hb
      have hsub : ∀ p ∈ g, p ∈ l := fun p hp => by rw [← G.flat]; exact List.mem_flatten.2 ⟨g, hg, hp⟩
      have hgl : g.length ≤ l.length := by
        rw [← G.flat, List.length_flatten]
        exact len_le_sum g _ hg
      exact bnd_sum (agA_bnd g (fun p hp' => hp p (hsub p hp'))) (by omega)
  · simp
theorem one_win : (WB 10 10 0 [⟨3, 0, 0⟩]).length = 1 ∧ WE 10 10 0 [⟨3, 0, 0⟩] = 0 := by
  constructor <;> rfl

set_option maxHeartbeats 8000000 in
set_option maxRecDepth 100000 in
theorem tells_walk (w : World) (a : Option Addr) (n c : Nat) (l : List Pt) (wd st off gap : Int) (hl : Src w 3 (.slice a n c) n (pts l)) (hn : n < 4611686018427387904) (hnc : n ≤ c) (hfit : ∀ p ∈ l, p.fits) :
    Calls Try.prog 3 #[.slice a n c, .agg #[.int .i64 wd, .int .i64 st, .int .i64 off], .int .i64 gap] w fun e w' => e = .returned (.bool true) ∧ Ext w w' := by
  have HL := Lib.hid hl
  have HF : Hid (∀ p ∈ l, -9223372036854775808 ≤ p.v ∧ p.v ≤ 9223372036854775807) := Lib.hid (fun p hp => (hfit p hp).2.1)
  clear hl hfit
  go_enter Try.func3, Try.ntmps3
  go_upto_if 19 with fail
  go_cut [0] (fun s0 wx => ∃ (n' : Nat) (l' : List Pt), s0 = .slice a n' c ∧ Hid (Src w 3 (.slice a n' c) n' (pts l') ∧ n' ≤ 60 ∧ n' ≤ c ∧ ∀ p ∈ l', -9223372036854775808 ≤ p.v ∧ p.v ≤ 9223372036854775807) ∧ wx = w.alloc (.cells #[.int .i64 wd, .int .i64 st, .int .i64 off] 24 (0, 0)))
  case first =>
    rcases Nat.lt_or_ge 60 n with h | h
    · have h1 : 60 ≤ c := by omega
      go_wp2_with fail
      go_meet
      exact ⟨60, l.take 60, rfl, Lib.hid ⟨psrc_hi HL.out (by omega) (by omega), by omega, h1, fun p hp => HF.out p (List.mem_of_mem_take hp)⟩, rfl⟩
    · have h1 : ¬ 60 < n := by omega
      go_wp2_with fail
      go_meet
      exact ⟨n, l, rfl, Lib.hid ⟨HL.out, h, hnc, HF.out⟩, rfl⟩
  case rest =>
    obtain ⟨n1, l1, rfl, C1, rfl⟩ := hcut
    clear HL HF hnc hn
    have HLN : Hid (l1.length = n1) := Lib.hid (src_len C1.out.1)
    have HB0 := Lib.hid (heap_alloc_new w (.cells #[.int .i64 wd, .int .i64 st, .int .i64 off] 24 (0, 0)))
    have HX0 : Hid (Ext w (w.alloc (.cells #[.int .i64 wd, .int .i64 st, .int .i64 off] 24 (0, 0)))) := Lib.hid ((Ext.refl w).alloc _)
    obtain ⟨bk, hbk⟩ : ∃ bk, bk = w.heap.size := ⟨_, rfl⟩
    rw [← hbk] at HB0 ⊢
    generalize w.alloc (.cells #[.int .i64 wd, .int .i64 st, .int .i64 off] 24 (0, 0)) = w0 at *
    clear hbk
    have r0 : w0.cell? ⟨bk, 0, none⟩ = some (.int .i64 wd) := by have := cell_of_block HB0.out 0; simpa using this
    have r1 : w0.cell? ⟨bk, 1, none⟩ = some (.int .i64 st) := by have := cell_of_block HB0.out 1; simpa using this
    have r2 : w0.cell? ⟨bk, 2, none⟩ = some (.int .i64 off) := by have := cell_of_block HB0.out 2; simpa using this
    go_wp2_with fail
    clear r0 r1 r2
    have HWO := Lib.hid (WB_ok wd st off l1 (by have := HLN.out; have := C1.out.2.1; omega) C1.out.2.2.2)
    have HSO := Lib.hid (SB_ok gap l1 (by have := HLN.out; have := C1.out.2.1; omega) C1.out.2.2.2)
    refine (windows_u w0 a n1 c l1 wd st off (C1.out.1.ext HX0.out) (by have := C1.out.2.1; omega) C1.out.2.2.2).mono ?_
    rintro e w1 ⟨x1, xc1, rfl, hs1, hx1⟩
    have HS1 := Lib.hid hs1
    have HX1 := Lib.hid (HX0.out.trans hx1)
    have HB1 := Lib.hid ((hx1.block (block_lt HB0.out)).trans HB0.out)
    clear hs1 hx1 HB0
    have r0 : w1.cell? ⟨bk, 0, none⟩ = some (.int .i64 wd) := by have := cell_of_block HB1.out 0; simpa using this
    have r1 : w1.cell? ⟨bk, 1, none⟩ = some (.int .i64 st) := by have := cell_of_block HB1.out 1; simpa using this
    have r2 : w1.cell? ⟨bk, 2, none⟩ = some (.int .i64 off) := by have := cell_of_block HB1.out 2; simpa using this
    have HRW := Lib.hid (rwindows_u w1 a n1 c l1 wd st off (C1.out.1.ext HX1.out) (by have := C1.out.2.1; omega) C1.out.2.2.2)
    obtain ⟨B1, hB1⟩ : ∃ B, B = WB wd st off l1 := ⟨_, rfl⟩
    obtain ⟨m1, hm1⟩ : ∃ m, m = B1.length := ⟨_, rfl⟩
    obtain ⟨k1, hk1⟩ : ∃ k, k = WE wd st off l1 := ⟨_, rfl⟩
    rw [← hB1] at HS1 HRW HWO ⊢
    rw [← hm1] at HS1 HRW HWO ⊢
    rw [← hk1] at HRW ⊢
    clear hB1 hm1 hk1 HB1
    go_wp2_with fail
    clear r0 r1 r2
    refine HRW.out.mono ?_
    rintro e w2 ⟨x2, xc2, rfl, hs2, hx2⟩
    have HS1 := Lib.hid (HS1.out.ext hx2)
    have HS2 := Lib.hid hs2
    have HX2 := Lib.hid (HX1.out.trans hx2)
    clear hs2 hx2 HRW
    go_wp2_with fail
    refine (sessions_u w2 a n1 c l1 gap (C1.out.1.ext HX2.out) (by have := C1.out.2.1; omega) C1.out.2.2.1 C1.out.2.2.2).mono ?_
    rintro e w3 ⟨x3, xc3, rfl, hs3, hx3⟩
    have HS1 := Lib.hid (HS1.out.ext hx3)
    have HS2 := Lib.hid (HS2.out.ext hx3)
    have HS3 := Lib.hid hs3
    have HX3 := Lib.hid (HX2.out.trans hx3)
    clear hs3 hx3
    have HRS := Lib.hid (rsessions_u w3 a n1 c l1 gap (C1.out.1.ext HX3.out) (by have := C1.out.2.1; omega) C1.out.2.2.2)
    obtain ⟨B3, hB3⟩ : ∃ B, B = SBs gap l1 := ⟨_, rfl⟩
    obtain ⟨m3, hm3⟩ : ∃ m, m = B3.length := ⟨_, rfl⟩
    obtain ⟨k3, hk3⟩ : ∃ k, k = SE gap l1 := ⟨_, rfl⟩
    rw [← hB3] at HS3 HRS HSO ⊢
    rw [← hm3] at HS3 HRS HSO ⊢
    rw [← hk3] at HRS ⊢
    clear hB3 hm3 hk3
    go_wp2_with fail
    refine HRS.out.mono ?_
    rintro e w4 ⟨x4, xc4, rfl, hs4, hx4⟩
    have HS1 := Lib.hid (HS1.out.ext hx4)
    have HS2 := Lib.hid (HS2.out.ext hx4)
    have HS3 := Lib.hid (HS3.out.ext hx4)
    have HS4 := Lib.hid hs4
    have HX4 := Lib.hid (HX3.out.trans hx4)
    clear hs4 hx4 HRS
    go_wp2_with fail
    have HX5 := Lib.hid ((Ext.refl w4).alloc (.cells #[.int .i64 3, .int .i64 0, .int .i64 0] 35 (0, 0)))
    refine (windows_u _ (some ⟨w4.heap.size, 0, none⟩) 1 1 [⟨3, 0, 0⟩] 10 10 0 (src_pt' (p := (⟨3, 0, 0⟩ : Pt)) (heap_alloc_new w4 (.cells #[.int .i64 3, .int .i64 0, .int .i64 0] 35 (0, 0)))) (by omega) (by simp)).mono ?_
    rw [one_win.1, one_win.2]
    rintro e w6 ⟨x6, xc6, rfl, hs6, hx6⟩
    have HX6 : Hid (Ext w4 w6) := Lib.hid (HX5.out.trans hx6)
    have HS1 := Lib.hid (HS1.out.ext HX6.out)
    have HS2 := Lib.hid (HS2.out.ext HX6.out)
    have HS3 := Lib.hid (HS3.out.ext HX6.out)
    have HS4 := Lib.hid (HS4.out.ext HX6.out)
    have HXX := Lib.hid (HX4.out.trans HX6.out)
    clear hs6 hx6 HX5 HX6 HX0 HX1 HX2 HX3 HX4
    go_wp2_with fail
    refine (same_any w6 x1 x2 m1 xc1 xc2 B1 HS1.out HS2.out (by have := HWO.out.1; omega) HWO.out.2).mono ?_
    rintro e w7 ⟨rfl, hx7⟩
    have HS3 := Lib.hid (HS3.out.ext hx7)
    have HS4 := Lib.hid (HS4.out.ext hx7)
    have HX7 := Lib.hid (HXX.out.trans hx7)
    clear hx7
    go_wp2_with fail
    refine (same_any w7 x3 x4 m3 xc3 xc4 B3 HS3.out HS4.out (by have := HSO.out.1; omega) HSO.out.2).mono ?_
    rintro e w8 ⟨rfl, hx8⟩
    have HX8 := Lib.hid (HX7.out.trans hx8)
    clear hx8
    go_wp2_with fail
    go_ret
    exact ⟨rfl, HX8.out⟩
end Go.Proofs.Ythnpchfcafaiiaa
