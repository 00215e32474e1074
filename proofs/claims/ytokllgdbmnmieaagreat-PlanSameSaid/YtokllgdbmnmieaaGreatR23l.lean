/- buckets.Value where there are points, and the function is one. -/
import Derived.Test.YtokllgdbmnmieaaGreatGhl
import Derived.Test.YtokllgdbmnmieaaGreatEnc
import Derived.Test.YtokllgdbmnmieaaGreatVal
import Derived.Deep.DeepCutAuto
import Derived.Deep.CutBlock
import Derived.Test.YtokllgdbmnmieaaGreatR7d
import Derived.Test.YtokllgdbmnmieaaGreatR7s
namespace Go.Proofs.YtokllgdbmnmieaaGreat
open Go.RowKit Go.Lib Go.Sort

/-- A function's value of points. -/
def valI (g : Ag) (fn : Int) : Int :=
  if fn = 0 then g.n else if fn = 1 then g.s else if fn = 2 then g.mn else if fn = 3 then g.mx else if fn = 4 then g.f.v else if fn = 5 then g.l.v else g.s / g.n
structure ValOk (g : Ag) : Prop where
  n1 : 1 ≤ g.n
  n2 : g.n ≤ 1152921504606846976
  s : -85070591730234615865843651857942052864 ≤ g.s ∧ g.s < 85070591730234615865843651857942052864
  mn : -9223372036854775808 ≤ g.mn ∧ g.mn ≤ 9223372036854775807
  mx : -9223372036854775808 ≤ g.mx ∧ g.mx ≤ 9223372036854775807
  f : -9223372036854775808 ≤ g.f.v ∧ g.f.v ≤ 9223372036854775807
  l : -9223372036854775808 ≤ g.l.v ∧ g.l.v ≤ 9223372036854775807

theorem big_info2 : (Tryz.prog.info? 40).map (·.size) = some 2 := by kernel_rfl

set_option maxHeartbeats 8000000 in
set_option maxRecDepth 100000 in
theorem bvalue_any (g : Ag) (fn : Int) (w : World) (h0 : 0 ≤ fn) (h6 : fn ≤ 6) (hg : ValOk g) :
    Calls Tryz.prog 24 #[g.val, .int .i64 fn] w fun e w' => e = .returned (.tuple #[.agg #[.int .i64 (valI g fn / 18446744073709551616), .int .u64 (valI g fn % 18446744073709551616)], .bool true]) ∧ Ext w w' := by
  have HG := Lib.hid hg
  obtain ⟨vh, hvh⟩ : ∃ x, x = valI g fn / 18446744073709551616 := ⟨_, rfl⟩
  obtain ⟨vl, hvl⟩ : ∃ x, x = valI g fn % 18446744073709551616 := ⟨_, rfl⟩
  rw [← hvh, ← hvl]
  have HV := Lib.hid (And.intro hvh hvl)
  have hn1 := hg.n1
  obtain ⟨gn, gs, mn, mx, ⟨ft, fv, fs⟩, ⟨lt, lv, ls⟩⟩ := g
  unfold Ag.val
  simp only at hn1 ⊢
  obtain ⟨gh, hgh⟩ : ∃ x, x = gs / 18446744073709551616 := ⟨_, rfl⟩
  obtain ⟨gl, hgl⟩ : ∃ x, x = gs % 18446744073709551616 := ⟨_, rfl⟩
  have HGS := Lib.hid (And.intro hgh hgl)
  rw [← hgh, ← hgl]
  clear hg hvh hvl hgh hgl
  go_enter Tryz.func24, Tryz.ntmps24
  go_upto_block 0 with fail
  obtain ⟨W, hW⟩ : ∃ W, W = ((w.alloc (.cells #[.int .i64 gn, .int .i64 gh, .int .u64 gl, .int .i64 mn, .int .i64 mx, .int .i64 ft, .int .i64 fv, .int .i64 fs, .int .i64 lt, .int .i64 lv, .int .i64 ls] 75 (0, 0))).alloc (.cells #[.int .i64 0, .int .u64 0] 40 (0, 0))).alloc (.cells #[.int .i64 0, .int .u64 0] 73 (0, 0)) := ⟨_, rfl⟩
  have HXW : Hid (Ext w W) := Lib.hid (by rw [hW]; exact (((Ext.refl w).alloc _).alloc _).alloc _)
  have HA : Hid (W.heap[w.heap.size]? = some (.cells #[.int .i64 gn, .int .i64 gh, .int .u64 gl, .int .i64 mn, .int .i64 mx, .int .i64 ft, .int .i64 fv, .int .i64 fs, .int .i64 lt, .int .i64 lv, .int .i64 ls] 75 (0, 0))) := Lib.hid (by
    rw [hW]
    have h0 := heap_alloc_new w (.cells #[.int .i64 gn, .int .i64 gh, .int .u64 gl, .int .i64 mn, .int .i64 mx, .int .i64 ft, .int .i64 fv, .int .i64 fs, .int .i64 lt, .int .i64 lv, .int .i64 ls] 75 (0, 0))
    exact ((((Ext.refl _).alloc _).alloc _).block (block_lt h0)).trans h0)
  have HB : Hid (W.heap[w.heap.size + 1]? = some (.cells #[.int .i64 0, .int .u64 0] 40 (0, 0))) := Lib.hid (by rw [hW]; exact heap_mid w _ _ _)
  have HS : Hid (W.heap[w.heap.size + 1 + 1]? = some (.cells #[.int .i64 0, .int .u64 0] 73 (0, 0))) := Lib.hid (by rw [hW]; exact heap_alloc3 w _ _ _)
  rw [← hW]
  clear hW
  go_cut [6] (fun s6 wx => s6 = .pointer (some ⟨w.heap.size + 1 + 1, 0, none⟩) ∧ Hid (Ext w wx ∧ wx.heap[w.heap.size + 1 + 1]? = some (.cells #[.int .i64 vh, .int .u64 vl] 73 (0, 0)) ∧ wx.heap[w.heap.size + 1]? = some (.cells #[.int .i64 0, .int .u64 0] 40 (0, 0))))
  case first =>
    have a0 : W.cell? ⟨w.heap.size, 0, none⟩ = some (.int .i64 gn) := by have := cell_of_block HA.out 0; simpa using this
    have a1 : W.cell? ⟨w.heap.size, 1, none⟩ = some (.int .i64 gh) := by have := cell_of_block HA.out 1; simpa using this
    have a2 : W.cell? ⟨w.heap.size, 2, none⟩ = some (.int .u64 gl) := by have := cell_of_block HA.out 2; simpa using this
    have a3 : W.cell? ⟨w.heap.size, 3, none⟩ = some (.int .i64 mn) := by have := cell_of_block HA.out 3; simpa using this
    have a4 : W.cell? ⟨w.heap.size, 4, none⟩ = some (.int .i64 mx) := by have := cell_of_block HA.out 4; simpa using this
    have a6 : W.cell? ⟨w.heap.size, 6, none⟩ = some (.int .i64 fv) := by have := cell_of_block HA.out 6; simpa using this
    have a9 : W.cell? ⟨w.heap.size, 9, none⟩ = some (.int .i64 lv) := by have := cell_of_block HA.out 9; simpa using this
    clear HA
    rcases (show fn = 0 ∨ fn = 1 ∨ fn = 2 ∨ fn = 3 ∨ fn = 4 ∨ fn = 5 ∨ fn = 6 by omega) with hf | hf | hf | hf | hf | hf | hf
    · subst hf
      have HO := Lib.hid (fun W => wideOf_any gn W (by have := HG.out.n1; simp only at this; omega) (by have := HG.out.n2; simp only at this; omega))
      have hv : vh = gn / 18446744073709551616 ∧ vl = gn % 18446744073709551616 := HV.out
      unfold sumV at HO
      rw [← hv.1, ← hv.2] at HO
      clear hv a1 a2 a3 a4 a6 a9
      (
          go_wp2_with fail
          refine (HO.out _).mono ?_
          (
              rintro e w1 ⟨rfl, hx1⟩
              have HX1 := Lib.hid (HXW.out.trans hx1)
              have HS1 := Lib.hid ((hx1.block (block_lt HS.out)).trans HS.out)
              have HB1 := Lib.hid ((hx1.block (block_lt HB.out)).trans HB.out)
              clear hx1
              go_wp2_with (first | (refine wpList_store_box rfl _ _ _ rfl _ _ _ _ rfl rfl HS1.out rfl sum_info (by simp [Value.oneCell']) ?_; rintro w6 hb6 hc6; have HB6 := Lib.hid hb6; have HC6 := Lib.hid hc6; clear hb6 hc6))
              go_meet
              exact ⟨rfl, Lib.hid ⟨((Chg.of_ext (S := fun k => w.heap.size ≤ k) HX1.out).trans HC6.out (fun i hi e => by omega)).ext (fun i hi e => by omega), HB6.out, (HC6.out.block _ (block_lt HB1.out) (by omega)).trans HB1.out⟩⟩))
    · subst hf
      have hv : vh = gh ∧ vl = gl := by rw [HGS.out.1, HGS.out.2]; exact HV.out
      obtain ⟨rfl, rfl⟩ := hv
      clear a0 a3 a4 a6 a9
      go_wp2_with (first | (refine wpList_store_box rfl _ _ _ rfl _ _ _ _ rfl rfl HS.out rfl sum_info (by simp [Value.oneCell']) ?_; rintro w6 hb6 hc6; have HB6 := Lib.hid hb6; have HC6 := Lib.hid hc6; clear hb6 hc6))
      go_meet
      exact ⟨rfl, Lib.hid ⟨((Chg.of_ext (S := fun k => w.heap.size ≤ k) HXW.out).trans HC6.out (fun i hi e => by omega)).ext (fun i hi e => by omega), HB6.out, (HC6.out.block _ (block_lt HB.out) (by omega)).trans HB.out⟩⟩
    · subst hf
      have HO := Lib.hid (fun W => wideOf_any mn W HG.out.mn.1 HG.out.mn.2)
      have hv : vh = mn / 18446744073709551616 ∧ vl = mn % 18446744073709551616 := HV.out
      unfold sumV at HO
      rw [← hv.1, ← hv.2] at HO
      clear hv a0 a1 a2 a4 a6 a9
      (
          go_wp2_with fail
          refine (HO.out _).mono ?_
          (
              rintro e w1 ⟨rfl, hx1⟩
              have HX1 := Lib.hid (HXW.out.trans hx1)
              have HS1 := Lib.hid ((hx1.block (block_lt HS.out)).trans HS.out)
              have HB1 := Lib.hid ((hx1.block (block_lt HB.out)).trans HB.out)
              clear hx1
              go_wp2_with (first | (refine wpList_store_box rfl _ _ _ rfl _ _ _ _ rfl rfl HS1.out rfl sum_info (by simp [Value.oneCell']) ?_; rintro w6 hb6 hc6; have HB6 := Lib.hid hb6; have HC6 := Lib.hid hc6; clear hb6 hc6))
              go_meet
              exact ⟨rfl, Lib.hid ⟨((Chg.of_ext (S := fun k => w.heap.size ≤ k) HX1.out).trans HC6.out (fun i hi e => by omega)).ext (fun i hi e => by omega), HB6.out, (HC6.out.block _ (block_lt HB1.out) (by omega)).trans HB1.out⟩⟩))
    · subst hf
      have HO := Lib.hid (fun W => wideOf_any mx W HG.out.mx.1 HG.out.mx.2)
      have hv : vh = mx / 18446744073709551616 ∧ vl = mx % 18446744073709551616 := HV.out
      unfold sumV at HO
      rw [← hv.1, ← hv.2] at HO
      clear hv a0 a1 a2 a3 a6 a9
      (
          go_wp2_with fail
          refine (HO.out _).mono ?_
          (
              rintro e w1 ⟨rfl, hx1⟩
              have HX1 := Lib.hid (HXW.out.trans hx1)
              have HS1 := Lib.hid ((hx1.block (block_lt HS.out)).trans HS.out)
              have HB1 := Lib.hid ((hx1.block (block_lt HB.out)).trans HB.out)
              clear hx1
              go_wp2_with (first | (refine wpList_store_box rfl _ _ _ rfl _ _ _ _ rfl rfl HS1.out rfl sum_info (by simp [Value.oneCell']) ?_; rintro w6 hb6 hc6; have HB6 := Lib.hid hb6; have HC6 := Lib.hid hc6; clear hb6 hc6))
              go_meet
              exact ⟨rfl, Lib.hid ⟨((Chg.of_ext (S := fun k => w.heap.size ≤ k) HX1.out).trans HC6.out (fun i hi e => by omega)).ext (fun i hi e => by omega), HB6.out, (HC6.out.block _ (block_lt HB1.out) (by omega)).trans HB1.out⟩⟩))
    · subst hf
      have HO := Lib.hid (fun W => wideOf_any fv W HG.out.f.1 HG.out.f.2)
      have hv : vh = fv / 18446744073709551616 ∧ vl = fv % 18446744073709551616 := HV.out
      unfold sumV at HO
      rw [← hv.1, ← hv.2] at HO
      clear hv a0 a1 a2 a3 a4 a9
      (
          go_wp2_with fail
          refine (HO.out _).mono ?_
          (
              rintro e w1 ⟨rfl, hx1⟩
              have HX1 := Lib.hid (HXW.out.trans hx1)
              have HS1 := Lib.hid ((hx1.block (block_lt HS.out)).trans HS.out)
              have HB1 := Lib.hid ((hx1.block (block_lt HB.out)).trans HB.out)
              clear hx1
              go_wp2_with (first | (refine wpList_store_box rfl _ _ _ rfl _ _ _ _ rfl rfl HS1.out rfl sum_info (by simp [Value.oneCell']) ?_; rintro w6 hb6 hc6; have HB6 := Lib.hid hb6; have HC6 := Lib.hid hc6; clear hb6 hc6))
              go_meet
              exact ⟨rfl, Lib.hid ⟨((Chg.of_ext (S := fun k => w.heap.size ≤ k) HX1.out).trans HC6.out (fun i hi e => by omega)).ext (fun i hi e => by omega), HB6.out, (HC6.out.block _ (block_lt HB1.out) (by omega)).trans HB1.out⟩⟩))
    · subst hf
      have HO := Lib.hid (fun W => wideOf_any lv W HG.out.l.1 HG.out.l.2)
      have hv : vh = lv / 18446744073709551616 ∧ vl = lv % 18446744073709551616 := HV.out
      unfold sumV at HO
      rw [← hv.1, ← hv.2] at HO
      clear hv a0 a1 a2 a3 a4 a6
      (
          go_wp2_with fail
          refine (HO.out _).mono ?_
          (
              rintro e w1 ⟨rfl, hx1⟩
              have HX1 := Lib.hid (HXW.out.trans hx1)
              have HS1 := Lib.hid ((hx1.block (block_lt HS.out)).trans HS.out)
              have HB1 := Lib.hid ((hx1.block (block_lt HB.out)).trans HB.out)
              clear hx1
              go_wp2_with (first | (refine wpList_store_box rfl _ _ _ rfl _ _ _ _ rfl rfl HS1.out rfl sum_info (by simp [Value.oneCell']) ?_; rintro w6 hb6 hc6; have HB6 := Lib.hid hb6; have HC6 := Lib.hid hc6; clear hb6 hc6))
              go_meet
              exact ⟨rfl, Lib.hid ⟨((Chg.of_ext (S := fun k => w.heap.size ≤ k) HX1.out).trans HC6.out (fun i hi e => by omega)).ext (fun i hi e => by omega), HB6.out, (HC6.out.block _ (block_lt HB1.out) (by omega)).trans HB1.out⟩⟩))
    · subst hf
      have HO := Lib.hid (fun W => wdiv_any gs gn W HG.out.s.1 HG.out.s.2 hn1 (by have := HG.out.n2; simp only at this; omega))
      have hv : vh = gs / gn / 18446744073709551616 ∧ vl = gs / gn % 18446744073709551616 := HV.out
      unfold sumV at HO
      rw [← hv.1, ← hv.2, ← HGS.out.1, ← HGS.out.2] at HO
      clear hv a3 a4 a6 a9
      obtain ⟨M, hM⟩ : ∃ M, M = gs % gn := ⟨_, rfl⟩
      rw [← hM] at HO
      clear hM
      (
          go_wp2_with fail
          refine (HO.out _).mono ?_
          (
              rintro e w1 ⟨rfl, hx1⟩
              have HX1 := Lib.hid (HXW.out.trans hx1)
              have HS1 := Lib.hid ((hx1.block (block_lt HS.out)).trans HS.out)
              have HB1 := Lib.hid ((hx1.block (block_lt HB.out)).trans HB.out)
              clear hx1
              go_wp2_with (first | (refine wpList_store_box rfl _ _ _ rfl _ _ _ _ rfl rfl HS1.out rfl sum_info (by simp [Value.oneCell']) ?_; rintro w6 hb6 hc6; have HB6 := Lib.hid hb6; have HC6 := Lib.hid hc6; clear hb6 hc6))
              go_meet
              exact ⟨rfl, Lib.hid ⟨((Chg.of_ext (S := fun k => w.heap.size ≤ k) HX1.out).trans HC6.out (fun i hi e => by omega)).ext (fun i hi e => by omega), HB6.out, (HC6.out.block _ (block_lt HB1.out) (by omega)).trans HB1.out⟩⟩))
  case rest =>
    obtain ⟨rfl, H⟩ := hcut
    have s0 : wc.cell? ⟨w.heap.size + 1 + 1, 0, none⟩ = some (.int .i64 vh) := by have := cell_of_block H.out.2.1 0; simpa using this
    have s1 : wc.cell? ⟨w.heap.size + 1 + 1, 1, none⟩ = some (.int .u64 vl) := by have := cell_of_block H.out.2.1 1; simpa using this
    clear HA HB HS HXW
    go_wp2_with (first | (refine wpList_store_box rfl _ _ _ rfl _ _ _ _ rfl rfl H.out.2.2 rfl big_info2 (by simp [Value.oneCell']) ?_; rintro w6 hb6 hc6; have HB6 := Lib.hid hb6; have HC6 := Lib.hid hc6; clear hb6 hc6))
    exact bodyPost_ret (results_box_tmp Tryz.results24 _ _ rfl HB6.out Tryz.underlying40 rfl big_info2) rfl ⟨rfl, ((Chg.of_ext (S := fun k => w.heap.size ≤ k) H.out.1).trans HC6.out (fun i hi e => by omega)).ext (fun i hi e => by omega)⟩
end Go.Proofs.YtokllgdbmnmieaaGreat

/-! The document's line between two rows. -/

namespace Go.Proofs.YtokllgdbmnmieaaGreat
open Go.RowKit Go.Lib Go.Sort

set_option maxHeartbeats 1000000 in
set_option maxRecDepth 100000 in
theorem rlimbs_any (s : Int) (w : World) (h1 : -170141183460469231731687303715884105728 ≤ s) (h2 : s < 170141183460469231731687303715884105728) :
    Calls Tryz.prog 99 #[.agg #[.int .i64 (s / 18446744073709551616), .int .u64 (s % 18446744073709551616)]] w fun e w' => e = .returned (.agg (lmA s)) ∧ Ext w w' := by
  have HL := Lib.hid (fun W => limbs_any s W h1 h2)
  have HI : Hid (∀ x, (Tryz.prog.info? 88).map (·.size) = some (lmA x).size) := Lib.hid (fun x => lm_info)
  obtain ⟨vh, hvh⟩ : ∃ x, x = s / 18446744073709551616 := ⟨_, rfl⟩
  obtain ⟨vl, hvl⟩ : ∃ x, x = s % 18446744073709551616 := ⟨_, rfl⟩
  rw [← hvh, ← hvl] at HL ⊢
  clear hvh hvl h1 h2
  go_enter Tryz.func99, Tryz.ntmps99
  have HR : Hid (((w.alloc (.cells #[.int .i64 vh, .int .u64 vl] 40 (0, 0))).alloc (.cells #[.int .i64 0, .int .i64 0, .int .i64 0, .int .i64 0, .int .i64 0, .int .i64 0, .int .i64 0, .int .i64 0] 88 (0, 0))).heap[w.heap.size + 1]? = some (.cells #[.int .i64 0, .int .i64 0, .int .i64 0, .int .i64 0, .int .i64 0, .int .i64 0, .int .i64 0, .int .i64 0] 88 (0, 0))) := Lib.hid (heap_alloc2 w _ _)
  have HX : Hid (Ext w ((w.alloc (.cells #[.int .i64 vh, .int .u64 vl] 40 (0, 0))).alloc (.cells #[.int .i64 0, .int .i64 0, .int .i64 0, .int .i64 0, .int .i64 0, .int .i64 0, .int .i64 0, .int .i64 0] 88 (0, 0)))) := Lib.hid (((Ext.refl w).alloc _).alloc _)
  go_wp2_with fail
  refine (HL.out _).mono ?_
  rintro e w2 ⟨rfl, hx2⟩
  have HX2 := Lib.hid (HX.out.trans hx2)
  have HR2 := Lib.hid ((hx2.block (block_lt HR.out)).trans HR.out)
  clear hx2
  go_wp2_with (first | (refine wpList_store_box rfl _ _ _ rfl _ _ _ _ rfl rfl HR2.out rfl (HI.out _) (by simp [lmA, Value.oneCell']) ?_; rintro w5 hb5 hc5; have HB5 := Lib.hid hb5; have HC5 := Lib.hid hc5; clear hb5 hc5))
  exact bodyPost_ret (results_box Tryz.results99 _ _ rfl HB5.out Tryz.underlying88 rfl (HI.out _)) rfl ⟨rfl, ((Chg.of_ext (S := fun _ => False) HX2.out).trans HC5.out (fun i hi e => by omega)).ext (fun _ _ e => e)⟩

theorem ext_stored23 {W wa w' : World} {p : Nat} (hx : Ext W wa) (hc : Chg (· = p) wa w') (hs : W.heap.size ≤ p) : Ext W w' :=
  ((Chg.of_ext (S := fun k => W.heap.size ≤ k) hx).trans hc (fun i hi e => by omega)).ext (fun i hi e => by omega)
theorem div_bnd23 {X n B : Int} (hn : 1 ≤ n) (h0 : -B ≤ X) (h1 : X ≤ B) : -B ≤ X / n ∧ X / n ≤ B := by
  have hB : B * 1 ≤ B * n := Int.mul_le_mul_of_nonneg_left hn (by omega)
  refine ⟨(Int.le_ediv_iff_mul_le (by omega)).2 ?_, Int.ediv_le_of_le_mul (by omega) (by omega)⟩
  rw [Int.neg_mul]
  omega
theorem big_info23 : (Tryz.prog.info? 40).map (·.size) = some 2 := by kernel_rfl

set_option maxHeartbeats 4000000 in
set_option maxRecDepth 100000 in
theorem rline_any (p n : Rw) (lo : Int) (w : World) (t1 : -2305843009213693952 ≤ p.lo) (t2 : p.lo < lo) (t3 : lo ≤ p.lo + 4398046511104) (t4 : p.lo < n.lo) (t5 : n.lo ≤ p.lo + 4398046511104) (t6 : n.lo ≤ 2305843009213693952)
    (v1 : -1208925819614629174706176 ≤ p.v) (v2 : p.v ≤ 1208925819614629174706176) (v3 : -1208925819614629174706176 ≤ n.v) (v4 : n.v ≤ 1208925819614629174706176) :
    Calls Tryz.prog 58 #[.agg (rwc p).toArray, .agg (rwc n).toArray, .int .i64 lo] w fun e w' => e = .returned (.tuple #[.agg #[.int .i64 (lineV p n lo / 18446744073709551616), .int .u64 (lineV p n lo % 18446744073709551616)], .bool true]) ∧ Ext w w' := by
  obtain ⟨D, hD⟩ : ∃ D, D = n.v - p.v := ⟨_, rfl⟩
  obtain ⟨N, hN⟩ := Int.eq_ofNat_of_zero_le (show 0 ≤ lo - p.lo by omega)
  obtain ⟨M, hM⟩ := Int.eq_ofNat_of_zero_le (show 0 ≤ n.lo - p.lo by omega)
  have dn : -(2417851639229258349412352 * 4398046511104) ≤ D * (N : Int) ∧ D * (N : Int) ≤ 2417851639229258349412352 * 4398046511104 := by
    have h1 : D * (N : Int) ≤ 2417851639229258349412352 * (N : Int) := Int.mul_le_mul_of_nonneg_right (by omega) (by omega)
    have h2 : -2417851639229258349412352 * (N : Int) ≤ D * (N : Int) := Int.mul_le_mul_of_nonneg_right (by omega) (by omega)
    rw [Int.neg_mul] at h2
    omega
  obtain ⟨X, hX⟩ : ∃ X, X = D * (N : Int) := ⟨_, rfl⟩
  have dn2 := dn
  rw [← hX] at dn
  obtain ⟨Q, hQ⟩ : ∃ Q, Q = X / (M : Int) := ⟨_, rfl⟩
  have Q0 := div_bnd23 (show (1 : Int) ≤ (M : Int) by omega) dn.1 dn.2
  rw [← hQ] at Q0
  have HLP := Lib.hid (fun W => rlimbs_any p.v W (by omega) (by omega))
  have HLN := Lib.hid (fun W => rlimbs_any n.v W (by omega) (by omega))
  have HS := Lib.hid (fun W => rsub_any n.v p.v W (by omega) (by omega) (by omega) (by omega) (by omega) (by omega))
  have HT := Lib.hid (fun W => rtimes_any D N W (by omega) (by omega) (Int.le_trans (by decide) dn2.1) (Int.le_trans dn2.2 (by decide)))
  have HV := Lib.hid (fun W => rdiv_any X M W (by omega) (by omega) (by omega) (by omega))
  have HA := Lib.hid (fun W => radd_any p.v Q W (by omega) (by omega) (by omega) (by omega) (by omega) (by omega))
  have HWH := Lib.hid (fun W => whole_any (p.v + Q) W (by omega) (by omega))
  have HI : Hid (∀ x, (Tryz.prog.info? 88).map (·.size) = some (lmA x).size) := Lib.hid (fun x => lm_info)
  rw [← hD] at HS
  rw [← hX] at HT
  rw [← hQ] at HV
  obtain ⟨K, hK⟩ : ∃ K, K = X % (M : Int) := ⟨_, rfl⟩
  rw [← hK] at HV
  have hL : lineV p n lo = p.v + Q := by rw [hQ, hX, ← hN, ← hM, hD]; rfl
  rw [hL]
  obtain ⟨E, hE⟩ : ∃ E, E = p.v + Q := ⟨_, rfl⟩
  rw [← hE] at HA HWH ⊢
  obtain ⟨plo, phi, pv, pn⟩ := p
  obtain ⟨nlo, nhi, nv, nn⟩ := n
  simp only at *
  unfold rwc
  obtain ⟨ph, hph⟩ : ∃ x, x = pv / 18446744073709551616 := ⟨_, rfl⟩
  obtain ⟨pl, hpl⟩ : ∃ x, x = pv % 18446744073709551616 := ⟨_, rfl⟩
  obtain ⟨nh, hnh⟩ : ∃ x, x = nv / 18446744073709551616 := ⟨_, rfl⟩
  obtain ⟨nl, hnl⟩ : ∃ x, x = nv % 18446744073709551616 := ⟨_, rfl⟩
  obtain ⟨eh, heh⟩ : ∃ x, x = E / 18446744073709551616 := ⟨_, rfl⟩
  obtain ⟨el, hel⟩ : ∃ x, x = E % 18446744073709551616 := ⟨_, rfl⟩
  rw [← hph, ← hpl] at HLP
  rw [← hnh, ← hnl] at HLN
  rw [← heh, ← hel] at HWH
  simp only [← hph, ← hpl, ← hnh, ← hnl, ← heh, ← hel]
  have wr1 : IntKind.i64.wrap (lo - plo) = (N : Int) := by rw [hN]; exact IntWalk.i64_in _ (by omega)
  have wr2 : IntKind.i64.wrap (nlo - plo) = (M : Int) := by rw [hM]; exact IntWalk.i64_in _ (by omega)
  have wr3 : lo - plo = (N : Int) := hN
  have wr4 : nlo - plo = (M : Int) := hM
  have wn : wrap64 (N : Int) = (N : Int) := IntWalk.wrap64_in _ (by omega)
  have wm : wrap64 (M : Int) = (M : Int) := IntWalk.wrap64_in _ (by omega)
  have HWR := Lib.hid (And.intro wn (And.intro wm (And.intro wr3 wr4)))
  clear hph hpl hnh hnl heh hel hL hE hK hQ hX hD hN hM v1 v2 v3 v4 dn dn2 Q0 wr1 wr2 wr3 wr4 t1 t2 t3 t4 t5 t6 wn wm
  show Calls _ _ #[.agg #[.int .i64 plo, .int .i64 phi, .bool pn, .int .i64 ph, .int .u64 pl], .agg #[.int .i64 nlo, .int .i64 nhi, .bool nn, .int .i64 nh, .int .u64 nl], .int .i64 lo] _ _
  go_enter Tryz.func58, Tryz.ntmps58
  go_upto_region 1 with fail
  obtain ⟨W, hW⟩ : ∃ W, W = ((w.alloc (.cells #[.int .i64 plo, .int .i64 phi, .bool pn, .int .i64 ph, .int .u64 pl] 42 (0, 0))).alloc (.cells #[.int .i64 nlo, .int .i64 nhi, .bool nn, .int .i64 nh, .int .u64 nl] 42 (0, 0))).alloc (.cells #[.int .i64 0, .int .u64 0] 40 (0, 0)) := ⟨_, rfl⟩
  have HXW : Hid (Ext w W) := Lib.hid (by rw [hW]; exact (((Ext.refl w).alloc _).alloc _).alloc _)
  have HBP : Hid (W.heap[w.heap.size]? = some (.cells #[.int .i64 plo, .int .i64 phi, .bool pn, .int .i64 ph, .int .u64 pl] 42 (0, 0))) := Lib.hid (by
    rw [hW]
    have h0 := heap_alloc_new w (.cells #[.int .i64 plo, .int .i64 phi, .bool pn, .int .i64 ph, .int .u64 pl] 42 (0, 0))
    exact ((((Ext.refl _).alloc _).alloc _).block (block_lt h0)).trans h0)
  have HBN : Hid (W.heap[w.heap.size + 1]? = some (.cells #[.int .i64 nlo, .int .i64 nhi, .bool nn, .int .i64 nh, .int .u64 nl] 42 (0, 0))) := Lib.hid (by
    rw [hW]
    have h0 := heap_alloc2 w (.cells #[.int .i64 plo, .int .i64 phi, .bool pn, .int .i64 ph, .int .u64 pl] 42 (0, 0)) (.cells #[.int .i64 nlo, .int .i64 nhi, .bool nn, .int .i64 nh, .int .u64 nl] 42 (0, 0))
    exact (((Ext.refl _).alloc _).block (block_lt h0)).trans h0)
  have HBR : Hid (W.heap[w.heap.size + 1 + 1]? = some (.cells #[.int .i64 0, .int .u64 0] 40 (0, 0))) := Lib.hid (by rw [hW]; exact heap_alloc3' w _ _ _)
  rw [← hW]
  clear hW
  go_cut [8, 9] (fun s8 s9 wx => ∃ p : Nat, s8 = .pointer (some ⟨p, 0, none⟩) ∧ s9 = .bool true ∧ Hid (Ext W wx ∧ W.heap.size ≤ p ∧ wx.heap[p]? = some (.cells (lmA D) 88 (0, 0))))
  case first =>
    have e1 := cell_turned (T := fun _ => false) (show W.cell? ⟨w.heap.size, 3, none⟩ = some (.int .i64 ph) by have := cell_of_block HBP.out 3; simpa using this) rfl
    have e2 := cell_turned (T := fun _ => false) (show W.cell? ⟨w.heap.size, 4, none⟩ = some (.int .u64 pl) by have := cell_of_block HBP.out 4; simpa using this) rfl
    have e3 := cell_turned (T := fun _ => false) (show W.cell? ⟨w.heap.size + 1, 3, none⟩ = some (.int .i64 nh) by have := cell_of_block HBN.out 3; simpa using this) rfl
    have e4 := cell_turned (T := fun _ => false) (show W.cell? ⟨w.heap.size + 1, 4, none⟩ = some (.int .u64 nl) by have := cell_of_block HBN.out 4; simpa using this) rfl
    refine wp_region_plan 12 (fun w' => ∃ z : Turned, w' = turned W (fun _ => false) z.d z.f z.os) (.reads [0, 1, 3, 4] (.two 2 (.two 5 (.two 6 (.reads [7, 8, 9] (.one 10 (.one 11 (.one 12 .done)))) 10 (.one 6 (.reads [7, 8, 9] (.one 11 (.one 12 .done))))) 10 (.one 5 (.one 6 (.reads [7, 8, 9] (.one 11 (.one 12 .done)))))) 10 (.one 2 (.one 5 (.one 6 (.reads [7, 8, 9] (.one 11 (.one 12 .done)))))))) (by kernel_rfl) (by kernel_rfl) (fun _ _ dd _ _ hh => by cases dd <;> exact hh) ?_ ?_
    · exact turned_of_ext (Ext.drewN W 1)
    (
        refine wpPlan_reads ?_
        simp only [pickOps, List.getElem?_cons_succ, List.getElem?_cons_zero]
        repeat (go_big_quiet_step (fail))
        refine wpQuiet_nil ?_)
    clear e1 e2 e3 e4 HBP HBN HBR HXW HT HV HA HWH
    change wpPlan _ _ _ _ _ _ _ _ (W.drewN 1)
    have HX : Hid (Ext W (W.drewN 1)) := Lib.hid (Ext.drewN W 1)
    generalize W.drewN 1 = w0 at HX ⊢
    refine wpPlan_two ?_ ?_
    · (
        simp only [pickOps, List.getElem?_cons_succ, List.getElem?_cons_zero]
        go_wp2_with fail)
      refine (HLN.out _).mono ?_
      (
          rintro e wn ⟨rfl, hx⟩
          replace HX := Lib.hid (HX.out.trans hx)
          (try replace HP := Lib.hid ((hx.block (block_lt HP.out)).trans HP.out))
          clear hx
          go_wp2_with fail)
      refine thenX_mk (turned_of_ext HX.out) (wpPlan_two ?_ ?_)
      · (
          simp only [pickOps, List.getElem?_cons_succ, List.getElem?_cons_zero]
          go_wp2_with fail)
        refine (HLP.out _).mono ?_
        (
            rintro e wn ⟨rfl, hx⟩
            replace HX := Lib.hid (HX.out.trans hx)
            (try replace HP := Lib.hid ((hx.block (block_lt HP.out)).trans HP.out))
            clear hx
            go_wp2_with fail)
        refine thenX_mk (turned_of_ext HX.out) (wpPlan_two ?_ ?_)
        · (
            simp only [pickOps, List.getElem?_cons_succ, List.getElem?_cons_zero]
            go_wp2_with fail)
          refine (HS.out _).mono ?_
          (
              rintro e wn ⟨rfl, hx⟩
              replace HX := Lib.hid (HX.out.trans hx)
              (try replace HP := Lib.hid ((hx.block (block_lt HP.out)).trans HP.out))
              clear hx
              go_wp2_with fail)
          (
              refine thenX_mk (turned_of_ext HX.out) ?_
              (
                  refine wpPlan_reads ?_
                  simp only [pickOps, List.getElem?_cons_succ, List.getElem?_cons_zero]
                  repeat (go_big_quiet_step (fail))
                  refine wpQuiet_nil ?_)
              refine wpPlan_one ?_
              (
                  simp only [pickOps, List.getElem?_cons_succ, List.getElem?_cons_zero]
                  go_wp2_with fail
                  generalize hwn : World.alloc _ _ = wa
                  have HP := Lib.hid (alloc_eq_new hwn)
                  have HSZ := Lib.hid HX.out.size
                  replace HX := Lib.hid (alloc_eq_ext HX.out hwn)
                  clear hwn)
              refine thenX_mk (turned_of_ext HX.out) (wpPlan_one ?_)
              (
                  simp only [pickOps, List.getElem?_cons_succ, List.getElem?_cons_zero]
                  go_wp2_with (first | (refine wpList_store_box rfl _ _ _ rfl _ _ _ _ rfl rfl HP.out rfl (HI.out _) (by simp [lmA, Value.oneCell']) ?_; rintro w11 hb11 hc11; have HB11 := Lib.hid hb11; have HC11 := Lib.hid hc11; clear hb11 hc11))
                  have HX11 := Lib.hid (ext_stored23 HX.out HC11.out HSZ.out)))
          (
              refine thenX_mk (turned_of_ext HX11.out) (wpPlan_one ?_)
              (
                  simp only [pickOps, List.getElem?_cons_succ, List.getElem?_cons_zero]
                  go_wp2_with fail)
              refine thenX_last (wpPlan_done ?_)
              go_wp2_with fail
              go_meet
              exact ⟨_, rfl, rfl, Lib.hid ⟨HX11.out, HSZ.out, HB11.out⟩⟩)
        · (
            simp only [pickOps, List.getElem?_cons_succ, List.getElem?_cons_zero]
            go_wp2_with fail
            generalize hwn : World.alloc _ _ = wa
            have HP := Lib.hid (alloc_eq_new hwn)
            have HSZ := Lib.hid HX.out.size
            replace HX := Lib.hid (alloc_eq_ext HX.out hwn)
            clear hwn)
          refine thenX_mk (turned_of_ext HX.out) (wpPlan_one ?_)
          (
              simp only [pickOps, List.getElem?_cons_succ, List.getElem?_cons_zero]
              go_wp2_with fail)
          refine (HS.out _).mono ?_
          (
              rintro e wn ⟨rfl, hx⟩
              replace HX := Lib.hid (HX.out.trans hx)
              (try replace HP := Lib.hid ((hx.block (block_lt HP.out)).trans HP.out))
              clear hx
              go_wp2_with fail)
          (
              refine thenX_mk (turned_of_ext HX.out) ?_
              (
                  refine wpPlan_reads ?_
                  simp only [pickOps, List.getElem?_cons_succ, List.getElem?_cons_zero]
                  repeat (go_big_quiet_step (fail))
                  refine wpQuiet_nil ?_)
              refine wpPlan_one ?_
              (
                  simp only [pickOps, List.getElem?_cons_succ, List.getElem?_cons_zero]
                  go_wp2_with (first | (refine wpList_store_box rfl _ _ _ rfl _ _ _ _ rfl rfl HP.out rfl (HI.out _) (by simp [lmA, Value.oneCell']) ?_; rintro w11 hb11 hc11; have HB11 := Lib.hid hb11; have HC11 := Lib.hid hc11; clear hb11 hc11))
                  have HX11 := Lib.hid (ext_stored23 HX.out HC11.out HSZ.out)))
          (
              refine thenX_mk (turned_of_ext HX11.out) (wpPlan_one ?_)
              (
                  simp only [pickOps, List.getElem?_cons_succ, List.getElem?_cons_zero]
                  go_wp2_with fail)
              refine thenX_last (wpPlan_done ?_)
              go_wp2_with fail
              go_meet
              exact ⟨_, rfl, rfl, Lib.hid ⟨HX11.out, HSZ.out, HB11.out⟩⟩)
      · (
          simp only [pickOps, List.getElem?_cons_succ, List.getElem?_cons_zero]
          go_wp2_with fail
          generalize hwn : World.alloc _ _ = wa
          have HP := Lib.hid (alloc_eq_new hwn)
          have HSZ := Lib.hid HX.out.size
          replace HX := Lib.hid (alloc_eq_ext HX.out hwn)
          clear hwn)
        refine thenX_mk (turned_of_ext HX.out) (wpPlan_one ?_)
        (
            simp only [pickOps, List.getElem?_cons_succ, List.getElem?_cons_zero]
            go_wp2_with fail)
        refine (HLP.out _).mono ?_
        (
            rintro e wn ⟨rfl, hx⟩
            replace HX := Lib.hid (HX.out.trans hx)
            (try replace HP := Lib.hid ((hx.block (block_lt HP.out)).trans HP.out))
            clear hx
            go_wp2_with fail)
        refine thenX_mk (turned_of_ext HX.out) (wpPlan_one ?_)
        (
            simp only [pickOps, List.getElem?_cons_succ, List.getElem?_cons_zero]
            go_wp2_with fail)
        refine (HS.out _).mono ?_
        (
            rintro e wn ⟨rfl, hx⟩
            replace HX := Lib.hid (HX.out.trans hx)
            (try replace HP := Lib.hid ((hx.block (block_lt HP.out)).trans HP.out))
            clear hx
            go_wp2_with fail)
        (
            refine thenX_mk (turned_of_ext HX.out) ?_
            (
                refine wpPlan_reads ?_
                simp only [pickOps, List.getElem?_cons_succ, List.getElem?_cons_zero]
                repeat (go_big_quiet_step (fail))
                refine wpQuiet_nil ?_)
            refine wpPlan_one ?_
            (
                simp only [pickOps, List.getElem?_cons_succ, List.getElem?_cons_zero]
                go_wp2_with (first | (refine wpList_store_box rfl _ _ _ rfl _ _ _ _ rfl rfl HP.out rfl (HI.out _) (by simp [lmA, Value.oneCell']) ?_; rintro w11 hb11 hc11; have HB11 := Lib.hid hb11; have HC11 := Lib.hid hc11; clear hb11 hc11))
                have HX11 := Lib.hid (ext_stored23 HX.out HC11.out HSZ.out)))
        (
            refine thenX_mk (turned_of_ext HX11.out) (wpPlan_one ?_)
            (
                simp only [pickOps, List.getElem?_cons_succ, List.getElem?_cons_zero]
                go_wp2_with fail)
            refine thenX_last (wpPlan_done ?_)
            go_wp2_with fail
            go_meet
            exact ⟨_, rfl, rfl, Lib.hid ⟨HX11.out, HSZ.out, HB11.out⟩⟩)
    · (
        simp only [pickOps, List.getElem?_cons_succ, List.getElem?_cons_zero]
        go_wp2_with fail
        generalize hwn : World.alloc _ _ = wa
        have HP := Lib.hid (alloc_eq_new hwn)
        have HSZ := Lib.hid HX.out.size
        replace HX := Lib.hid (alloc_eq_ext HX.out hwn)
        clear hwn)
      refine thenX_mk (turned_of_ext HX.out) (wpPlan_one ?_)
      (
          simp only [pickOps, List.getElem?_cons_succ, List.getElem?_cons_zero]
          go_wp2_with fail)
      refine (HLN.out _).mono ?_
      (
          rintro e wn ⟨rfl, hx⟩
          replace HX := Lib.hid (HX.out.trans hx)
          (try replace HP := Lib.hid ((hx.block (block_lt HP.out)).trans HP.out))
          clear hx
          go_wp2_with fail)
      refine thenX_mk (turned_of_ext HX.out) (wpPlan_one ?_)
      (
          simp only [pickOps, List.getElem?_cons_succ, List.getElem?_cons_zero]
          go_wp2_with fail)
      refine (HLP.out _).mono ?_
      (
          rintro e wn ⟨rfl, hx⟩
          replace HX := Lib.hid (HX.out.trans hx)
          (try replace HP := Lib.hid ((hx.block (block_lt HP.out)).trans HP.out))
          clear hx
          go_wp2_with fail)
      refine thenX_mk (turned_of_ext HX.out) (wpPlan_one ?_)
      (
          simp only [pickOps, List.getElem?_cons_succ, List.getElem?_cons_zero]
          go_wp2_with fail)
      refine (HS.out _).mono ?_
      (
          rintro e wn ⟨rfl, hx⟩
          replace HX := Lib.hid (HX.out.trans hx)
          (try replace HP := Lib.hid ((hx.block (block_lt HP.out)).trans HP.out))
          clear hx
          go_wp2_with fail)
      (
          refine thenX_mk (turned_of_ext HX.out) ?_
          (
              refine wpPlan_reads ?_
              simp only [pickOps, List.getElem?_cons_succ, List.getElem?_cons_zero]
              repeat (go_big_quiet_step (fail))
              refine wpQuiet_nil ?_)
          refine wpPlan_one ?_
          (
              simp only [pickOps, List.getElem?_cons_succ, List.getElem?_cons_zero]
              go_wp2_with (first | (refine wpList_store_box rfl _ _ _ rfl _ _ _ _ rfl rfl HP.out rfl (HI.out _) (by simp [lmA, Value.oneCell']) ?_; rintro w11 hb11 hc11; have HB11 := Lib.hid hb11; have HC11 := Lib.hid hc11; clear hb11 hc11))
              have HX11 := Lib.hid (ext_stored23 HX.out HC11.out HSZ.out)))
      (
          refine thenX_mk (turned_of_ext HX11.out) (wpPlan_one ?_)
          (
              simp only [pickOps, List.getElem?_cons_succ, List.getElem?_cons_zero]
              go_wp2_with fail)
          refine thenX_last (wpPlan_done ?_)
          go_wp2_with fail
          go_meet
          exact ⟨_, rfl, rfl, Lib.hid ⟨HX11.out, HSZ.out, HB11.out⟩⟩)
  case rest =>
    obtain ⟨p8, rfl, rfl, H8⟩ := hcut
    obtain ⟨V, hV⟩ : ∃ V, V = wc := ⟨_, rfl⟩
    subst hV
    have HXV := Lib.hid (HXW.out.trans H8.out.1)
    have HP1 := Lib.hid ((H8.out.1.block (block_lt HBP.out)).trans HBP.out)
    have HN1 := Lib.hid ((H8.out.1.block (block_lt HBN.out)).trans HBN.out)
    have HR1 := Lib.hid ((H8.out.1.block (block_lt HBR.out)).trans HBR.out)
    clear HXW HBP HBN HBR HS HLN
    have f0 : V.cell? ⟨w.heap.size, 0, none⟩ = some (.int .i64 plo) := by have := cell_of_block HP1.out 0; simpa using this
    have wr1 := HWR.out.1
    have wr3 := HWR.out.2.2.1
    go_wp2_with (first | (refine wpList_load_box rfl _ _ rfl _ _ _ _ _ rfl H8.out.2.2 Tryz.underlying88 rfl (HI.out _) ?_))
    refine (HT.out _).mono ?_
    rintro e w2 ⟨rfl, hx2⟩
    have HX2 := Lib.hid (HXV.out.trans hx2)
    have HP2 := Lib.hid ((hx2.block (block_lt HP1.out)).trans HP1.out)
    have HN2 := Lib.hid ((hx2.block (block_lt HN1.out)).trans HN1.out)
    have HR2 := Lib.hid ((hx2.block (block_lt HR1.out)).trans HR1.out)
    clear hx2 f0 wr1 wr3 HP1 HN1 HR1 HXV HT
    have HA2 := Lib.hid (heap_alloc_new w2 (.cells #[.int .i64 0, .int .i64 0, .int .i64 0, .int .i64 0, .int .i64 0, .int .i64 0, .int .i64 0, .int .i64 0] 88 (0, 0)))
    go_upto_region 7 with (first | (refine wpList_store_box rfl _ _ _ rfl _ _ _ _ rfl rfl HA2.out rfl (HI.out _) (by simp [lmA, Value.oneCell']) ?_; rintro w3 hb3 hc3; have HB3 := Lib.hid hb3; have HX3 : Hid (Ext w2 w3) := Lib.hid (((Chg.of_ext (S := fun _ => False) ((Ext.refl w2).alloc _)).trans hc3 (fun i hi e => by omega)).ext (fun _ _ e => e)); clear hb3 hc3))
    have HP3 := Lib.hid ((HX3.out.block (block_lt HP2.out)).trans HP2.out)
    have HN3 := Lib.hid ((HX3.out.block (block_lt HN2.out)).trans HN2.out)
    have HR3 := Lib.hid ((HX3.out.block (block_lt HR2.out)).trans HR2.out)
    have HXY := Lib.hid (HX2.out.trans HX3.out)
    clear HP2 HN2 HR2 HX2 HX3 HA2
    have f0 : w3.cell? ⟨w.heap.size, 0, none⟩ = some (.int .i64 plo) := by have := cell_of_block HP3.out 0; simpa using this
    have f1 : w3.cell? ⟨w.heap.size + 1, 0, none⟩ = some (.int .i64 nlo) := by have := cell_of_block HN3.out 0; simpa using this
    have wr2 := HWR.out.2.1
    have wr4 := HWR.out.2.2.2
    go_wp2_with (first | (refine wpList_load_box rfl _ _ rfl _ _ _ _ _ rfl HB3.out Tryz.underlying88 rfl (HI.out _) ?_))
    refine (HV.out _).mono ?_
    rintro e w4 ⟨rfl, hx4⟩
    have HX4 := Lib.hid (HXY.out.trans hx4)
    have HP4 := Lib.hid ((hx4.block (block_lt HP3.out)).trans HP3.out)
    have HR4 := Lib.hid ((hx4.block (block_lt HR3.out)).trans HR3.out)
    clear hx4 f0 f1 wr2 wr4 HP3 HN3 HR3 HXY HV
    have HA4 := Lib.hid (heap_alloc_new w4 (.cells #[.int .i64 0, .int .i64 0, .int .i64 0, .int .i64 0, .int .i64 0, .int .i64 0, .int .i64 0, .int .i64 0] 88 (0, 0)))
    go_upto_region 8 with (first | (refine wpList_store_box rfl _ _ _ rfl _ _ _ _ rfl rfl HA4.out rfl (HI.out _) (by simp [lmA, Value.oneCell']) ?_; rintro w5 hb5 hc5; have HB5 := Lib.hid hb5; have HX5 : Hid (Ext w4 w5) := Lib.hid (((Chg.of_ext (S := fun _ => False) ((Ext.refl w4).alloc _)).trans hc5 (fun i hi e => by omega)).ext (fun _ _ e => e)); clear hb5 hc5))
    have HP5 := Lib.hid ((HX5.out.block (block_lt HP4.out)).trans HP4.out)
    have HR5 := Lib.hid ((HX5.out.block (block_lt HR4.out)).trans HR4.out)
    have HXZ := Lib.hid (HX4.out.trans HX5.out)
    clear HP4 HR4 HX4 HX5 HA4
    go_cut [13, 14] (fun s13 s14 wx => ∃ p : Nat, s13 = .pointer (some ⟨p, 0, none⟩) ∧ s14 = .bool true ∧ Hid (Ext w5 wx ∧ w5.heap.size ≤ p ∧ wx.heap[p]? = some (.cells (lmA E) 88 (0, 0))))
    case first =>
      have e1 := cell_turned (T := fun _ => false) (show w5.cell? ⟨w.heap.size, 3, none⟩ = some (.int .i64 ph) by have := cell_of_block HP5.out 3; simpa using this) rfl
      have e2 := cell_turned (T := fun _ => false) (show w5.cell? ⟨w.heap.size, 4, none⟩ = some (.int .u64 pl) by have := cell_of_block HP5.out 4; simpa using this) rfl
      have f1 := fun (d : Nat) (f : Nat → Obj) (os : Array Obj) => load_box_turned (P := Tryz.prog) (ty := 88) HB5.out (T := fun _ => false) rfl Tryz.underlying88 rfl (HI.out _) d f os
      refine wp_region_plan 10 (fun w' => ∃ z : Turned, w' = turned w5 (fun _ => false) z.d z.f z.os) (.reads [0, 1, 3] (.two 2 (.two 4 (.reads [5, 6, 7] (.one 8 (.one 9 (.one 10 .done)))) 8 (.one 4 (.reads [5, 6, 7] (.one 9 (.one 10 .done))))) 8 (.one 2 (.one 4 (.reads [5, 6, 7] (.one 9 (.one 10 .done))))))) (by kernel_rfl) (by kernel_rfl) (fun _ _ dd _ _ hh => by cases dd <;> exact hh) ?_ ?_
      · exact turned_of_ext (Ext.drewN w5 1)
      refine wpPlan_reads ?_
      simp only [pickOps, List.getElem?_cons_succ, List.getElem?_cons_zero]
      iterate 2 (go_big_quiet_step (fail))
      go_big_quiet_want
      refine quiet_load_law _ _ rfl _ _ rfl (fun w hw => by obtain ⟨p, rfl⟩ := hw; exact f1 p.d p.f p.os) ?_
      go_big_quiet_on
      simp only [Act.put, List.setIfInBounds_toArray, List.set_cons_succ, List.set_cons_zero]
      refine wpQuiet_nil ?_
      clear e1 e2 f1 HP5 HR5 HXZ HWH
      change wpPlan _ _ _ _ _ _ _ _ (w5.drewN 1)
      have HX : Hid (Ext w5 (w5.drewN 1)) := Lib.hid (Ext.drewN w5 1)
      generalize w5.drewN 1 = w0 at HX ⊢
      refine wpPlan_two ?_ ?_
      · (
          simp only [pickOps, List.getElem?_cons_succ, List.getElem?_cons_zero]
          go_wp2_with fail)
        refine (HLP.out _).mono ?_
        (
            rintro e wn ⟨rfl, hx⟩
            replace HX := Lib.hid (HX.out.trans hx)
            (try replace HP := Lib.hid ((hx.block (block_lt HP.out)).trans HP.out))
            clear hx
            go_wp2_with fail)
        refine thenX_mk (turned_of_ext HX.out) (wpPlan_two ?_ ?_)
        · (
            simp only [pickOps, List.getElem?_cons_succ, List.getElem?_cons_zero]
            go_wp2_with fail)
          refine (HA.out _).mono ?_
          (
              rintro e wn ⟨rfl, hx⟩
              replace HX := Lib.hid (HX.out.trans hx)
              (try replace HP := Lib.hid ((hx.block (block_lt HP.out)).trans HP.out))
              clear hx
              go_wp2_with fail)
          (
              refine thenX_mk (turned_of_ext HX.out) ?_
              (
                  refine wpPlan_reads ?_
                  simp only [pickOps, List.getElem?_cons_succ, List.getElem?_cons_zero]
                  repeat (go_big_quiet_step (fail))
                  refine wpQuiet_nil ?_)
              refine wpPlan_one ?_
              (
                  simp only [pickOps, List.getElem?_cons_succ, List.getElem?_cons_zero]
                  go_wp2_with fail
                  generalize hwn : World.alloc _ _ = wa
                  have HP := Lib.hid (alloc_eq_new hwn)
                  have HSZ := Lib.hid HX.out.size
                  replace HX := Lib.hid (alloc_eq_ext HX.out hwn)
                  clear hwn)
              refine thenX_mk (turned_of_ext HX.out) (wpPlan_one ?_)
              (
                  simp only [pickOps, List.getElem?_cons_succ, List.getElem?_cons_zero]
                  go_wp2_with (first | (refine wpList_store_box rfl _ _ _ rfl _ _ _ _ rfl rfl HP.out rfl (HI.out _) (by simp [lmA, Value.oneCell']) ?_; rintro w11 hb11 hc11; have HB11 := Lib.hid hb11; have HC11 := Lib.hid hc11; clear hb11 hc11))
                  have HX11 := Lib.hid (ext_stored23 HX.out HC11.out HSZ.out)))
          (
              refine thenX_mk (turned_of_ext HX11.out) (wpPlan_one ?_)
              (
                  simp only [pickOps, List.getElem?_cons_succ, List.getElem?_cons_zero]
                  go_wp2_with fail)
              refine thenX_last (wpPlan_done ?_)
              go_wp2_with fail
              go_meet
              exact ⟨_, rfl, rfl, Lib.hid ⟨HX11.out, HSZ.out, HB11.out⟩⟩)
        · (
            simp only [pickOps, List.getElem?_cons_succ, List.getElem?_cons_zero]
            go_wp2_with fail
            generalize hwn : World.alloc _ _ = wa
            have HP := Lib.hid (alloc_eq_new hwn)
            have HSZ := Lib.hid HX.out.size
            replace HX := Lib.hid (alloc_eq_ext HX.out hwn)
            clear hwn)
          refine thenX_mk (turned_of_ext HX.out) (wpPlan_one ?_)
          (
              simp only [pickOps, List.getElem?_cons_succ, List.getElem?_cons_zero]
              go_wp2_with fail)
          refine (HA.out _).mono ?_
          (
              rintro e wn ⟨rfl, hx⟩
              replace HX := Lib.hid (HX.out.trans hx)
              (try replace HP := Lib.hid ((hx.block (block_lt HP.out)).trans HP.out))
              clear hx
              go_wp2_with fail)
          (
              refine thenX_mk (turned_of_ext HX.out) ?_
              (
                  refine wpPlan_reads ?_
                  simp only [pickOps, List.getElem?_cons_succ, List.getElem?_cons_zero]
                  repeat (go_big_quiet_step (fail))
                  refine wpQuiet_nil ?_)
              refine wpPlan_one ?_
              (
                  simp only [pickOps, List.getElem?_cons_succ, List.getElem?_cons_zero]
                  go_wp2_with (first | (refine wpList_store_box rfl _ _ _ rfl _ _ _ _ rfl rfl HP.out rfl (HI.out _) (by simp [lmA, Value.oneCell']) ?_; rintro w11 hb11 hc11; have HB11 := Lib.hid hb11; have HC11 := Lib.hid hc11; clear hb11 hc11))
                  have HX11 := Lib.hid (ext_stored23 HX.out HC11.out HSZ.out)))
          (
              refine thenX_mk (turned_of_ext HX11.out) (wpPlan_one ?_)
              (
                  simp only [pickOps, List.getElem?_cons_succ, List.getElem?_cons_zero]
                  go_wp2_with fail)
              refine thenX_last (wpPlan_done ?_)
              go_wp2_with fail
              go_meet
              exact ⟨_, rfl, rfl, Lib.hid ⟨HX11.out, HSZ.out, HB11.out⟩⟩)
      · (
          simp only [pickOps, List.getElem?_cons_succ, List.getElem?_cons_zero]
          go_wp2_with fail
          generalize hwn : World.alloc _ _ = wa
          have HP := Lib.hid (alloc_eq_new hwn)
          have HSZ := Lib.hid HX.out.size
          replace HX := Lib.hid (alloc_eq_ext HX.out hwn)
          clear hwn)
        refine thenX_mk (turned_of_ext HX.out) (wpPlan_one ?_)
        (
            simp only [pickOps, List.getElem?_cons_succ, List.getElem?_cons_zero]
            go_wp2_with fail)
        refine (HLP.out _).mono ?_
        (
            rintro e wn ⟨rfl, hx⟩
            replace HX := Lib.hid (HX.out.trans hx)
            (try replace HP := Lib.hid ((hx.block (block_lt HP.out)).trans HP.out))
            clear hx
            go_wp2_with fail)
        refine thenX_mk (turned_of_ext HX.out) (wpPlan_one ?_)
        (
            simp only [pickOps, List.getElem?_cons_succ, List.getElem?_cons_zero]
            go_wp2_with fail)
        refine (HA.out _).mono ?_
        (
            rintro e wn ⟨rfl, hx⟩
            replace HX := Lib.hid (HX.out.trans hx)
            (try replace HP := Lib.hid ((hx.block (block_lt HP.out)).trans HP.out))
            clear hx
            go_wp2_with fail)
        (
            refine thenX_mk (turned_of_ext HX.out) ?_
            (
                refine wpPlan_reads ?_
                simp only [pickOps, List.getElem?_cons_succ, List.getElem?_cons_zero]
                repeat (go_big_quiet_step (fail))
                refine wpQuiet_nil ?_)
            refine wpPlan_one ?_
            (
                simp only [pickOps, List.getElem?_cons_succ, List.getElem?_cons_zero]
                go_wp2_with (first | (refine wpList_store_box rfl _ _ _ rfl _ _ _ _ rfl rfl HP.out rfl (HI.out _) (by simp [lmA, Value.oneCell']) ?_; rintro w11 hb11 hc11; have HB11 := Lib.hid hb11; have HC11 := Lib.hid hc11; clear hb11 hc11))
                have HX11 := Lib.hid (ext_stored23 HX.out HC11.out HSZ.out)))
        (
            refine thenX_mk (turned_of_ext HX11.out) (wpPlan_one ?_)
            (
                simp only [pickOps, List.getElem?_cons_succ, List.getElem?_cons_zero]
                go_wp2_with fail)
            refine thenX_last (wpPlan_done ?_)
            go_wp2_with fail
            go_meet
            exact ⟨_, rfl, rfl, Lib.hid ⟨HX11.out, HSZ.out, HB11.out⟩⟩)
    case rest =>
      obtain ⟨p13, rfl, rfl, H13⟩ := hcut
      obtain ⟨U, hU⟩ : ∃ U, U = wc := ⟨_, rfl⟩
      subst hU
      have HXU := Lib.hid (HXZ.out.trans H13.out.1)
      have HRU := Lib.hid ((H13.out.1.block (block_lt HR5.out)).trans HR5.out)
      clear HXZ HP5 HR5 HLP HA
      go_wp2_with (first | (refine wpList_load_box rfl _ _ rfl _ _ _ _ _ rfl H13.out.2.2 Tryz.underlying88 rfl (HI.out _) ?_))
      refine (HWH.out _).mono ?_
      rintro e w6 ⟨rfl, hx6⟩
      have HX6 := Lib.hid (HXU.out.trans hx6)
      have HR6 := Lib.hid ((hx6.block (block_lt HRU.out)).trans HRU.out)
      clear hx6
      go_wp2_with (first | (refine wpList_store_box rfl _ _ _ rfl _ _ _ _ rfl rfl HR6.out rfl big_info23 (by simp [Value.oneCell']) ?_; rintro w8 hb8 hc8; have HB8 := Lib.hid hb8; have HC8 := Lib.hid hc8; clear hb8 hc8))
      exact bodyPost_ret (results_box_tmp Tryz.results58 _ _ rfl HB8.out Tryz.underlying40 rfl big_info23) rfl ⟨rfl, ((Chg.of_ext (S := fun k => w.heap.size ≤ k) HX6.out).trans HC8.out (fun i hi e => by omega)).ext (fun i hi e => by omega)⟩
end Go.Proofs.YtokllgdbmnmieaaGreat
