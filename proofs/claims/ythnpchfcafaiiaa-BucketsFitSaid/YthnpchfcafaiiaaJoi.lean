/- buckets.lies, Join, where the buckets fit. -/
import Derived.Test.YthnpchfcafaiiaaVal
import Derived.Test.YthnpchfcafaiiaaFtp
import Derived.Test.YthnpchfcafaiiaaWdw
namespace Go.Proofs.Ythnpchfcafaiiaa
open Go.RowKit Go.Lib Go.Sort

set_option maxHeartbeats 1000000 in
set_option maxRecDepth 100000 in
theorem eqs_ok (w : World) (a1 a2 : Option Addr) (n c1 c2 : Nat) (L : List (Int × Int)) (h1 : Src w 2 (.slice a1 n c1) n (sps L)) (h2 : Src w 2 (.slice a2 n c2) n (sps L)) (hn : n ≤ 1000) :
    Calls Try.prog 48 #[.slice a1 n c1, .slice a2 n c2] w fun e w' => e = .returned (.bool true) ∧ Ext w w' := by
  have H1 := Lib.hid h1
  have H2 := Lib.hid h2
  clear h1 h2
  go_enter Try.func48, Try.ntmps48
  go_wp2_with fail
  go_loopw [13] (fun s13 wr => ∃ k : Nat, k ≤ n ∧ s13 = .int .i64 k ∧ Hid (Ext w wr)) (fun i _ => n - (RowKit.intOf i).toNat)
  case atStart => exact ⟨0, by omega, rfl, Lib.hid (Ext.refl _)⟩
  case round =>
    obtain ⟨k, hk, rfl, HX⟩ := hrel
    by_cases hlt : k < n
    · have hd1 : decide ((k : Int) < (n : Int)) = true := by simp; omega
      obtain ⟨b1, o1, x, rfl, hx, c0, c1⟩ := sps_src (H1.out.ext HX.out) hlt
      obtain ⟨b2, o2, y, rfl, hy, d0, d1⟩ := sps_src (H2.out.ext HX.out) hlt
      obtain rfl : x = y := by rw [hx] at hy; exact Option.some.inj hy
      obtain ⟨x1, x2⟩ := x
      simp only at c0 c1 d0 d1
      clear hx hy
      go_wp2_with fail
      go_big_quiet (fail)
      go_wp2_with fail
      exact ⟨⟨k + 1, by omega, by go_num, Lib.hid (HX.out.trans (Ext.drewN _ _))⟩, by simp [RowKit.intOf]; omega⟩
    · have hd1 : decide ((k : Int) < (n : Int)) = false := by simp; omega
      go_wp2_with fail
      go_ret
      exact ⟨rfl, HX.out⟩

set_option maxHeartbeats 2000000 in
set_option maxRecDepth 100000 in
theorem lies_ok (w : World) (lo hi gn gh gl gmn gmx gft gfv gfs glt glv gls wd st off : Int) (hv : windowB wd st off = true) (t1 : timeB lo = true) (t2 : timeB (hi - 1) = true) (h1 : -9223372036854775808 < hi) (h2 : hi ≤ 9223372036854775807) (hw : winL wd st off lo = winL wd st off (hi - 1)) :
    Calls Try.prog 28 #[.agg #[.int .i64 lo, .int .i64 hi, .int .i64 gn, .int .i64 gh, .int .u64 gl, .int .i64 gmn, .int .i64 gmx, .int .i64 gft, .int .i64 gfv, .int .i64 gfs, .int .i64 glt, .int .i64 glv, .int .i64 gls], .agg #[.int .i64 wd, .int .i64 st, .int .i64 off]] w fun e w' => e = .returned (.bool true) ∧ Ext w w' := by
  have HA := Lib.hid (fun W => of_any wd st off lo W hv t1)
  have HB := Lib.hid (fun W => of_any wd st off (hi - 1) W hv t2)
  have hn : winN wd st off lo = winN wd st off (hi - 1) := by rw [← winL_len, ← winL_len, hw]
  rw [← hn, ← hw] at HB
  have HN := Lib.hid (winN_le (t := lo) hv)
  obtain ⟨N, hN⟩ : ∃ x, x = winN wd st off lo := ⟨_, rfl⟩
  obtain ⟨L, hL⟩ : ∃ x, x = winL wd st off lo := ⟨_, rfl⟩
  rw [← hN] at HN
  simp only [← hN, ← hL] at HA HB
  have e1 : IntKind.i64.wrap (hi - 1) = hi - 1 := IntWalk.i64_in _ (by omega)
  clear hv t1 t2 hw hn hN hL
  go_enter Try.func28, Try.ntmps28
  go_wp2_with fail
  generalize hW : World.alloc _ _ = W
  have HXW : Hid (Ext w W) := Lib.hid (by subst hW; exact (((Ext.refl w).alloc _).alloc _))
  have HK : Hid (W.heap[w.heap.size + 1]? = some (.cells #[.int .i64 wd, .int .i64 st, .int .i64 off] 24 (0, 0))) := Lib.hid (by subst hW; exact heap_alloc2 w _ _)
  have HB0 : Hid (W.cell? ⟨w.heap.size, 1, none⟩ = some (.int .i64 hi)) := Lib.hid (by
    subst hW
    have h0 := heap_alloc_new w (.cells #[.int .i64 lo, .int .i64 hi, .int .i64 gn, .int .i64 gh, .int .u64 gl, .int .i64 gmn, .int .i64 gmx, .int .i64 gft, .int .i64 gfv, .int .i64 gfs, .int .i64 glt, .int .i64 glv, .int .i64 gls] 50 (0, 0))
    have h1 := (((Ext.refl _).alloc (.cells #[.int .i64 wd, .int .i64 st, .int .i64 off] 24 (0, 0))).block (block_lt h0)).trans h0
    exact cell_of_block h1 1)
  clear hW
  refine (HA.out _).mono ?_
  rintro e w1 ⟨v1, rfl, m1⟩
  obtain ⟨va1, vc1, rfl⟩ := m1.row.shape
  have HS1 := Lib.hid (m1.row.src (sps_one L))
  have HX1 := Lib.hid (HXW.out.trans m1.ext)
  have HK1 := Lib.hid ((m1.ext.block (block_lt HK.out)).trans HK.out)
  have q0 : w1.cell? ⟨w.heap.size, 1, none⟩ = some (.int .i64 hi) := (m1.ext.cell (World.block_lt_of_cell? W _ HB0.out)).trans HB0.out
  have r0 : w1.cell? ⟨w.heap.size + 1, 0, none⟩ = some (.int .i64 wd) := by have := cell_of_block HK1.out 0; simpa using this
  have r1 : w1.cell? ⟨w.heap.size + 1, 1, none⟩ = some (.int .i64 st) := by have := cell_of_block HK1.out 1; simpa using this
  have r2 : w1.cell? ⟨w.heap.size + 1, 2, none⟩ = some (.int .i64 off) := by have := cell_of_block HK1.out 2; simpa using this
  clear m1
  go_wp2_with fail
  clear q0 r0 r1 r2
  refine (HB.out _).mono ?_
  rintro e w2 ⟨v2, rfl, m2⟩
  obtain ⟨va2, vc2, rfl⟩ := m2.row.shape
  have HS2 := Lib.hid (m2.row.src (sps_one L))
  have HS3 := Lib.hid (HS1.out.ext m2.ext)
  have HX2 := Lib.hid (HX1.out.trans m2.ext)
  clear m2
  go_wp2_with fail
  refine (eqs_ok w2 va1 va2 N vc1 vc2 L HS3.out HS2.out (by have := HN.out; omega)).mono ?_
  rintro e w3 ⟨rfl, hx3⟩
  have HX3 := Lib.hid (HX2.out.trans hx3)
  clear hx3
  go_wp2_with fail
  go_ret
  exact ⟨rfl, HX3.out⟩

/-- A bucket that fits windows. -/
structure FitsB (wd st off : Int) (b : Bk) : Prop where
  had : Had b.a
  lo : timeB b.lo = true
  hi : timeB b.hi = true
  ends : timeB (b.hi - 1) = true
  lt : b.lo < b.hi
  lies : winL wd st off b.lo = winL wd st off (b.hi - 1)

theorem bk_info : (Try.prog.info? 50).map (·.size) = some 13 := by kernel_rfl
theorem agg_info : (Try.prog.info? 48).map (·.size) = some 11 := by kernel_rfl
theorem kind_info : (Try.prog.info? 24).map (·.size) = some 3 := by kernel_rfl
theorem bkc_all (b : Bk) : (bkc b).toArray.all (·.oneCell') = true := by
  rw [Array.all_eq_true_iff_forall_mem]
  intro v hv
  exact bkc_one b v (by simpa using hv)
theorem joinL_snoc (wd st off : Int) (B : List Bk) (b : Bk) : joinL wd st off (B ++ [b]) = putL (joinL wd st off B) b.a (winL wd st off b.lo) := genL_snoc _ _ _ _
theorem joinL_bnd {wd st off : Int} (hv : windowB wd st off = true) {K : Nat} : ∀ (B : List Bk), (∀ b ∈ B, b.a.bnd K) → ∀ q ∈ joinL wd st off B, q.2.bnd (64 * K * B.length) := by
  intro B
  refine snoc_ind (P := fun B => (∀ b ∈ B, b.a.bnd K) → ∀ q ∈ joinL wd st off B, q.2.bnd (64 * K * B.length)) (fun _ q hq => by simp [joinL, genL] at hq) (fun B b ih h q hq => ?_) B
  rw [joinL_snoc] at hq
  have h3 := winN_le (t := b.lo) hv
  have h4 := winL_len wd st off b.lo
  refine (putL_bnd (h b (by simp)) _ _ _ (ih (fun c hc => h c (by simp [hc]))) q hq).mono ?_
  have h5 : (winL wd st off b.lo).length * K ≤ 64 * K := Nat.mul_le_mul_right _ (by omega)
  rw [List.length_append, List.length_singleton, Nat.mul_add, Nat.mul_one]
  omega
theorem joinL_len {wd st off : Int} (hv : windowB wd st off = true) : ∀ (B : List Bk), (joinL wd st off B).length ≤ 64 * B.length := by
  intro B
  refine snoc_ind (P := fun B => (joinL wd st off B).length ≤ 64 * B.length) (by simp [joinL, genL]) (fun B b ih => ?_) B
  rw [joinL_snoc]
  have h3 := winN_le (t := b.lo) hv
  have h4 := winL_len wd st off b.lo
  have h5 := putL_len (a := b.a) (winL wd st off b.lo) (joinL wd st off B)
  rw [List.length_append, List.length_singleton]
  omega
theorem joinL_keys {wd st off : Int} (B : List Bk) : ∀ q ∈ joinL wd st off B, ∃ b ∈ B, ∃ x ∈ winL wd st off b.lo, x.1 = q.1 := by
  refine snoc_ind (P := fun B => ∀ q ∈ joinL wd st off B, ∃ b ∈ B, ∃ x ∈ winL wd st off b.lo, x.1 = q.1) (fun q hq => by simp [joinL, genL] at hq) (fun B b ih q hq => ?_) B
  rw [joinL_snoc] at hq
  exact putL_all (R := fun z _ => ∃ c ∈ B ++ [b], ∃ x ∈ winL wd st off c.lo, x.1 = z) (winL wd st off b.lo) _ (fun p hp => by
    obtain ⟨c, hc, r⟩ := ih p hp
    exact ⟨c, by simp [hc], r⟩) (fun x hx _ _ => ⟨b, by simp, x, hx, rfl⟩) q hq

set_option maxHeartbeats 8000000 in
set_option maxRecDepth 100000 in
theorem join_ok (w : World) (a : Option Addr) (n c : Nat) (B : List Bk) (wd st off : Int) (K : Nat) (hl : Src w 13 (.slice a n c) n (bks B)) (hn : n ≤ 100) (hK : K ≤ 1000) (hv : windowB wd st off = true)
    (hf : ∀ b ∈ B, FitsB wd st off b ∧ b.a.bnd K) (hs : B.Pairwise (fun a b => a.hi ≤ b.lo)) :
    Calls Try.prog 12 #[.slice a n c, .agg #[.int .i64 wd, .int .i64 st, .int .i64 off]] w fun e w' => ∃ v, e = .returned (.tuple #[v, .int .i64 0]) ∧ WinsTo w wd (joinL wd st off B) v w' := by
  have HL := Lib.hid hl
  have HLN := Lib.hid (enc_src_len bkc_len (by decide) hl)
  have HF := Lib.hid hf
  have HS := Lib.hid hs
  have HV := Lib.hid hv
  clear hl hf hs hv
  go_enter Try.func12, Try.ntmps12
  go_wp2_with fail
  refine (windowValid_any wd st off _).mono ?_
  rintro e w1 ⟨rfl, hx1⟩
  have HX1 := Lib.hid (((Ext.refl w).alloc (.cells #[.int .i64 wd, .int .i64 st, .int .i64 off] 24 (0, 0))).trans hx1)
  have HK1 : Hid (w1.heap[w.heap.size]? = some (.cells #[.int .i64 wd, .int .i64 st, .int .i64 off] 24 (0, 0))) := Lib.hid ((hx1.block (block_lt (heap_alloc_new w _))).trans (heap_alloc_new w _))
  clear hx1
  rw [HV.out]
  have r0 : w1.cell? ⟨w.heap.size, 0, none⟩ = some (.int .i64 wd) := by have := cell_of_block HK1.out 0; simpa using this
  have r1 : w1.cell? ⟨w.heap.size, 1, none⟩ = some (.int .i64 st) := by have := cell_of_block HK1.out 1; simpa using this
  have r2 : w1.cell? ⟨w.heap.size, 2, none⟩ = some (.int .i64 off) := by have := cell_of_block HK1.out 2; simpa using this
  have hmm := @run_makeMap Try.prog
  go_wp2_with fail
  clear r0 r1 r2 hmm
  obtain ⟨kb, hkb⟩ : ∃ kb, kb = w.heap.size := ⟨_, rfl⟩
  have HKB := Lib.hid hkb
  rw [← hkb] at HK1
  rw [← hkb]
  clear hkb
  obtain ⟨mb, hmb⟩ : ∃ mb, mb = w1.heap.size := ⟨_, rfl⟩
  obtain ⟨g, hg⟩ : ∃ g, g = mb + 1 := ⟨_, rfl⟩
  have HG3 : Hid (GatAt ((w1.alloc (.map #[] 0)).alloc (.cells #[.int .i64 wd, .int .i64 st, .int .i64 off, .map (some w1.heap.size)] 59 (0, 0))) (w1.heap.size + 1) w1.heap.size wd st off []) := Lib.hid ⟨heap_alloc2 w1 _ _, (MapIs.new w1).ext ((Ext.refl _).alloc _)⟩
  have HX3 : Hid (Ext w1 ((w1.alloc (.map #[] 0)).alloc (.cells #[.int .i64 wd, .int .i64 st, .int .i64 off, .map (some w1.heap.size)] 59 (0, 0)))) := Lib.hid (((Ext.refl _).alloc _).alloc _)
  have HMB : Hid (w.heap.size ≤ mb) := Lib.hid (by rw [hmb]; exact HX1.out.size)
  rw [← hmb, ← hg] at HG3
  rw [← hmb] at HX3
  rw [← hmb, ← hg]
  generalize (w1.alloc (.map #[] 0)).alloc (.cells #[.int .i64 wd, .int .i64 st, .int .i64 off, .map (some mb)] 59 (0, 0)) = w3 at *
  clear hmb hg
  have HK3 := Lib.hid ((HX3.out.block (block_lt HK1.out)).trans HK1.out)
  have HXW3 := Lib.hid (HX1.out.trans HX3.out)
  go_loopw [21] (fun s21 wr => ∃ k : Nat, k ≤ n ∧ s21 = .int .i64 k ∧ Hid (Ext w3 wr)) (fun i _ => n - (RowKit.intOf i).toNat)
  case atStart => exact ⟨0, by omega, rfl, Lib.hid (Ext.refl _)⟩
  case round =>
    obtain ⟨k, hk, rfl, HI⟩ := hrel
    by_cases hlt : k < n
    · obtain ⟨sb, so, bk, rfl, hbk, hrg⟩ := enc_src bkc_len (by decide) (HL.out.ext (HXW3.out.trans HI.out)) hlt
      have HBK := Lib.hid hbk
      have HRG := Lib.hid hrg
      have HFB := Lib.hid (HF.out bk (List.mem_of_getElem? hbk))
      clear hbk hrg
      have hd1 : decide ((k : Int) < (n : Int)) = true := by simp; omega
      go_upto_region 7 with (first | (refine wpList_load_mid rfl _ _ rfl sb (so + k * 13) rfl (bkc bk) _ HRG.out Try.underlying50 rfl bk_info ?_) | (refine wpList_store_box rfl _ _ _ rfl _ _ (bkc bk).toArray _ rfl rfl (heap_alloc_new wr _) rfl bk_info (bkc_all bk) ?_; rintro w4 hb4 hc4; have HB4 := Lib.hid hb4; have HX4 : Hid (Ext wr w4) := Lib.hid (((Chg.of_ext (S := fun _ => False) ((Ext.refl wr).alloc _)).trans hc4 (fun i hi e => by omega)).ext (fun _ _ e => e)); clear hb4 hc4))
      obtain ⟨bx, hbx⟩ : ∃ bx, bx = wr.heap.size := ⟨_, rfl⟩
      rw [← hbx] at HB4 ⊢
      clear hbx
      obtain ⟨lo, hi, gn, gs, gmn, gmx, ⟨gft, gfv, gfs⟩, ⟨glt, glv, gls⟩⟩ := bk
      obtain ⟨gh, hgh⟩ : ∃ x, x = gs / 18446744073709551616 := ⟨_, rfl⟩
      obtain ⟨gl, hgl⟩ : ∃ x, x = gs % 18446744073709551616 := ⟨_, rfl⟩
      have HBB : Hid (w4.heap[bx]? = some (.cells #[.int .i64 lo, .int .i64 hi, .int .i64 gn, .int .i64 gh, .int .u64 gl, .int .i64 gmn, .int .i64 gmx, .int .i64 gft, .int .i64 gfv, .int .i64 gfs, .int .i64 glt, .int .i64 glv, .int .i64 gls] 50 (0, 0))) := Lib.hid (by rw [hgh, hgl]; exact HB4.out)
      clear HB4
      have HVA := Lib.hid (fun W => valid_ok ⟨gn, gs, gmn, gmx, ⟨gft, gfv, gfs⟩, ⟨glt, glv, gls⟩⟩ W HFB.out.1.had)
      unfold Ag.val at HVA
      simp only at HVA
      rw [← hgh, ← hgl] at HVA
      have hlo := HFB.out.1.lo
      have hhi := HFB.out.1.hi
      have hle := HFB.out.1.lt
      have hnn := HFB.out.1.had.n1
      simp only at hlo hhi hle hnn
      have HT1 : Hid (∀ W, Calls Try.prog 14 #[.int .i64 lo] W fun e w' => e = .returned (.bool true) ∧ W = w') := Lib.hid (fun W => by rw [← hlo]; exact isTime_any lo W)
      have HT2 : Hid (∀ W, Calls Try.prog 14 #[.int .i64 hi] W fun e w' => e = .returned (.bool true) ∧ W = w') := Lib.hid (fun W => by rw [← hhi]; exact isTime_any hi W)
      have HLI := Lib.hid (fun W => lies_ok W lo hi gn gh gl gmn gmx gft gfv gfs glt glv gls wd st off HV.out hlo HFB.out.1.ends (by have := time_nums hhi; omega) (by have := time_nums hhi; omega) HFB.out.1.lies)
      have hge : decide (hi ≤ lo) = false := by simp; omega
      have hgz : (gn == 0) = false := by simp; omega
      have HK4 := Lib.hid ((HX4.out.block (block_lt ((HI.out.block (block_lt HK3.out)).trans HK3.out))).trans ((HI.out.block (block_lt HK3.out)).trans HK3.out))
      have k0 := cell_regrown (show w4.cell? ⟨kb, 0, none⟩ = some (.int .i64 wd) by have := cell_of_block HK4.out 0; simpa using this)
      have k1 := cell_regrown (show w4.cell? ⟨kb, 1, none⟩ = some (.int .i64 st) by have := cell_of_block HK4.out 1; simpa using this)
      have k2 := cell_regrown (show w4.cell? ⟨kb, 2, none⟩ = some (.int .i64 off) by have := cell_of_block HK4.out 2; simpa using this)
      have c0 := cell_regrown (show w4.cell? ⟨bx, 0, none⟩ = some (.int .i64 lo) by have := cell_of_block HBB.out 0; simpa using this)
      have c1 := cell_regrown (show w4.cell? ⟨bx, 1, none⟩ = some (.int .i64 hi) by have := cell_of_block HBB.out 1; simpa using this)
      have c2 := cell_regrown (show w4.cell? ⟨bx, 2, none⟩ = some (.int .i64 gn) by have := cell_of_block HBB.out 2; simpa using this)
      have c3 := cell_regrown (show w4.cell? ⟨bx, 3, none⟩ = some (.int .i64 gh) by have := cell_of_block HBB.out 3; simpa using this)
      have c4 := cell_regrown (show w4.cell? ⟨bx, 4, none⟩ = some (.int .u64 gl) by have := cell_of_block HBB.out 4; simpa using this)
      have c5 := cell_regrown (show w4.cell? ⟨bx, 5, none⟩ = some (.int .i64 gmn) by have := cell_of_block HBB.out 5; simpa using this)
      have c6 := cell_regrown (show w4.cell? ⟨bx, 6, none⟩ = some (.int .i64 gmx) by have := cell_of_block HBB.out 6; simpa using this)
      have c7 := cell_regrown (show w4.cell? ⟨bx, 7, none⟩ = some (.int .i64 gft) by have := cell_of_block HBB.out 7; simpa using this)
      have c8 := cell_regrown (show w4.cell? ⟨bx, 8, none⟩ = some (.int .i64 gfv) by have := cell_of_block HBB.out 8; simpa using this)
      have c9 := cell_regrown (show w4.cell? ⟨bx, 9, none⟩ = some (.int .i64 gfs) by have := cell_of_block HBB.out 9; simpa using this)
      have c10 := cell_regrown (show w4.cell? ⟨bx, 10, none⟩ = some (.int .i64 glt) by have := cell_of_block HBB.out 10; simpa using this)
      have c11 := cell_regrown (show w4.cell? ⟨bx, 11, none⟩ = some (.int .i64 glv) by have := cell_of_block HBB.out 11; simpa using this)
      have c12 := cell_regrown (show w4.cell? ⟨bx, 12, none⟩ = some (.int .i64 gls) by have := cell_of_block HBB.out 12; simpa using this)
      clear hgh hgl hlo hhi hle hnn
      rcases Nat.eq_zero_or_pos k with hk0 | hk0
      · subst hk0
        have hz0 : decide ((0 : Int) < ((0 : Nat) : Int)) = false := by simp
        go_wp2_with fail
        refine wp_region_quiet_below (by kernel_rfl) (by kernel_rfl) ?_
        repeat (go_big_quiet_step (first | (go_at_call 27; exact Calls.grown_of (HVA.out _)) | (go_at_call 14; first | exact Calls.grown_of_same (HT1.out _) | exact Calls.grown_of_same (HT2.out _)) | (go_at_call 28; exact Calls.grown_of (HLI.out _))))
        refine wpQuiet_nil ?_
        intro _ hw'
        obtain ⟨pr, rfl⟩ := hw'
        generalize hW5 : grow _ _ = w5
        have HX5 : Hid (Ext w4 w5) := Lib.hid (by subst hW5; exact Ext.regrown _ _ _)
        clear hW5 c0 c1 c2 c3 c4 c5 c6 c7 c8 c9 c10 c11 c12 k0 k1 k2
        go_wp2_with fail
        exact ⟨⟨1, by omega, by go_num, Lib.hid (HI.out.trans (HX4.out.trans HX5.out))⟩, by simp [RowKit.intOf]; omega⟩
      · obtain ⟨p, hp1, hpn⟩ : ∃ p, p + 1 = k ∧ p < n := ⟨k - 1, by omega, by omega⟩
        obtain ⟨sb', so', bq, heq, hbq, hrq⟩ := enc_src bkc_len (by decide) (HL.out.ext (HXW3.out.trans (HI.out.trans HX4.out))) hpn
        simp only [Option.some.injEq, Addr.mk.injEq, and_true] at heq
        obtain ⟨rfl, rfl⟩ := heq
        have hpq : bq.hi ≤ lo := by
          obtain ⟨i1, e1⟩ := List.getElem?_eq_some_iff.1 hbq
          obtain ⟨i2, e2⟩ := List.getElem?_eq_some_iff.1 HBK.out
          have := List.pairwise_iff_getElem.1 HS.out p k i1 i2 (by omega)
          rw [e1, e2] at this
          exact this
        obtain ⟨qhi, hqhi⟩ : ∃ x, x = bq.hi := ⟨_, rfl⟩
        have pq := cell_regrown (show w4.cell? ⟨sb, so + p * 13 + 1, none⟩ = some (.int .i64 qhi) by rw [hqhi]; exact hrq 1 _ rfl)
        rw [← hqhi] at hpq
        have hdq : decide (lo < qhi) = false := by simp; omega
        have hz0 : decide ((0 : Int) < (k : Int)) = true := by simp; omega
        have hjp : (k : Int) - 1 = (p : Int) := by omega
        have hjw : IntKind.i64.wrap ((k : Int) - 1) = (p : Int) := by rw [hjp]; exact IntWalk.i64_in _ (by omega)
        clear hqhi hpq hbq hrq
        go_wp2_with fail
        refine wp_region_quiet_below (by kernel_rfl) (by kernel_rfl) ?_
        repeat (go_big_quiet_step (first | (go_at_call 27; exact Calls.grown_of (HVA.out _)) | (go_at_call 14; first | exact Calls.grown_of_same (HT1.out _) | exact Calls.grown_of_same (HT2.out _)) | (go_at_call 28; exact Calls.grown_of (HLI.out _))))
        refine wpQuiet_nil ?_
        intro _ hw'
        obtain ⟨pr, rfl⟩ := hw'
        generalize hW5 : grow _ _ = w5
        have HX5 : Hid (Ext w4 w5) := Lib.hid (by subst hW5; exact Ext.regrown _ _ _)
        clear hW5 c0 c1 c2 c3 c4 c5 c6 c7 c8 c9 c10 c11 c12 k0 k1 k2
        clear pq
        go_wp2_with fail
        exact ⟨⟨k + 1, by omega, by go_num, Lib.hid (HI.out.trans (HX4.out.trans HX5.out))⟩, by simp [RowKit.intOf]; omega⟩
    · obtain rfl : k = n := by omega
      have hd1 : decide ((k : Int) < (k : Int)) = false := by simp
      have HG4 := Lib.hid (HG3.out.ext HI.out)
      have HX9 := Lib.hid (HXW3.out.trans HI.out)
      have HSZ : Hid (w.heap.size ≤ mb ∧ mb < wr.heap.size) := Lib.hid ⟨HMB.out, HG4.out.lt.2⟩
      clear HK3 HI HG3 HX3 HXW3 hlt hk
      go_wp2_with fail
      clear hd1
      go_loopw [85] (fun s85 wq => ∃ j : Nat, j ≤ k ∧ s85 = .int .i64 j ∧ Hid (GatAt wq g mb wd st off (joinL wd st off (B.take j)) ∧ Ext w wq)) (fun i _ => k - (RowKit.intOf i).toNat)
      case atStart => exact ⟨0, by omega, rfl, Lib.hid ⟨by simpa [joinL, genL] using HG4.out, HX9.out⟩⟩
      case round =>
        obtain ⟨j, hj, rfl, HI⟩ := hrel
        by_cases hlt : j < k
        · obtain ⟨sb, so, bk, rfl, hbk, hrg⟩ := enc_src bkc_len (by decide) (HL.out.ext HI.out.2) hlt
          have HBK := Lib.hid hbk
          have HRG := Lib.hid hrg
          have HFB := Lib.hid (HF.out bk (List.mem_of_getElem? hbk))
          clear hbk hrg
          have hd1 : decide ((j : Int) < (k : Int)) = true := by simp; omega
          have HTK : Hid (joinL wd st off (B.take (j + 1)) = putL (joinL wd st off (B.take j)) bk.a (winL wd st off bk.lo)) := Lib.hid (by rw [List.take_add_one, HBK.out]; exact joinL_snoc _ _ _ _ _)
          go_upto_region 13 with (first | (refine wpList_load_mid rfl _ _ rfl sb (so + j * 13) rfl (bkc bk) _ HRG.out Try.underlying50 rfl bk_info ?_) | (refine wpList_store_box rfl _ _ _ rfl _ _ (bkc bk).toArray _ rfl rfl (heap_alloc_new wr _) rfl bk_info (bkc_all bk) ?_; rintro w4 hb4 hc4; have HB4 := Lib.hid hb4; have HX4 : Hid (Ext wr w4) := Lib.hid (((Chg.of_ext (S := fun _ => False) ((Ext.refl wr).alloc _)).trans hc4 (fun i hi e => by omega)).ext (fun _ _ e => e)); clear hb4 hc4))
          obtain ⟨bx, hbx⟩ : ∃ bx, bx = wr.heap.size := ⟨_, rfl⟩
          rw [← hbx] at HB4 ⊢
          clear hbx
          obtain ⟨lo, hi, gn, gs, gmn, gmx, ⟨gft, gfv, gfs⟩, ⟨glt, glv, gls⟩⟩ := bk
          obtain ⟨gh, hgh⟩ : ∃ x, x = gs / 18446744073709551616 := ⟨_, rfl⟩
          obtain ⟨gl, hgl⟩ : ∃ x, x = gs % 18446744073709551616 := ⟨_, rfl⟩
          have HBB : Hid (w4.heap[bx]? = some (.cells #[.int .i64 lo, .int .i64 hi, .int .i64 gn, .int .i64 gh, .int .u64 gl, .int .i64 gmn, .int .i64 gmx, .int .i64 gft, .int .i64 gfv, .int .i64 gfs, .int .i64 glt, .int .i64 glv, .int .i64 gls] 50 (0, 0))) := Lib.hid (by rw [hgh, hgl]; exact HB4.out)
          clear HB4
          have HLJ : Hid ((B.take j).length = j) := Lib.hid (by rw [List.length_take]; have := HLN.out; omega)
          have HP := Lib.hid (put_any (HI.out.1.ext HX4.out) lo ⟨gn, gs, gmn, gmx, ⟨gft, gfv, gfs⟩, ⟨glt, glv, gls⟩⟩ (64 * K * (B.take j).length) K HV.out HFB.out.1.lo (joinL_bnd HV.out _ (fun c hc => (HF.out c (List.mem_of_mem_take hc)).2)) HFB.out.2 HFB.out.1.had.n1 (by
            rw [HLJ.out]
            have h1 : 64 * K * j ≤ 64 * 1000 * 100 := Nat.mul_le_mul (by omega) (by omega)
            omega) (by have h1 := joinL_len (wd := wd) (st := st) (off := off) HV.out (B.take j); rw [HLJ.out] at h1; omega))
          unfold Ag.val at HP
          simp only at HP
          rw [← hgh, ← hgl] at HP
          clear hgh hgl
          have c0 : w4.cell? ⟨bx, 0, none⟩ = some (.int .i64 lo) := by have := cell_of_block HBB.out 0; simpa using this
          have c1 : w4.cell? ⟨bx, 1, none⟩ = some (.int .i64 hi) := by have := cell_of_block HBB.out 1; simpa using this
          have c2 : w4.cell? ⟨bx, 2, none⟩ = some (.int .i64 gn) := by have := cell_of_block HBB.out 2; simpa using this
          have c3 : w4.cell? ⟨bx, 3, none⟩ = some (.int .i64 gh) := by have := cell_of_block HBB.out 3; simpa using this
          have c4 : w4.cell? ⟨bx, 4, none⟩ = some (.int .u64 gl) := by have := cell_of_block HBB.out 4; simpa using this
          have c5 : w4.cell? ⟨bx, 5, none⟩ = some (.int .i64 gmn) := by have := cell_of_block HBB.out 5; simpa using this
          have c6 : w4.cell? ⟨bx, 6, none⟩ = some (.int .i64 gmx) := by have := cell_of_block HBB.out 6; simpa using this
          have c7 : w4.cell? ⟨bx, 7, none⟩ = some (.int .i64 gft) := by have := cell_of_block HBB.out 7; simpa using this
          have c8 : w4.cell? ⟨bx, 8, none⟩ = some (.int .i64 gfv) := by have := cell_of_block HBB.out 8; simpa using this
          have c9 : w4.cell? ⟨bx, 9, none⟩ = some (.int .i64 gfs) := by have := cell_of_block HBB.out 9; simpa using this
          have c10 : w4.cell? ⟨bx, 10, none⟩ = some (.int .i64 glt) := by have := cell_of_block HBB.out 10; simpa using this
          have c11 : w4.cell? ⟨bx, 11, none⟩ = some (.int .i64 glv) := by have := cell_of_block HBB.out 11; simpa using this
          have c12 : w4.cell? ⟨bx, 12, none⟩ = some (.int .i64 gls) := by have := cell_of_block HBB.out 12; simpa using this
          go_wp2_with fail
          refine HP.out.mono ?_
          rintro e w6 ⟨rfl, hg6, hc6⟩
          have HG6 : Hid (GatAt w6 g mb wd st off (joinL wd st off (B.take (j + 1)))) := Lib.hid (by rw [HTK.out]; exact hg6)
          have HX6 : Hid (Ext w w6) := Lib.hid (((Chg.of_ext (S := fun _ => False) (HI.out.2.trans HX4.out)).trans hc6 (fun i hi e => by have := HSZ.out; omega)).ext (fun _ _ e => e))
          clear hg6 hc6 c0 c1 c2 c3 c4 c5 c6 c7 c8 c9 c10 c11 c12
          go_wp2_with fail
          exact ⟨⟨j + 1, by omega, by go_num, Lib.hid ⟨HG6.out, HX6.out⟩⟩, by simp [RowKit.intOf]; omega⟩
        · have HKN : Hid (B.take j = B) := Lib.hid (by rw [List.take_of_length_le (by have := HLN.out; omega)])
          rw [HKN.out] at HI
          have hd1 : decide ((j : Int) < (k : Int)) = false := by simp; omega
          go_wp2_with fail
          refine (buckets_any HI.out.1 HV.out (fun q hq => ?_) (by have := joinL_len (wd := wd) (st := st) (off := off) HV.out B; have := HLN.out; omega)).mono ?_
          · obtain ⟨b, hb, x, hx, e⟩ := joinL_keys B q hq
            have hv := window_nums HV.out
            have h1 := (mem_winL hv.2.2.1 hv.2.2.2.1).1 hx
            have h3 := time_nums (HF.out b hb).1.lo
            omega
          rintro e w7 ⟨v, rfl, hto⟩
          have HTO := Lib.hid (hto.mono HI.out.2)
          clear hto
          go_wp2_with fail
          go_ret2
          exact ⟨_, rfl, HTO.out⟩
end Go.Proofs.Ythnpchfcafaiiaa
