/- buckets.lies, Join, where the buckets fit. -/
import Derived.Test.YtokllgdbmnmieaaGreatVal
import Derived.Test.YtokllgdbmnmieaaGreatFtp
import Derived.Test.YtokllgdbmnmieaaGreatRol
import Derived.Test.YtokllgdbmnmieaaGreatFta
import Derived.Test.YtokllgdbmnmieaaGreatRfv
import Derived.Test.YtokllgdbmnmieaaGreatR09w
namespace Go.Proofs.YtokllgdbmnmieaaGreat
open Go.RowKit Go.Lib Go.Sort

set_option maxHeartbeats 1000000 in
set_option maxRecDepth 100000 in
theorem eqs_ok (w : World) (a1 a2 : Option Addr) (n c1 c2 : Nat) (L : List (Int × Int)) (h1 : Src w 2 (.slice a1 n c1) n (sps L)) (h2 : Src w 2 (.slice a2 n c2) n (sps L)) (hn : n ≤ 1000) :
    Calls Tryz.prog 74 #[.slice a1 n c1, .slice a2 n c2] w fun e w' => e = .returned (.bool true) ∧ Ext w w' := by
  have H1 := Lib.hid h1
  have H2 := Lib.hid h2
  clear h1 h2
  go_enter Tryz.func74, Tryz.ntmps74
  go_wp2_with fail
  go_loopw [13] (fun s13 wr => ∃ k : Nat, k ≤ n ∧ s13 = .int .i64 k ∧ Hid (Ext w wr)) (fun i _ => n - (RowKit.intOf i).toNat)
  case atStart => exact ⟨0, by omega, rfl, Lib.hid (Ext.refl _)⟩
  case round =>
    obtain ⟨k, hk, rfl, HX⟩ := hrel
    by_cases hlt : k < n
    · have hd1 : decide ((k : Int) < (n : Int)) = true := by simp; omega
      obtain ⟨b1, o1, x, rfl, hx, c0, c1⟩ := sps_src (H1.out.ext HX.out) hlt
      obtain ⟨b2, o2, y, rfl, hy, d0, d1⟩ := sps_src (H2.out.ext HX.out) hlt
      obtain rfl : x = y := by rw [hx] at hy; exact Option.some.inj hy
      obtain ⟨x1, x2⟩ := x
      simp only at c0 c1 d0 d1
      clear hx hy
      go_wp2_with fail
      go_big_quiet (fail)
      go_wp2_with fail
      exact ⟨⟨k + 1, by omega, by go_num, Lib.hid (HX.out.trans (Ext.drewN _ _))⟩, by simp [RowKit.intOf]; omega⟩
    · have hd1 : decide ((k : Int) < (n : Int)) = false := by simp; omega
      go_wp2_with fail
      go_ret
      exact ⟨rfl, HX.out⟩

set_option maxHeartbeats 2000000 in
set_option maxRecDepth 100000 in
theorem lies_ok (w : World) (lo hi gn gh gl gmn gmx gft gfv gfs glt glv gls wd st off : Int) (hv : windowB wd st off = true) (t1 : timeB lo = true) (t2 : timeB (hi - 1) = true) (h1 : -9223372036854775808 < hi) (h2 : hi ≤ 9223372036854775807) (hw : winL wd st off lo = winL wd st off (hi - 1)) :
    Calls Tryz.prog 42 #[.agg #[.int .i64 lo, .int .i64 hi, .int .i64 gn, .int .i64 gh, .int .u64 gl, .int .i64 gmn, .int .i64 gmx, .int .i64 gft, .int .i64 gfv, .int .i64 gfs, .int .i64 glt, .int .i64 glv, .int .i64 gls], .agg #[.int .i64 wd, .int .i64 st, .int .i64 off]] w fun e w' => e = .returned (.bool true) ∧ Ext w w' := by
  have HA := Lib.hid (fun W => of_any wd st off lo W hv t1)
  have HB := Lib.hid (fun W => of_any wd st off (hi - 1) W hv t2)
  have hn : winN wd st off lo = winN wd st off (hi - 1) := by rw [← winL_len, ← winL_len, hw]
  rw [← hn, ← hw] at HB
  have HN := Lib.hid (winN_le (t := lo) hv)
  obtain ⟨N, hN⟩ : ∃ x, x = winN wd st off lo := ⟨_, rfl⟩
  obtain ⟨L, hL⟩ : ∃ x, x = winL wd st off lo := ⟨_, rfl⟩
  rw [← hN] at HN
  simp only [← hN, ← hL] at HA HB
  have e1 : IntKind.i64.wrap (hi - 1) = hi - 1 := IntWalk.i64_in _ (by omega)
  clear hv t1 t2 hw hn hN hL
  go_enter Tryz.func42, Tryz.ntmps42
  go_wp2_with fail
  generalize hW : World.alloc _ _ = W
  have HXW : Hid (Ext w W) := Lib.hid (by subst hW; exact (((Ext.refl w).alloc _).alloc _))
  have HK : Hid (W.heap[w.heap.size + 1]? = some (.cells #[.int .i64 wd, .int .i64 st, .int .i64 off] 67 (0, 0))) := Lib.hid (by subst hW; exact heap_alloc2 w _ _)
  have HB0 : Hid (W.cell? ⟨w.heap.size, 1, none⟩ = some (.int .i64 hi)) := Lib.hid (by
    subst hW
    have h0 := heap_alloc_new w (.cells #[.int .i64 lo, .int .i64 hi, .int .i64 gn, .int .i64 gh, .int .u64 gl, .int .i64 gmn, .int .i64 gmx, .int .i64 gft, .int .i64 gfv, .int .i64 gfs, .int .i64 glt, .int .i64 glv, .int .i64 gls] 77 (0, 0))
    have h1 := (((Ext.refl _).alloc (.cells #[.int .i64 wd, .int .i64 st, .int .i64 off] 67 (0, 0))).block (block_lt h0)).trans h0
    exact cell_of_block h1 1)
  clear hW
  refine (HA.out _).mono ?_
  rintro e w1 ⟨v1, rfl, m1⟩
  obtain ⟨va1, vc1, rfl⟩ := m1.row.shape
  have HS1 := Lib.hid (m1.row.src (sps_one L))
  have HX1 := Lib.hid (HXW.out.trans m1.ext)
  have HK1 := Lib.hid ((m1.ext.block (block_lt HK.out)).trans HK.out)
  have q0 : w1.cell? ⟨w.heap.size, 1, none⟩ = some (.int .i64 hi) := (m1.ext.cell (World.block_lt_of_cell? W _ HB0.out)).trans HB0.out
  have r0 : w1.cell? ⟨w.heap.size + 1, 0, none⟩ = some (.int .i64 wd) := by have := cell_of_block HK1.out 0; simpa using this
  have r1 : w1.cell? ⟨w.heap.size + 1, 1, none⟩ = some (.int .i64 st) := by have := cell_of_block HK1.out 1; simpa using this
  have r2 : w1.cell? ⟨w.heap.size + 1, 2, none⟩ = some (.int .i64 off) := by have := cell_of_block HK1.out 2; simpa using this
  clear m1
  go_wp2_with fail
  clear q0 r0 r1 r2
  refine (HB.out _).mono ?_
  rintro e w2 ⟨v2, rfl, m2⟩
  obtain ⟨va2, vc2, rfl⟩ := m2.row.shape
  have HS2 := Lib.hid (m2.row.src (sps_one L))
  have HS3 := Lib.hid (HS1.out.ext m2.ext)
  have HX2 := Lib.hid (HX1.out.trans m2.ext)
  clear m2
  go_wp2_with fail
  refine (eqs_ok w2 va1 va2 N vc1 vc2 L HS3.out HS2.out (by have := HN.out; omega)).mono ?_
  rintro e w3 ⟨rfl, hx3⟩
  have HX3 := Lib.hid (HX2.out.trans hx3)
  clear hx3
  go_wp2_with fail
  go_ret
  exact ⟨rfl, HX3.out⟩

/-- A bucket that fits windows. -/
structure FitsB (wd st off : Int) (b : Bk) : Prop where
  had : Had b.a
  lo : timeB b.lo = true
  hi : timeB b.hi = true
  ends : timeB (b.hi - 1) = true
  lt : b.lo < b.hi
  lies : winL wd st off b.lo = winL wd st off (b.hi - 1)

theorem bk_info : (Tryz.prog.info? 77).map (·.size) = some 13 := by kernel_rfl
theorem agg_info : (Tryz.prog.info? 75).map (·.size) = some 11 := by kernel_rfl
theorem kind_info : (Tryz.prog.info? 67).map (·.size) = some 3 := by kernel_rfl
theorem bkc_all (b : Bk) : (bkc b).toArray.all (·.oneCell') = true := by
  rw [Array.all_eq_true_iff_forall_mem]
  intro v hv
  exact bkc_one b v (by simpa using hv)
theorem joinL_snoc (wd st off : Int) (B : List Bk) (b : Bk) : joinL wd st off (B ++ [b]) = putL (joinL wd st off B) b.a (winL wd st off b.lo) := genL_snoc _ _ _ _
theorem joinL_bnd {wd st off : Int} (hv : windowB wd st off = true) {K : Nat} : ∀ (B : List Bk), (∀ b ∈ B, b.a.bnd K) → ∀ q ∈ joinL wd st off B, q.2.bnd (64 * K * B.length) := by
  intro B
  refine snoc_ind (P := fun B => (∀ b ∈ B, b.a.bnd K) → ∀ q ∈ joinL wd st off B, q.2.bnd (64 * K * B.length)) (fun _ q hq => by simp [joinL, genL] at hq) (fun B b ih h q hq => ?_) B
  rw [joinL_snoc] at hq
  have h3 := winN_le (t := b.lo) hv
  have h4 := winL_len wd st off b.lo
  refine (putL_bnd (h b (by simp)) _ _ _ (ih (fun c hc => h c (by simp [hc]))) q hq).mono ?_
  have h5 : (winL wd st off b.lo).length * K ≤ 64 * K := Nat.mul_le_mul_right _ (by omega)
  rw [List.length_append, List.length_singleton, Nat.mul_add, Nat.mul_one]
  omega
theorem joinL_len {wd st off : Int} (hv : windowB wd st off = true) : ∀ (B : List Bk), (joinL wd st off B).length ≤ 64 * B.length := by
  intro B
  refine snoc_ind (P := fun B => (joinL wd st off B).length ≤ 64 * B.length) (by simp [joinL, genL]) (fun B b ih => ?_) B
  rw [joinL_snoc]
  have h3 := winN_le (t := b.lo) hv
  have h4 := winL_len wd st off b.lo
  have h5 := putL_len (a := b.a) (winL wd st off b.lo) (joinL wd st off B)
  rw [List.length_append, List.length_singleton]
  omega
theorem joinL_keys {wd st off : Int} (B : List Bk) : ∀ q ∈ joinL wd st off B, ∃ b ∈ B, ∃ x ∈ winL wd st off b.lo, x.1 = q.1 := by
  refine snoc_ind (P := fun B => ∀ q ∈ joinL wd st off B, ∃ b ∈ B, ∃ x ∈ winL wd st off b.lo, x.1 = q.1) (fun q hq => by simp [joinL, genL] at hq) (fun B b ih q hq => ?_) B
  rw [joinL_snoc] at hq
  exact putL_all (R := fun z _ => ∃ c ∈ B ++ [b], ∃ x ∈ winL wd st off c.lo, x.1 = z) (winL wd st off b.lo) _ (fun p hp => by
    obtain ⟨c, hc, r⟩ := ih p hp
    exact ⟨c, by simp [hc], r⟩) (fun x hx _ _ => ⟨b, by simp, x, hx, rfl⟩) q hq

set_option maxHeartbeats 8000000 in
set_option maxRecDepth 100000 in
theorem join_ok (w : World) (a : Option Addr) (n c : Nat) (B : List Bk) (wd st off : Int) (K : Nat) (hl : Src w 13 (.slice a n c) n (bks B)) (hn : n ≤ 100) (hK : K ≤ 1000) (hv : windowB wd st off = true)
    (hf : ∀ b ∈ B, FitsB wd st off b ∧ b.a.bnd K) (hs : B.Pairwise (fun a b => a.hi ≤ b.lo)) :
    Calls Tryz.prog 23 #[.slice a n c, .agg #[.int .i64 wd, .int .i64 st, .int .i64 off]] w fun e w' => ∃ v, e = .returned (.tuple #[v, .int .i64 0]) ∧ WinsTo w wd (joinL wd st off B) v w' := by
  have HL := Lib.hid hl
  have HLN := Lib.hid (enc_src_len bkc_len (by decide) hl)
  have HF := Lib.hid hf
  have HS := Lib.hid hs
  have HV := Lib.hid hv
  clear hl hf hs hv
  go_enter Tryz.func23, Tryz.ntmps23
  go_wp2_with fail
  refine (windowValid_any wd st off _).mono ?_
  rintro e w1 ⟨rfl, hx1⟩
  have HX1 := Lib.hid (((Ext.refl w).alloc (.cells #[.int .i64 wd, .int .i64 st, .int .i64 off] 67 (0, 0))).trans hx1)
  have HK1 : Hid (w1.heap[w.heap.size]? = some (.cells #[.int .i64 wd, .int .i64 st, .int .i64 off] 67 (0, 0))) := Lib.hid ((hx1.block (block_lt (heap_alloc_new w _))).trans (heap_alloc_new w _))
  clear hx1
  rw [HV.out]
  have r0 : w1.cell? ⟨w.heap.size, 0, none⟩ = some (.int .i64 wd) := by have := cell_of_block HK1.out 0; simpa using this
  have r1 : w1.cell? ⟨w.heap.size, 1, none⟩ = some (.int .i64 st) := by have := cell_of_block HK1.out 1; simpa using this
  have r2 : w1.cell? ⟨w.heap.size, 2, none⟩ = some (.int .i64 off) := by have := cell_of_block HK1.out 2; simpa using this
  have hmm := @run_makeMap Tryz.prog
  go_wp2_with fail
  clear r0 r1 r2 hmm
  obtain ⟨kb, hkb⟩ : ∃ kb, kb = w.heap.size := ⟨_, rfl⟩
  have HKB := Lib.hid hkb
  rw [← hkb] at HK1
  rw [← hkb]
  clear hkb
  obtain ⟨mb, hmb⟩ : ∃ mb, mb = w1.heap.size := ⟨_, rfl⟩
  obtain ⟨g, hg⟩ : ∃ g, g = mb + 1 := ⟨_, rfl⟩
  have HG3 : Hid (GatAt ((w1.alloc (.map #[] 0)).alloc (.cells #[.int .i64 wd, .int .i64 st, .int .i64 off, .map (some w1.heap.size)] 114 (0, 0))) (w1.heap.size + 1) w1.heap.size wd st off []) := Lib.hid ⟨heap_alloc2 w1 _ _, (MapIs.new w1).ext ((Ext.refl _).alloc _)⟩
  have HX3 : Hid (Ext w1 ((w1.alloc (.map #[] 0)).alloc (.cells #[.int .i64 wd, .int .i64 st, .int .i64 off, .map (some w1.heap.size)] 114 (0, 0)))) := Lib.hid (((Ext.refl _).alloc _).alloc _)
  have HMB : Hid (w.heap.size ≤ mb) := Lib.hid (by rw [hmb]; exact HX1.out.size)
  rw [← hmb, ← hg] at HG3
  rw [← hmb] at HX3
  rw [← hmb, ← hg]
  generalize (w1.alloc (.map #[] 0)).alloc (.cells #[.int .i64 wd, .int .i64 st, .int .i64 off, .map (some mb)] 114 (0, 0)) = w3 at *
  clear hmb hg
  have HK3 := Lib.hid ((HX3.out.block (block_lt HK1.out)).trans HK1.out)
  have HXW3 := Lib.hid (HX1.out.trans HX3.out)
  go_loopw [21] (fun s21 wr => ∃ k : Nat, k ≤ n ∧ s21 = .int .i64 k ∧ Hid (Ext w3 wr)) (fun i _ => n - (RowKit.intOf i).toNat)
  case atStart => exact ⟨0, by omega, rfl, Lib.hid (Ext.refl _)⟩
  case round =>
    obtain ⟨k, hk, rfl, HI⟩ := hrel
    by_cases hlt : k < n
    · obtain ⟨sb, so, bk, rfl, hbk, hrg⟩ := enc_src bkc_len (by decide) (HL.out.ext (HXW3.out.trans HI.out)) hlt
      have HBK := Lib.hid hbk
      have HRG := Lib.hid hrg
      have HFB := Lib.hid (HF.out bk (List.mem_of_getElem? hbk))
      clear hbk hrg
      have hd1 : decide ((k : Int) < (n : Int)) = true := by simp; omega
      go_upto_region 7 with (first | (refine wpList_load_mid rfl _ _ rfl sb (so + k * 13) rfl (bkc bk) _ HRG.out Tryz.underlying77 rfl bk_info ?_) | (refine wpList_store_box rfl _ _ _ rfl _ _ (bkc bk).toArray _ rfl rfl (heap_alloc_new wr _) rfl bk_info (bkc_all bk) ?_; rintro w4 hb4 hc4; have HB4 := Lib.hid hb4; have HX4 : Hid (Ext wr w4) := Lib.hid (((Chg.of_ext (S := fun _ => False) ((Ext.refl wr).alloc _)).trans hc4 (fun i hi e => by omega)).ext (fun _ _ e => e)); clear hb4 hc4))
      obtain ⟨bx, hbx⟩ : ∃ bx, bx = wr.heap.size := ⟨_, rfl⟩
      rw [← hbx] at HB4 ⊢
      clear hbx
      obtain ⟨lo, hi, gn, gs, gmn, gmx, ⟨gft, gfv, gfs⟩, ⟨glt, glv, gls⟩⟩ := bk
      obtain ⟨gh, hgh⟩ : ∃ x, x = gs / 18446744073709551616 := ⟨_, rfl⟩
      obtain ⟨gl, hgl⟩ : ∃ x, x = gs % 18446744073709551616 := ⟨_, rfl⟩
      have HBB : Hid (w4.heap[bx]? = some (.cells #[.int .i64 lo, .int .i64 hi, .int .i64 gn, .int .i64 gh, .int .u64 gl, .int .i64 gmn, .int .i64 gmx, .int .i64 gft, .int .i64 gfv, .int .i64 gfs, .int .i64 glt, .int .i64 glv, .int .i64 gls] 77 (0, 0))) := Lib.hid (by rw [hgh, hgl]; exact HB4.out)
      clear HB4
      have HVA := Lib.hid (fun W => valid_ok ⟨gn, gs, gmn, gmx, ⟨gft, gfv, gfs⟩, ⟨glt, glv, gls⟩⟩ W HFB.out.1.had)
      unfold Ag.val at HVA
      simp only at HVA
      rw [← hgh, ← hgl] at HVA
      have hlo := HFB.out.1.lo
      have hhi := HFB.out.1.hi
      have hle := HFB.out.1.lt
      have hnn := HFB.out.1.had.n1
      simp only at hlo hhi hle hnn
      have HT1 : Hid (∀ W, Calls Tryz.prog 41 #[.int .i64 lo] W fun e w' => e = .returned (.bool true) ∧ W = w') := Lib.hid (fun W => by rw [← hlo]; exact isTime_any lo W)
      have HT2 : Hid (∀ W, Calls Tryz.prog 41 #[.int .i64 hi] W fun e w' => e = .returned (.bool true) ∧ W = w') := Lib.hid (fun W => by rw [← hhi]; exact isTime_any hi W)
      have HLI := Lib.hid (fun W => lies_ok W lo hi gn gh gl gmn gmx gft gfv gfs glt glv gls wd st off HV.out hlo HFB.out.1.ends (by have := time_nums hhi; omega) (by have := time_nums hhi; omega) HFB.out.1.lies)
      have hge : decide (hi ≤ lo) = false := by simp; omega
      have hgz : (gn == 0) = false := by simp; omega
      have HK4 := Lib.hid ((HX4.out.block (block_lt ((HI.out.block (block_lt HK3.out)).trans HK3.out))).trans ((HI.out.block (block_lt HK3.out)).trans HK3.out))
      have k0 := cell_regrown (show w4.cell? ⟨kb, 0, none⟩ = some (.int .i64 wd) by have := cell_of_block HK4.out 0; simpa using this)
      have k1 := cell_regrown (show w4.cell? ⟨kb, 1, none⟩ = some (.int .i64 st) by have := cell_of_block HK4.out 1; simpa using this)
      have k2 := cell_regrown (show w4.cell? ⟨kb, 2, none⟩ = some (.int .i64 off) by have := cell_of_block HK4.out 2; simpa using this)
      have c0 := cell_regrown (show w4.cell? ⟨bx, 0, none⟩ = some (.int .i64 lo) by have := cell_of_block HBB.out 0; simpa using this)
      have c1 := cell_regrown (show w4.cell? ⟨bx, 1, none⟩ = some (.int .i64 hi) by have := cell_of_block HBB.out 1; simpa using this)
      have c2 := cell_regrown (show w4.cell? ⟨bx, 2, none⟩ = some (.int .i64 gn) by have := cell_of_block HBB.out 2; simpa using this)
      have c3 := cell_regrown (show w4.cell? ⟨bx, 3, none⟩ = some (.int .i64 gh) by have := cell_of_block HBB.out 3; simpa using this)
      have c4 := cell_regrown (show w4.cell? ⟨bx, 4, none⟩ = some (.int .u64 gl) by have := cell_of_block HBB.out 4; simpa using this)
      have c5 := cell_regrown (show w4.cell? ⟨bx, 5, none⟩ = some (.int .i64 gmn) by have := cell_of_block HBB.out 5; simpa using this)
      have c6 := cell_regrown (show w4.cell? ⟨bx, 6, none⟩ = some (.int .i64 gmx) by have := cell_of_block HBB.out 6; simpa using this)
      have c7 := cell_regrown (show w4.cell? ⟨bx, 7, none⟩ = some (.int .i64 gft) by have := cell_of_block HBB.out 7; simpa using this)
      have c8 := cell_regrown (show w4.cell? ⟨bx, 8, none⟩ = some (.int .i64 gfv) by have := cell_of_block HBB.out 8; simpa using this)
      have c9 := cell_regrown (show w4.cell? ⟨bx, 9, none⟩ = some (.int .i64 gfs) by have := cell_of_block HBB.out 9; simpa using this)
      have c10 := cell_regrown (show w4.cell? ⟨bx, 10, none⟩ = some (.int .i64 glt) by have := cell_of_block HBB.out 10; simpa using this)
      have c11 := cell_regrown (show w4.cell? ⟨bx, 11, none⟩ = some (.int .i64 glv) by have := cell_of_block HBB.out 11; simpa using this)
      have c12 := cell_regrown (show w4.cell? ⟨bx, 12, none⟩ = some (.int .i64 gls) by have := cell_of_block HBB.out 12; simpa using this)
      clear hgh hgl hlo hhi hle hnn
      rcases Nat.eq_zero_or_pos k with hk0 | hk0
      · subst hk0
        have hz0 : decide ((0 : Int) < ((0 : Nat) : Int)) = false := by simp
        go_wp2_with fail
        refine wp_region_quiet_below (by kernel_rfl) (by kernel_rfl) ?_
        repeat (go_big_quiet_step (first | (go_at_call 40; exact Calls.grown_of (HVA.out _)) | (go_at_call 41; first | exact Calls.grown_of_same (HT1.out _) | exact Calls.grown_of_same (HT2.out _)) | (go_at_call 42; exact Calls.grown_of (HLI.out _))))
        refine wpQuiet_nil ?_
        intro _ hw'
        obtain ⟨pr, rfl⟩ := hw'
        generalize hW5 : grow _ _ = w5
        have HX5 : Hid (Ext w4 w5) := Lib.hid (by subst hW5; exact Ext.regrown _ _ _)
        clear hW5 c0 c1 c2 c3 c4 c5 c6 c7 c8 c9 c10 c11 c12 k0 k1 k2
        go_wp2_with fail
        exact ⟨⟨1, by omega, by go_num, Lib.hid (HI.out.trans (HX4.out.trans HX5.out))⟩, by simp [RowKit.intOf]; omega⟩
      · obtain ⟨p, hp1, hpn⟩ : ∃ p, p + 1 = k ∧ p < n := ⟨k - 1, by omega, by omega⟩
        obtain ⟨sb', so', bq, heq, hbq, hrq⟩ := enc_src bkc_len (by decide) (HL.out.ext (HXW3.out.trans (HI.out.trans HX4.out))) hpn
        simp only [Option.some.injEq, Addr.mk.injEq, and_true] at heq
        obtain ⟨rfl, rfl⟩ := heq
        have hpq : bq.hi ≤ lo := by
          obtain ⟨i1, e1⟩ := List.getElem?_eq_some_iff.1 hbq
          obtain ⟨i2, e2⟩ := List.getElem?_eq_some_iff.1 HBK.out
          have := List.pairwise_iff_getElem.1 HS.out p k i1 i2 (by omega)
          rw [e1, e2] at this
          exact this
        obtain ⟨qhi, hqhi⟩ : ∃ x, x = bq.hi := ⟨_, rfl⟩
        have pq := cell_regrown (show w4.cell? ⟨sb, so + p * 13 + 1, none⟩ = some (.int .i64 qhi) by rw [hqhi]; exact hrq 1 _ rfl)
        rw [← hqhi] at hpq
        have hdq : decide (lo < qhi) = false := by simp; omega
        have hz0 : decide ((0 : Int) < (k : Int)) = true := by simp; omega
        have hjp : (k : Int) - 1 = (p : Int) := by omega
        have hjw : IntKind.i64.wrap ((k : Int) - 1) = (p : Int) := by rw [hjp]; exact IntWalk.i64_in _ (by omega)
        clear hqhi hpq hbq hrq
        go_wp2_with fail
        refine wp_region_quiet_below (by kernel_rfl) (by kernel_rfl) ?_
        repeat (go_big_quiet_step (first | (go_at_call 40; exact Calls.grown_of (HVA.out _)) | (go_at_call 41; first | exact Calls.grown_of_same (HT1.out _) | exact Calls.grown_of_same (HT2.out _)) | (go_at_call 42; exact Calls.grown_of (HLI.out _))))
        refine wpQuiet_nil ?_
        intro _ hw'
        obtain ⟨pr, rfl⟩ := hw'
        generalize hW5 : grow _ _ = w5
        have HX5 : Hid (Ext w4 w5) := Lib.hid (by subst hW5; exact Ext.regrown _ _ _)
        clear hW5 c0 c1 c2 c3 c4 c5 c6 c7 c8 c9 c10 c11 c12 k0 k1 k2
        clear pq
        go_wp2_with fail
        exact ⟨⟨k + 1, by omega, by go_num, Lib.hid (HI.out.trans (HX4.out.trans HX5.out))⟩, by simp [RowKit.intOf]; omega⟩
    · obtain rfl : k = n := by omega
      have hd1 : decide ((k : Int) < (k : Int)) = false := by simp
      have HG4 := Lib.hid (HG3.out.ext HI.out)
      have HX9 := Lib.hid (HXW3.out.trans HI.out)
      have HSZ : Hid (w.heap.size ≤ mb ∧ mb < wr.heap.size) := Lib.hid ⟨HMB.out, HG4.out.lt.2⟩
      clear HK3 HI HG3 HX3 HXW3 hlt hk
      go_wp2_with fail
      clear hd1
      go_loopw [85] (fun s85 wq => ∃ j : Nat, j ≤ k ∧ s85 = .int .i64 j ∧ Hid (GatAt wq g mb wd st off (joinL wd st off (B.take j)) ∧ Ext w wq)) (fun i _ => k - (RowKit.intOf i).toNat)
      case atStart => exact ⟨0, by omega, rfl, Lib.hid ⟨by simpa [joinL, genL] using HG4.out, HX9.out⟩⟩
      case round =>
        obtain ⟨j, hj, rfl, HI⟩ := hrel
        by_cases hlt : j < k
        · obtain ⟨sb, so, bk, rfl, hbk, hrg⟩ := enc_src bkc_len (by decide) (HL.out.ext HI.out.2) hlt
          have HBK := Lib.hid hbk
          have HRG := Lib.hid hrg
          have HFB := Lib.hid (HF.out bk (List.mem_of_getElem? hbk))
          clear hbk hrg
          have hd1 : decide ((j : Int) < (k : Int)) = true := by simp; omega
          have HTK : Hid (joinL wd st off (B.take (j + 1)) = putL (joinL wd st off (B.take j)) bk.a (winL wd st off bk.lo)) := Lib.hid (by rw [List.take_add_one, HBK.out]; exact joinL_snoc _ _ _ _ _)
          go_upto_region 13 with (first | (refine wpList_load_mid rfl _ _ rfl sb (so + j * 13) rfl (bkc bk) _ HRG.out Tryz.underlying77 rfl bk_info ?_) | (refine wpList_store_box rfl _ _ _ rfl _ _ (bkc bk).toArray _ rfl rfl (heap_alloc_new wr _) rfl bk_info (bkc_all bk) ?_; rintro w4 hb4 hc4; have HB4 := Lib.hid hb4; have HX4 : Hid (Ext wr w4) := Lib.hid (((Chg.of_ext (S := fun _ => False) ((Ext.refl wr).alloc _)).trans hc4 (fun i hi e => by omega)).ext (fun _ _ e => e)); clear hb4 hc4))
          obtain ⟨bx, hbx⟩ : ∃ bx, bx = wr.heap.size := ⟨_, rfl⟩
          rw [← hbx] at HB4 ⊢
          clear hbx
          obtain ⟨lo, hi, gn, gs, gmn, gmx, ⟨gft, gfv, gfs⟩, ⟨glt, glv, gls⟩⟩ := bk
          obtain ⟨gh, hgh⟩ : ∃ x, x = gs / 18446744073709551616 := ⟨_, rfl⟩
          obtain ⟨gl, hgl⟩ : ∃ x, x = gs % 18446744073709551616 := ⟨_, rfl⟩
          have HBB : Hid (w4.heap[bx]? = some (.cells #[.int .i64 lo, .int .i64 hi, .int .i64 gn, .int .i64 gh, .int .u64 gl, .int .i64 gmn, .int .i64 gmx, .int .i64 gft, .int .i64 gfv, .int .i64 gfs, .int .i64 glt, .int .i64 glv, .int .i64 gls] 77 (0, 0))) := Lib.hid (by rw [hgh, hgl]; exact HB4.out)
          clear HB4
          have HLJ : Hid ((B.take j).length = j) := Lib.hid (by rw [List.length_take]; have := HLN.out; omega)
          have HP := Lib.hid (put_any (HI.out.1.ext HX4.out) lo ⟨gn, gs, gmn, gmx, ⟨gft, gfv, gfs⟩, ⟨glt, glv, gls⟩⟩ (64 * K * (B.take j).length) K HV.out HFB.out.1.lo (joinL_bnd HV.out _ (fun c hc => (HF.out c (List.mem_of_mem_take hc)).2)) HFB.out.2 HFB.out.1.had.n1 (by
            rw [HLJ.out]
            have h1 : 64 * K * j ≤ 64 * 1000 * 100 := Nat.mul_le_mul (by omega) (by omega)
            omega) (by have h1 := joinL_len (wd := wd) (st := st) (off := off) HV.out (B.take j); rw [HLJ.out] at h1; omega))
          unfold Ag.val at HP
          simp only at HP
          rw [← hgh, ← hgl] at HP
          clear hgh hgl
          have c0 : w4.cell? ⟨bx, 0, none⟩ = some (.int .i64 lo) := by have := cell_of_block HBB.out 0; simpa using this
          have c1 : w4.cell? ⟨bx, 1, none⟩ = some (.int .i64 hi) := by have := cell_of_block HBB.out 1; simpa using this
          have c2 : w4.cell? ⟨bx, 2, none⟩ = some (.int .i64 gn) := by have := cell_of_block HBB.out 2; simpa using this
          have c3 : w4.cell? ⟨bx, 3, none⟩ = some (.int .i64 gh) := by have := cell_of_block HBB.out 3; simpa using this
          have c4 : w4.cell? ⟨bx, 4, none⟩ = some (.int .u64 gl) := by have := cell_of_block HBB.out 4; simpa using this
          have c5 : w4.cell? ⟨bx, 5, none⟩ = some (.int .i64 gmn) := by have := cell_of_block HBB.out 5; simpa using this
          have c6 : w4.cell? ⟨bx, 6, none⟩ = some (.int .i64 gmx) := by have := cell_of_block HBB.out 6; simpa using this
          have c7 : w4.cell? ⟨bx, 7, none⟩ = some (.int .i64 gft) := by have := cell_of_block HBB.out 7; simpa using this
          have c8 : w4.cell? ⟨bx, 8, none⟩ = some (.int .i64 gfv) := by have := cell_of_block HBB.out 8; simpa using this
          have c9 : w4.cell? ⟨bx, 9, none⟩ = some (.int .i64 gfs) := by have := cell_of_block HBB.out 9; simpa using this
          have c10 : w4.cell? ⟨bx, 10, none⟩ = some (.int .i64 glt) := by have := cell_of_block HBB.out 10; simpa using this
          have c11 : w4.cell? ⟨bx, 11, none⟩ = some (.int .i64 glv) := by have := cell_of_block HBB.out 11; simpa using this
          have c12 : w4.cell? ⟨bx, 12, none⟩ = some (.int .i64 gls) := by have := cell_of_block HBB.out 12; simpa using this
          go_wp2_with fail
          refine HP.out.mono ?_
          rintro e w6 ⟨rfl, hg6, hc6⟩
          have HG6 : Hid (GatAt w6 g mb wd st off (joinL wd st off (B.take (j + 1)))) := Lib.hid (by rw [HTK.out]; exact hg6)
          have HX6 : Hid (Ext w w6) := Lib.hid (((Chg.of_ext (S := fun _ => False) (HI.out.2.trans HX4.out)).trans hc6 (fun i hi e => by have := HSZ.out; omega)).ext (fun _ _ e => e))
          clear hg6 hc6 c0 c1 c2 c3 c4 c5 c6 c7 c8 c9 c10 c11 c12
          go_wp2_with fail
          exact ⟨⟨j + 1, by omega, by go_num, Lib.hid ⟨HG6.out, HX6.out⟩⟩, by simp [RowKit.intOf]; omega⟩
        · have HKN : Hid (B.take j = B) := Lib.hid (by rw [List.take_of_length_le (by have := HLN.out; omega)])
          rw [HKN.out] at HI
          have hd1 : decide ((j : Int) < (k : Int)) = false := by simp; omega
          go_wp2_with fail
          refine (buckets_any HI.out.1 HV.out (fun q hq => ?_) (by have := joinL_len (wd := wd) (st := st) (off := off) HV.out B; have := HLN.out; omega)).mono ?_
          · obtain ⟨b, hb, x, hx, e⟩ := joinL_keys B q hq
            have hv := window_nums HV.out
            have h1 := (mem_winL hv.2.2.1 hv.2.2.2.1).1 hx
            have h3 := time_nums (HF.out b hb).1.lo
            omega
          rintro e w7 ⟨v, rfl, hto⟩
          have HTO := Lib.hid (hto.mono HI.out.2)
          clear hto
          go_wp2_with fail
          go_ret2
          exact ⟨_, rfl, HTO.out⟩
end Go.Proofs.YtokllgdbmnmieaaGreat

/-! BucketsFit: the small buckets fit. -/

namespace Go.Proofs.YtokllgdbmnmieaaGreat
open Go.RowKit Go.Lib Go.Sort

theorem spans_rise {st : Int} (h : 1 ≤ st) (n : Nat) (a wd : Int) : (spansL n a wd st).Pairwise (fun x y => x.1 < y.1) := by
  unfold spansL
  rw [List.pairwise_map]
  refine List.pairwise_lt_range.imp (fun {i j} hij => ?_)
  have h1 : ((i : Int) + 1) * st ≤ (j : Int) * st := Int.mul_le_mul_of_nonneg_right (by omega) (by omega)
  rw [Int.add_mul, Int.one_mul] at h1
  show a + (i : Int) * st < a + (j : Int) * st
  omega
theorem spans_unique (A B : List (Int × Int)) (h1 : A.Pairwise (fun x y => x.1 < y.1)) (h2 : B.Pairwise (fun x y => x.1 < y.1)) (h : ∀ q, q ∈ A ↔ q ∈ B) : A = B :=
  pairs_unique A B (List.pairwise_map.2 h1) (List.pairwise_map.2 h2) h

theorem small_fits {wi W S O : Int} (H : Kinds wi W S O) {l : List Pt} (hl : l.length ≤ 60) (hp : ∀ p ∈ l, -9223372036854775808 ≤ p.v ∧ p.v ≤ 9223372036854775807) (ht : ∀ p ∈ l, -1152921504606846912 ≤ p.t ∧ p.t ≤ 1152921504606846912) {B : List Bk} (hB : SmallB wi l B) :
    (∀ b ∈ B, FitsB W S O b ∧ b.a.bnd 60) ∧ B.Pairwise (fun a b => a.hi ≤ b.lo) := by
  have hv := window_nums H.win
  have hw1 := H.w1
  have hw2 := H.w2
  refine ⟨fun b hb => ?_, ?_⟩
  · obtain ⟨h1, h2, h3, h4⟩ := hB.lo b hb
    have hsub : ∀ p ∈ l.filter (fun p => inW wi wi 0 b.lo p.t), p ∈ l := fun p hp => (List.mem_filter.1 hp).1
    have hlen := List.length_filter_le (fun p : Pt => inW wi wi 0 b.lo p.t) l
    obtain ⟨p, hpm⟩ := List.exists_mem_of_ne_nil _ h4
    have hin := (List.mem_filter.1 hpm).2
    have hpt := ht p (hsub p hpm)
    unfold inW at hin
    simp only [Bool.and_eq_true, decide_eq_true_eq] at hin
    refine ⟨⟨by rw [h3]; exact agA_had _ h4 (by omega) (fun q hq => hp q (hsub q hq)), ?_, ?_, ?_, by omega, ?_⟩, by rw [h3]; exact (agA_bnd _ (fun q hq => hp q (hsub q hq))).mono (by omega)⟩
    · unfold timeB; simp only [Bool.and_eq_true, decide_eq_true_eq]; omega
    · unfold timeB; simp only [Bool.and_eq_true, decide_eq_true_eq]; omega
    · unfold timeB; simp only [Bool.and_eq_true, decide_eq_true_eq]; omega
    · have hsame : ∀ z, inW W S O z b.lo = inW W S O z (b.hi - 1) := fun z => inW_mul H.w1 H.mS H.mO H.mW hv.2.2.1 h1 (by unfold inW; simp only [Bool.and_eq_true, decide_eq_true_eq]; refine ⟨⟨by rw [h1]; simp, by omega⟩, by omega⟩)
      have hkeys : ∀ z, z ∈ (winL W S O b.lo).map (·.1) ↔ z ∈ (winL W S O (b.hi - 1)).map (·.1) := fun z => by
        have e1 := inW_mem (wd := W) (st := S) (off := O) (z := z) (t := b.lo) hv.2.2.1 hv.2.2.2.1
        have e2 := inW_mem (wd := W) (st := S) (off := O) (z := z) (t := b.hi - 1) hv.2.2.1 hv.2.2.2.1
        rw [hsame z, ← e2] at e1
        simpa using e1
      have hpw : ∀ t, (winL W S O t).Pairwise (fun a b => a.1 < b.1) := fun t => by
        have hst := hv.2.2.1
        unfold winL
        exact spans_rise hst _ _ _
      have hmem : ∀ t x, x ∈ winL W S O t → x.2 = x.1 + W := fun t x hx => ((mem_winL hv.2.2.1 hv.2.2.2.1).1 hx).2.2.2
      refine spans_unique _ _ (hpw _) (hpw _) (fun x => ?_)
      constructor
      · intro hx
        obtain ⟨y, hy, e⟩ := List.mem_map.1 ((hkeys x.1).1 (List.mem_map.2 ⟨x, hx, rfl⟩))
        have a1 := hmem _ _ hx
        have a2 := hmem _ _ hy
        have : y = x := Prod.ext e (by rw [a1, a2, e])
        rw [← this]; exact hy
      · intro hx
        obtain ⟨y, hy, e⟩ := List.mem_map.1 ((hkeys x.1).2 (List.mem_map.2 ⟨x, hx, rfl⟩))
        have a1 := hmem _ _ hx
        have a2 := hmem _ _ hy
        have : y = x := Prod.ext e (by rw [a1, a2, e])
        rw [← this]; exact hy
  · refine (List.pairwise_iff_forall_sublist.2 fun {a b} hs => ?_)
    have hr := List.pairwise_iff_forall_sublist.1 hB.rise hs
    obtain ⟨h1, h2, _⟩ := hB.lo a (hs.subset (by simp))
    obtain ⟨h3, _⟩ := hB.lo b (hs.subset (by simp))
    obtain ⟨x, hx⟩ := Int.dvd_of_emod_eq_zero h1
    obtain ⟨y, hy⟩ := Int.dvd_of_emod_eq_zero h3
    have h5 : wi * x < wi * y := by rw [← hx, ← hy]; exact hr
    have h6 : x < y := Int.lt_of_mul_lt_mul_left h5 (by omega)
    have h7 : wi * (x + 1) ≤ wi * y := Int.mul_le_mul_of_nonneg_left (by omega) (by omega)
    rw [Int.mul_add, ← hx, ← hy] at h7
    omega
end Go.Proofs.YtokllgdbmnmieaaGreat

/-! Plain: points and buckets side by side, joined in windows, are the windows of all points. -/

namespace Go.Proofs.YtokllgdbmnmieaaGreat
open Go.RowKit Go.Lib Go.Sort

/-- Does a bucket have a point's time? -/
def inB (b : Bk) (p : Pt) : Bool := decide (b.lo ≤ p.t) && decide (p.t < b.hi)
theorem inB_iff {b : Bk} {p : Pt} : inB b p = true ↔ b.lo ≤ p.t ∧ p.t < b.hi := by unfold inB; simp

/-- Buckets side by side that have each point once, none of them cut by a window. -/
structure PartB (wd st off : Int) (l : List Pt) (B : List Bk) : Prop where
  ag : ∀ b ∈ B, b.a = agA (l.filter (inB b)) ∧ l.filter (inB b) ≠ []
  side : B.Pairwise (fun a b => a.hi ≤ b.lo)
  all : ∀ p ∈ l, ∃ b ∈ B, inB b p = true
  lies : ∀ b ∈ B, ∀ z, ∀ p ∈ l, inB b p = true → inW wd st off z b.lo = inW wd st off z p.t

theorem fold_parts (l : List Pt) : ∀ (B : List Bk), (∀ b ∈ B, b.a = agA (l.filter (inB b)) ∧ l.filter (inB b) ≠ []) →
    B.Pairwise (fun a b => ∀ p ∈ l, inB a p = true → inB b p = true → False) →
    foldA (·.a) B = agA (l.filter (fun p => B.any (fun b => inB b p))) ∧ (B ≠ [] → l.filter (fun p => B.any (fun b => inB b p)) ≠ []) := by
  intro B
  refine snoc_ind (P := fun B => (∀ b ∈ B, b.a = agA (l.filter (inB b)) ∧ l.filter (inB b) ≠ []) →
    B.Pairwise (fun a b => ∀ p ∈ l, inB a p = true → inB b p = true → False) →
    foldA (·.a) B = agA (l.filter (fun p => B.any (fun b => inB b p))) ∧ (B ≠ [] → l.filter (fun p => B.any (fun b => inB b p)) ≠ [])) (fun _ _ => ⟨by rw [List.filter_eq_nil_iff.2 (by simp)]; rfl, fun h => absurd rfl h⟩) (fun B b ih h1 h2 => ?_) B
  rw [List.pairwise_append] at h2
  obtain ⟨i1, i2⟩ := ih (fun c hc => h1 c (by simp [hc])) h2.1
  obtain ⟨j1, j2⟩ := h1 b (by simp)
  have e : foldA (·.a) (B ++ [b]) = agM (foldA (·.a) B) b.a := by simp [foldA]
  have hper := perm_or (fun p => B.any (fun b => inB b p)) (fun p => inB b p) l (fun p hp k1 k2 => by
    rw [List.any_eq_true] at k1
    obtain ⟨c, hc, k1⟩ := k1
    exact h2.2.2 c hc b (by simp) p hp k1 k2)
  have ef : (fun p : Pt => (B ++ [b]).any (fun b => inB b p)) = fun p => (B.any (fun b => inB b p)) || inB b p := by funext p; simp
  rw [e, i1, j1, ef]
  refine ⟨?_, fun _ hn => ?_⟩
  · rw [← agA_append _ _ j2]
    exact agA_perm hper
  · rw [hn] at hper
    have := hper.eq_nil
    rw [List.append_eq_nil_iff] at this
    exact j2 this.2

theorem join_parts {wd st off : Int} (hv1 : 1 ≤ st) (hv2 : st ≤ wd) {l : List Pt} {B : List Bk} (H : PartB wd st off l B) (z : Int) :
    aget (joinL wd st off B) z = aget (gatL wd st off l) z := by
  unfold joinL
  rw [gatL_gen, genL_get _ _ (fun p => winL_nodup (by omega)), genL_get _ _ (fun p => winL_nodup (by omega)), foldA_agA]
  have e1 : (fun x : Pt => decide (z ∈ (winL wd st off x.t).map (·.1))) = fun p : Pt => inW wd st off z p.t := by funext p; exact inW_mem hv1 hv2
  have e2 : (fun x : Bk => decide (z ∈ (winL wd st off x.lo).map (·.1))) = fun b : Bk => inW wd st off z b.lo := by funext p; exact inW_mem hv1 hv2
  rw [e1, e2]
  obtain ⟨f1, f2⟩ := fold_parts l (B.filter (fun b => inW wd st off z b.lo)) (fun b hb => H.ag b (List.mem_filter.1 hb).1) ((H.side.filter _).imp (fun {a b} h p _ k1 k2 => by
    rw [inB_iff] at k1 k2
    omega))
  have ef : l.filter (fun p => (B.filter (fun b => inW wd st off z b.lo)).any (fun b => inB b p)) = l.filter (fun p => inW wd st off z p.t) := by
    refine List.filter_congr (fun p hp => ?_)
    rw [Bool.eq_iff_iff, List.any_eq_true]
    constructor
    · rintro ⟨b, hb, hin⟩
      obtain ⟨hb1, hb2⟩ := List.mem_filter.1 hb
      rw [← H.lies b hb1 z p hp hin]
      exact hb2
    · intro hz
      obtain ⟨b, hb, hin⟩ := H.all p hp
      refine ⟨b, List.mem_filter.2 ⟨hb, ?_⟩, hin⟩
      show inW wd st off z b.lo = true
      rw [H.lies b hb z p hp hin]
      exact hz
  rw [ef] at f1 f2
  rw [f1]
  by_cases hB : B.filter (fun b => inW wd st off z b.lo) = []
  · rw [if_pos hB, if_pos ?_]
    rw [← ef, hB]
    simp
  · rw [if_neg hB, if_neg (f2 hB)]

/-! Buckets of a width from an offset on. -/
theorem inW_shift (o wd st off z t : Int) : inW wd st off z t = inW wd st (off - o) (z - o) (t - o) := by
  unfold inW
  have e : (z % st = off % st) ↔ ((z - o) % st = (off - o) % st) := by
    rw [Int.emod_eq_emod_iff_emod_sub_eq_zero, Int.emod_eq_emod_iff_emod_sub_eq_zero (m := z - o), show z - o - (off - o) = z - off by omega]
  rw [Bool.eq_iff_iff]
  simp only [Bool.and_eq_true, decide_eq_true_eq]
  rw [← e]
  constructor
  · rintro ⟨⟨h1, h2⟩, h3⟩; exact ⟨⟨h1, by omega⟩, by omega⟩
  · rintro ⟨⟨h1, h2⟩, h3⟩; exact ⟨⟨h1, by omega⟩, by omega⟩
theorem inW_mulo {wi o p st off z t : Int} (hw : 1 ≤ wi) (h1 : st % wi = 0) (h2 : (off - o) % wi = 0) (h3 : p % wi = 0) (hst : 1 ≤ st) {lo : Int} (hlo : (lo - o) % wi = 0) (hin : inW wi wi o lo t = true) : inW p st off z lo = inW p st off z t := by
  rw [inW_shift o p st off z lo, inW_shift o p st off z t]
  refine inW_mul hw h1 h2 h3 hst hlo ?_
  rw [inW_shift o wi wi o lo t, Int.sub_self] at hin
  exact hin
theorem winL_same {W S O x y : Int} (hst : 1 ≤ S) (hw : S ≤ W) (h : ∀ z, inW W S O z x = inW W S O z y) : winL W S O x = winL W S O y := by
  have hkeys : ∀ z, z ∈ (winL W S O x).map (·.1) ↔ z ∈ (winL W S O y).map (·.1) := fun z => by
    have e1 := inW_mem (wd := W) (st := S) (off := O) (z := z) (t := x) hst hw
    have e2 := inW_mem (wd := W) (st := S) (off := O) (z := z) (t := y) hst hw
    rw [h z, ← e2] at e1
    simpa using e1
  have hpw : ∀ t, (winL W S O t).Pairwise (fun a b => a.1 < b.1) := fun t => by
    unfold winL
    exact spans_rise hst _ _ _
  have hmem : ∀ t x, x ∈ winL W S O t → x.2 = x.1 + W := fun t x hx => ((mem_winL hst hw).1 hx).2.2.2
  refine spans_unique _ _ (hpw _) (hpw _) (fun q => ?_)
  constructor
  · intro hx
    obtain ⟨q', hy, e⟩ := List.mem_map.1 ((hkeys q.1).1 (List.mem_map.2 ⟨q, hx, rfl⟩))
    have a1 := hmem _ _ hx
    have a2 := hmem _ _ hy
    have : q' = q := Prod.ext e (by rw [a1, a2, e])
    rw [← this]; exact hy
  · intro hx
    obtain ⟨q', hy, e⟩ := List.mem_map.1 ((hkeys q.1).2 (List.mem_map.2 ⟨q, hx, rfl⟩))
    have a1 := hmem _ _ hx
    have a2 := hmem _ _ hy
    have : q' = q := Prod.ext e (by rw [a1, a2, e])
    rw [← this]; exact hy

/-- A tier's buckets of a span. -/
structure TierB (wi o a b : Int) (l : List Pt) (B : List Bk) : Prop where
  lo : ∀ x ∈ B, (x.lo - o) % wi = 0 ∧ x.hi = x.lo + wi ∧ a ≤ x.lo ∧ x.hi ≤ b ∧ x.a = agA (l.filter (inB x)) ∧ l.filter (inB x) ≠ []
  rise : B.Pairwise (fun x y => x.hi ≤ y.lo)
  all : ∀ p ∈ l, a ≤ p.t → p.t < b → ∃ x ∈ B, inB x p = true
theorem tier_none (wi o a : Int) (l : List Pt) : TierB wi o a a l [] :=
  ⟨fun _ h => (List.not_mem_nil h).elim, List.Pairwise.nil, fun p _ h1 h2 => by omega⟩

def midP (a b : Int) (p : Pt) : Bool := decide (a ≤ p.t) && decide (p.t < b)
theorem al_le {wi o x y : Int} (hw : 1 ≤ wi) (hx : (x - o) % wi = 0) (hy : (y - o) % wi = 0) (h : x < y) : x + wi ≤ y := by
  obtain ⟨c, hc⟩ := Int.dvd_of_emod_eq_zero hx
  obtain ⟨d, hd⟩ := Int.dvd_of_emod_eq_zero hy
  have h6 : c < d := Int.lt_of_mul_lt_mul_left (a := wi) (by omega) (by omega)
  have h7 : wi * (c + 1) ≤ wi * d := Int.mul_le_mul_of_nonneg_left (by omega) (by omega)
  rw [Int.mul_add] at h7
  omega
theorem tier_of {wi o a b : Int} (hw : 1 ≤ wi) (ha : (a - o) % wi = 0) (hb : (b - o) % wi = 0) (l : List Pt) {ds : List (Int × Ag)} (hp : ds.Perm (gatL wi wi o (l.filter (midP a b)))) (hs : (ds.map (·.1)).Pairwise (· ≤ ·)) : TierB wi o a b l (ds.map (bkOf wi)) := by
  have hn : (ds.map (·.1)).Nodup := (hp.map _).nodup_iff.2 (gatL_nodup _)
  have hget : ∀ z, aget (gatL wi wi o (l.filter (midP a b))) z = if (l.filter (midP a b)).filter (fun p => inW wi wi o z p.t) = [] then none else some (agA ((l.filter (midP a b)).filter (fun p => inW wi wi o z p.t))) := fun z => by
    rw [gatL_gen, genL_get _ _ (fun p => winL_nodup (by omega))]
    have e : (fun x : Pt => decide (z ∈ (winL wi wi o x.t).map (·.1))) = fun p : Pt => inW wi wi o z p.t := by funext p; exact inW_mem hw (Int.le_refl _)
    rw [e, foldA_agA]
  have key : ∀ q ∈ ds, (q.1 - o) % wi = 0 ∧ a ≤ q.1 ∧ q.1 + wi ≤ b := fun q hq => by
    obtain ⟨p, hpl, x, hx, e⟩ := gatL_keys _ _ (hp.subset hq)
    have h3 := (mem_winL hw (Int.le_refl _)).1 hx
    obtain ⟨_, hpm⟩ := List.mem_filter.1 hpl
    unfold midP at hpm
    simp only [Bool.and_eq_true, decide_eq_true_eq] at hpm
    have h4 : (q.1 - o) % wi = 0 := by rw [← e]; exact Int.emod_eq_emod_iff_emod_sub_eq_zero.1 h3.1
    refine ⟨h4, ?_, ?_⟩
    · rcases Int.lt_or_le q.1 a with h | h
      · have := al_le hw h4 ha h; omega
      · exact h
    · exact al_le hw h4 hb (by omega)
  have filt : ∀ z, (z - o) % wi = 0 → a ≤ z → z + wi ≤ b → ∀ g, (l.filter (midP a b)).filter (fun p => inW wi wi o z p.t) = l.filter (inB ⟨z, z + wi, g⟩) := fun z h1 h2 h3 g => by
    rw [List.filter_filter]
    refine List.filter_congr (fun p _ => ?_)
    rw [Bool.eq_iff_iff]
    unfold inW midP inB
    simp only [Bool.and_eq_true, decide_eq_true_eq]
    constructor
    · rintro ⟨⟨⟨_, h5⟩, h6⟩, h7⟩; omega
    · rintro ⟨h5, h6⟩; exact ⟨⟨⟨Int.emod_eq_emod_iff_emod_sub_eq_zero.2 h1, by omega⟩, by omega⟩, by omega, by omega⟩
  refine ⟨fun x hx => ?_, ?_, fun p hp' h1 h2 => ?_⟩
  · obtain ⟨⟨z, g⟩, hq, rfl⟩ := List.mem_map.1 hx
    obtain ⟨k1, k2, k3⟩ := key _ hq
    have h1 := aget_of_mem (gatL_nodup _) (hp.subset hq)
    rw [hget] at h1
    simp only at k1 k2 k3
    rw [filt z k1 k2 k3 g] at h1
    split at h1
    · cases h1
    · rename_i hne
      exact ⟨k1, rfl, k2, k3, (Option.some.inj h1).symm, hne⟩
  · have hlt : ds.Pairwise (fun p q => p.1 < q.1) := by
      have := (hs.and hn).imp (S := (· < ·)) (fun {x y} h => by have := h.1; have := h.2; omega)
      rw [List.pairwise_map] at this
      exact this
    rw [List.pairwise_map]
    have hm : ds.Pairwise (fun p q => p ∈ ds ∧ q ∈ ds ∧ p.1 < q.1) := List.pairwise_iff_forall_sublist.2 fun {x y} hs => ⟨hs.subset (by simp), hs.subset (by simp), List.pairwise_iff_forall_sublist.1 hlt hs⟩
    exact hm.imp (fun {x y} h => al_le hw (key x h.1).1 (key y h.2.1).1 h.2.2)
  · have hin0 : p ∈ l.filter (midP a b) := List.mem_filter.2 ⟨hp', by unfold midP; simp only [Bool.and_eq_true, decide_eq_true_eq]; exact ⟨h1, h2⟩⟩
    have h4 := Int.mul_ediv_self_le (x := p.t - o) (k := wi) (by omega)
    have h5 := Int.lt_mul_ediv_self_add (x := p.t - o) (k := wi) (by omega)
    have hz : (o + wi * ((p.t - o) / wi)) % wi = o % wi := by rw [Int.add_mul_emod_self_left]
    have hin : inW wi wi o (o + wi * ((p.t - o) / wi)) p.t = true := by
      unfold inW
      simp only [Bool.and_eq_true, decide_eq_true_eq]
      exact ⟨⟨hz, by omega⟩, by omega⟩
    have h6 := hget (o + wi * ((p.t - o) / wi))
    rw [if_neg (fun e => by
      have h7 : p ∈ (l.filter (midP a b)).filter (fun q => inW wi wi o (o + wi * ((p.t - o) / wi)) q.t) := List.mem_filter.2 ⟨hin0, hin⟩
      rw [e] at h7
      simp at h7)] at h6
    have h8 := hp.symm.subset (aget_mem h6)
    refine ⟨_, List.mem_map.2 ⟨_, h8, rfl⟩, ?_⟩
    rw [inB_iff]
    show o + wi * ((p.t - o) / wi) ≤ p.t ∧ p.t < o + wi * ((p.t - o) / wi) + wi
    omega

/-- A point, as a bucket. -/
def oneB (p : Pt) : Bk := ⟨p.t, p.t + 1, agOf p⟩
def outP (a b : Int) (p : Pt) : Bool := decide (p.t < a) || decide (b ≤ p.t)
theorem filter_one : ∀ (l : List Pt), l.Pairwise (fun p q => p.t < q.t) → ∀ p ∈ l, l.filter (inB (oneB p)) = [p]
  | [], _, _, h => (List.not_mem_nil h).elim
  | x :: l, hp, p, h => by
    rw [List.pairwise_cons] at hp
    rcases List.mem_cons.1 h with rfl | h
    · rw [List.filter_cons_of_pos (inB_iff.2 (by unfold oneB; simp only; omega)), List.filter_eq_nil_iff.2 (fun q hq => ?_)]
      rw [inB_iff]
      have := hp.1 q hq
      unfold oneB
      simp only
      omega
    · have := hp.1 p h
      rw [List.filter_cons_of_neg (by rw [inB_iff]; unfold oneB; simp only; omega)]
      exact filter_one l hp.2 p h

theorem parts_all {wd st off wi o a b : Int} (hw : 1 ≤ wi) (hst : 1 ≤ st) (m1 : st % wi = 0) (m2 : (off - o) % wi = 0) (m3 : wd % wi = 0) {l : List Pt} (hr : l.Pairwise (fun p q => p.t < q.t)) {B : List Bk} (H : TierB wi o a b l B)
    {E : List Bk} (hE : E.Perm (B ++ (l.filter (outP a b)).map oneB)) (hs : E.Pairwise (fun x y => x.lo ≤ y.lo)) : PartB wd st off l E := by
  have mem : ∀ e ∈ E, e ∈ B ∨ ∃ p ∈ l, outP a b p = true ∧ e = oneB p := fun e he => by
    rcases List.mem_append.1 (hE.subset he) with h | h
    · exact .inl h
    · obtain ⟨p, hp, rfl⟩ := List.mem_map.1 h
      exact .inr ⟨p, (List.mem_filter.1 hp).1, (List.mem_filter.1 hp).2, rfl⟩
  refine ⟨fun e he => ?_, ?_, fun p hp => ?_, fun e he z p hp hin => ?_⟩
  · rcases mem e he with h | ⟨p, hp, _, rfl⟩
    · exact ⟨(H.lo e h).2.2.2.2.1, (H.lo e h).2.2.2.2.2⟩
    · rw [filter_one l hr p hp, agA_one]
      exact ⟨rfl, by simp⟩
  · have hd : (B ++ (l.filter (outP a b)).map oneB).Pairwise (fun x y => x.hi ≤ y.lo ∨ y.hi ≤ x.lo) := by
      rw [List.pairwise_append]
      refine ⟨H.rise.imp (fun h => .inl h), ?_, fun x hx y hy => ?_⟩
      · rw [List.pairwise_map]
        exact (hr.filter _).imp (fun {p q} h => .inl (show p.t + 1 ≤ q.t by omega))
      · obtain ⟨p, hp, rfl⟩ := List.mem_map.1 hy
        have h1 := H.lo x hx
        have h2 := (List.mem_filter.1 hp).2
        unfold outP at h2
        simp only [Bool.or_eq_true, decide_eq_true_eq] at h2
        show x.hi ≤ p.t ∨ p.t + 1 ≤ x.lo
        omega
    have hd2 := (hE.pairwise_iff (R := fun x y : Bk => x.hi ≤ y.lo ∨ y.hi ≤ x.lo) (fun {x y} h => h.symm)).2 hd
    have hpos : ∀ e ∈ E, e.lo < e.hi := fun e he => by
      rcases mem e he with h | ⟨p, _, _, rfl⟩
      · have := H.lo e h; omega
      · show p.t < p.t + 1; omega
    have hm : E.Pairwise (fun x y => x ∈ E ∧ y ∈ E ∧ (x.hi ≤ y.lo ∨ y.hi ≤ x.lo) ∧ x.lo ≤ y.lo) := List.pairwise_iff_forall_sublist.2 fun {x y} k => ⟨k.subset (by simp), k.subset (by simp), List.pairwise_iff_forall_sublist.1 hd2 k, List.pairwise_iff_forall_sublist.1 hs k⟩
    refine hm.imp (fun {x y} h => ?_)
    have := hpos x h.1
    have := hpos y h.2.1
    omega
  · by_cases ho : outP a b p = true
    · exact ⟨oneB p, hE.symm.subset (List.mem_append.2 (.inr (List.mem_map.2 ⟨p, List.mem_filter.2 ⟨hp, ho⟩, rfl⟩))), inB_iff.2 ⟨Int.le_refl _, show p.t < p.t + 1 by omega⟩⟩
    · unfold outP at ho
      simp only [Bool.or_eq_true, decide_eq_true_eq, not_or, Int.not_lt, Int.not_le] at ho
      obtain ⟨x, hx, hin⟩ := H.all p hp ho.1 ho.2
      exact ⟨x, hE.symm.subset (List.mem_append.2 (.inl hx)), hin⟩
  · rw [inB_iff] at hin
    rcases mem e he with h | ⟨q, hq, _, rfl⟩
    · obtain ⟨h1, h2, _⟩ := H.lo e h
      refine inW_mulo hw m1 m2 m3 hst h1 ?_
      unfold inW
      simp only [Bool.and_eq_true, decide_eq_true_eq]
      exact ⟨⟨Int.emod_eq_emod_iff_emod_sub_eq_zero.2 h1, by omega⟩, by omega⟩
    · have : q.t = p.t := by unfold oneB at hin; simp only at hin; omega
      show inW wd st off z q.t = inW wd st off z p.t
      rw [this]

/-- They fit. -/
theorem parts_fit {wd st off wi o a b fr tO : Int} (hv : windowB wd st off = true) (hw : 1 ≤ wi) (m1 : st % wi = 0) (m2 : (off - o) % wi = 0) (m3 : wd % wi = 0) {l : List Pt} (hr : l.Pairwise (fun p q => p.t < q.t)) {B : List Bk} (H : TierB wi o a b l B)
    (hfr : -1152921504606846976 ≤ fr) (hto : tO ≤ 1152921504606846976) (ha : fr ≤ a) (hb : b ≤ tO) (hl : l.length ≤ 1000000) (hp : ∀ p ∈ l, fr ≤ p.t ∧ p.t < tO ∧ -9223372036854775808 ≤ p.v ∧ p.v ≤ 9223372036854775807)
    {E : List Bk} (hE : E.Perm (B ++ (l.filter (outP a b)).map oneB)) : ∀ e ∈ E, FitsB wd st off e ∧ e.a.bnd l.length ∧ fr ≤ e.lo ∧ e.hi ≤ tO := by
  have hv' := window_nums hv
  have ag := (parts_all (wd := wd) (st := st) (off := off) hw hv'.2.2.1 m1 m2 m3 hr H (E := (B ++ (l.filter (outP a b)).map oneB).mergeSort (fun x y => decide (x.lo ≤ y.lo))) (List.mergeSort_perm _ _)
    ((List.pairwise_mergeSort (le := fun x y : Bk => decide (x.lo ≤ y.lo)) (fun x y z => by simp; omega) (fun x y => by simp; omega) _).imp (fun {x y} h => by simpa using h))).ag
  intro e he
  have he2 := hE.subset he
  have hag := ag e ((List.mergeSort_perm _ _).symm.subset he2)
  have hsub : ∀ p ∈ l.filter (inB e), p ∈ l := fun p hp => (List.mem_filter.1 hp).1
  have hlen := List.length_filter_le (inB e) l
  have hbd : fr ≤ e.lo ∧ e.hi ≤ tO ∧ e.lo < e.hi ∧ ∀ z, inW wd st off z e.lo = inW wd st off z (e.hi - 1) := by
    rcases List.mem_append.1 he2 with h | h
    · obtain ⟨h1, h2, h3, h4, _⟩ := H.lo e h
      refine ⟨by omega, by omega, by omega, fun z => inW_mulo hw m1 m2 m3 hv'.2.2.1 h1 ?_⟩
      unfold inW
      simp only [Bool.and_eq_true, decide_eq_true_eq]
      exact ⟨⟨Int.emod_eq_emod_iff_emod_sub_eq_zero.2 h1, by omega⟩, by omega⟩
    · obtain ⟨p, hpm, rfl⟩ := List.mem_map.1 h
      have := hp p (List.mem_filter.1 hpm).1
      refine ⟨this.1, show p.t + 1 ≤ tO by omega, show p.t < p.t + 1 by omega, fun z => ?_⟩
      show inW wd st off z p.t = inW wd st off z (p.t + 1 - 1)
      rw [show p.t + 1 - 1 = p.t by omega]
  obtain ⟨b1, b2, b3, b4⟩ := hbd
  refine ⟨⟨by rw [hag.1]; exact agA_had _ hag.2 (by omega) (fun q hq => (hp q (hsub q hq)).2.2), ?_, ?_, ?_, b3, winL_same hv'.2.2.1 hv'.2.2.2.1 b4⟩, by rw [hag.1]; exact (agA_bnd _ (fun q hq => (hp q (hsub q hq)).2.2)).mono hlen, b1, b2⟩
  · unfold timeB; simp only [Bool.and_eq_true, decide_eq_true_eq]; omega
  · unfold timeB; simp only [Bool.and_eq_true, decide_eq_true_eq]; omega
  · unfold timeB; simp only [Bool.and_eq_true, decide_eq_true_eq]; omega
end Go.Proofs.YtokllgdbmnmieaaGreat

/-! rollup.Roll of any span, at any offset. -/

namespace Go.Proofs.YtokllgdbmnmieaaGreat
open Go.RowKit Go.Lib Go.Sort

theorem filter_snoc_yes {α : Type} {f : α → Bool} (l : List α) {k : Nat} {p : α} (h : l[k]? = some p) (hp : f p = true) : (l.take (k + 1)).filter f = (l.take k).filter f ++ [p] := by
  rw [List.take_add_one, h]; simp [hp]
theorem filter_snoc_no {α : Type} {f : α → Bool} (l : List α) {k : Nat} {p : α} (h : l[k]? = some p) (hp : f p = false) : (l.take (k + 1)).filter f = (l.take k).filter f := by
  rw [List.take_add_one, h]; simp [hp]

set_option maxHeartbeats 8000000 in
set_option maxRecDepth 100000 in
theorem rollg_any (w : World) (a : Option Addr) (n c : Nat) (l : List Pt) (wd off fr hi : Int) (hl : Src w 3 (.slice a n c) n (pts l)) (hn : n ≤ 900) (hv : windowB wd wd off = true)
    (hfr : -1152921504606846976 ≤ fr) (hle : fr ≤ hi) (hhi : hi ≤ 1152921504606846976) (m1 : (fr - off) % wd = 0) (m2 : (hi - off) % wd = 0)
    (hp : ∀ p ∈ l, -1152921504606846976 ≤ p.t ∧ p.t ≤ 1152921504606846976 ∧ (-9223372036854775808 ≤ p.v ∧ p.v ≤ 9223372036854775807)) :
    Calls Tryz.prog 9 #[.slice a n c, .int .i64 wd, .int .i64 off, .agg #[.int .i64 fr, .int .i64 hi]] w fun e w' => ∃ v, e = .returned (.tuple #[v, .int .i64 0]) ∧ WinsTo w wd (gatL wd wd off (l.filter (midP fr hi))) v w' := by
  have HL := Lib.hid hl
  have HLN := Lib.hid (src_len hl)
  have HPV := Lib.hid hp
  have hvn := window_nums hv
  have r1 : (fr - off).tmod wd = 0 := Int.tmod_eq_zero_of_dvd (Int.dvd_of_emod_eq_zero m1)
  have r2 : (hi - off).tmod wd = 0 := Int.tmod_eq_zero_of_dvd (Int.dvd_of_emod_eq_zero m2)
  have hwd0 : ¬ wd = 0 := by omega
  have ho1 : 0 ≤ off := hvn.2.2.2.2.2.1
  have ho2 : off ≤ 1099511627776 := by omega
  have HV := Lib.hid hv
  have hnl : ¬ hi < fr := by omega
  obtain ⟨f, hf⟩ : ∃ f, f = midP fr hi := ⟨_, rfl⟩
  have HF : Hid (∀ p, f p = (decide (fr ≤ p.t) && decide (p.t < hi))) := Lib.hid (fun p => by rw [hf]; rfl)
  rw [← hf]
  clear hl hp hvn hv m1 m2 hf
  go_enter Tryz.func9, Tryz.ntmps9
  go_wp2_with fail
  refine (rkind_any wd off _).mono ?_
  rintro e w1 ⟨rfl, hx1⟩
  have HB0 : Hid (w1.heap[w.heap.size]? = some (.cells #[.int .i64 fr, .int .i64 hi] 52 (0, 0))) := Lib.hid (by
    have h0 := heap_alloc_new w (.cells #[.int .i64 fr, .int .i64 hi] 52 (0, 0))
    exact ((((Ext.refl _).alloc _).trans hx1).block (block_lt h0)).trans h0)
  have HB1 : Hid (w1.heap[w.heap.size + 1]? = some (.cells #[.int .i64 wd, .int .i64 off] 96 (0, 0))) := Lib.hid (by
    have h0 := heap_alloc2 w (.cells #[.int .i64 fr, .int .i64 hi] 52 (0, 0)) (.cells #[.int .i64 wd, .int .i64 off] 96 (0, 0))
    exact (hx1.block (block_lt h0)).trans h0)
  have HX1 := Lib.hid ((((Ext.refl w).alloc _).alloc _).trans hx1)
  clear hx1
  go_wp2_with fail
  refine (windowValid_any wd wd off _).mono ?_
  rintro e w2 ⟨rfl, hx2⟩
  rw [HV.out]
  have HX2 := Lib.hid (HX1.out.trans hx2)
  have HB2 := Lib.hid ((hx2.block (block_lt HB0.out)).trans HB0.out)
  have HB3 := Lib.hid ((hx2.block (block_lt HB1.out)).trans HB1.out)
  clear hx2 HX1 HB0 HB1
  have k0 : w2.cell? ⟨w.heap.size, 0, none⟩ = some (.int .i64 fr) := by have := cell_of_block HB2.out 0; simpa using this
  have k1 : w2.cell? ⟨w.heap.size, 1, none⟩ = some (.int .i64 hi) := by have := cell_of_block HB2.out 1; simpa using this
  go_wp2_with fail
  refine (rTime_any fr _ (by omega) (by omega)).mono ?_
  rintro e w3 ⟨rfl, rfl⟩
  go_wp2_with fail
  refine (rTime_any hi _ (by omega) (by omega)).mono ?_
  rintro e w3 ⟨rfl, rfl⟩
  go_wp2_with fail
  clear k0 k1 r1 r2
  go_loopw [11, 60] (fun s11 s60 wr => ∃ (k m vc : Nat) (va : Option Addr), k ≤ n ∧ m ≤ k ∧ s11 = .slice va m vc ∧ s60 = .int .i64 k ∧ Hid (MadeTo w2 37 3 (.slice va m vc) m (pts ((l.take k).filter f)) wr)) (fun _ i _ => n - (RowKit.intOf i).toNat)
  case atStart => exact ⟨0, 0, 0, none, by omega, by omega, rfl, rfl, Lib.hid ⟨Row.nil _ _ _, fun g hg => by simp [Value.ownBlock] at hg, Ext.refl w2⟩⟩
  case round =>
    obtain ⟨k, m, vc, va, hk, hm, rfl, rfl, HR⟩ := hrel
    by_cases hlt : k < n
    · obtain ⟨b, so, p, rfl, hp, c0, c1, c2⟩ := pts_src (HL.out.ext (HX2.out.trans HR.out.ext)) hlt
      have HPK := Lib.hid hp
      have hpv := HPV.out p (List.mem_of_getElem? hp)
      have HFP := Lib.hid (HF.out p)
      clear hp
      have k0 : ∀ o, (wr.alloc o).cell? ⟨w.heap.size, 0, none⟩ = some (.int .i64 fr) := fun o => by have := cell_of_block (((HR.out.ext.alloc o).block (block_lt HB2.out)).trans HB2.out) 0; simpa using this
      have k1 : ∀ o, (wr.alloc o).cell? ⟨w.heap.size, 1, none⟩ = some (.int .i64 hi) := fun o => by have := cell_of_block (((HR.out.ext.alloc o).block (block_lt HB2.out)).trans HB2.out) 1; simpa using this
      obtain ⟨pt, pv, ps⟩ := p
      simp only at c0 c1 c2 hpv HFP
      by_cases ha : pt < fr
      · have HNO : Hid (f ⟨pt, pv, ps⟩ = false) := Lib.hid (by rw [HFP.out]; simp; omega)
        clear hpv
        go_wp2_with fail
        refine ⟨⟨k + 1, m, vc, va, by omega, by omega, rfl, by go_num, Lib.hid ?_⟩, ?_⟩
        · rw [filter_snoc_no l HPK.out HNO.out]
          exact ⟨HR.out.row.alloc _, HR.out.own, HR.out.ext.alloc _⟩
        · simp [RowKit.intOf]; omega
      · by_cases hb : pt < hi
        · have HYES : Hid (f ⟨pt, pv, ps⟩ = true) := Lib.hid (by rw [HFP.out]; simp; omega)
          clear hpv
          go_wp2_with (first | (refine wpList_append_start elem_pt rfl _ _ rfl rfl rfl (Start.row (((HR.out.row).alloc _).alloc _) HR.out.own) ((HR.out.ext.alloc _).alloc _) (src_pt' (p := (⟨pt, pv, ps⟩ : Pt)) (heap_alloc2 wr _ _)) (by omega) (by unfold maxLen; omega) (by omega) ?_; rintro v' w5 ha; obtain ⟨va', vc', rfl⟩ := ha.row.shape; have HA := Lib.hid ha; clear ha))
          refine ⟨⟨k + 1, m + 1, vc', va', by omega, by omega, rfl, by go_num, Lib.hid ?_⟩, ?_⟩
          · rw [filter_snoc_yes l HPK.out HYES.out, pts_append]
            exact HA.out
          · simp [RowKit.intOf]; omega
        · have HNO : Hid (f ⟨pt, pv, ps⟩ = false) := Lib.hid (by rw [HFP.out]; simp; omega)
          clear hpv
          go_wp2_with fail
          refine ⟨⟨k + 1, m, vc, va, by omega, by omega, rfl, by go_num, Lib.hid ?_⟩, ?_⟩
          · rw [filter_snoc_no l HPK.out HNO.out]
            exact ⟨HR.out.row.alloc _, HR.out.own, HR.out.ext.alloc _⟩
          · simp [RowKit.intOf]; omega
    · have HKN : Hid (l.take k = l) := Lib.hid (by rw [List.take_of_length_le (by have := HLN.out; omega)])
      rw [HKN.out] at HR
      have hkn : k = n := by omega
      subst hkn
      have HBr := Lib.hid ((HR.out.ext.block (block_lt HB3.out)).trans HB3.out)
      have t0 : wr.cell? ⟨w.heap.size + 1, 0, none⟩ = some (.int .i64 wd) := by have := cell_of_block HBr.out 0; simpa using this
      have t1 : wr.cell? ⟨w.heap.size + 1, 1, none⟩ = some (.int .i64 off) := by have := cell_of_block HBr.out 1; simpa using this
      go_wp2_with fail
      refine (rkind_any wd off _).mono ?_
      rintro e w6 ⟨rfl, hx6⟩
      have HX6 := Lib.hid hx6
      clear hx6 t0 t1
      go_wp2_with fail
      refine (windows_any w6 va m vc (l.filter f) wd wd off ((HR.out.row.ext HX6.out).src (pts_one _)) (by omega) (fun p hp => (HPV.out p (List.mem_filter.1 hp).1).2.2)).mono ?_
      intro e w7 hpost
      unfold winPost at hpost
      rw [if_pos ⟨HV.out, by
        rw [List.any_eq_false]
        intro p hp
        have h1 := HPV.out p (List.mem_filter.1 hp).1
        have : timeB p.t = true := by unfold timeB; simp only [Bool.and_eq_true, decide_eq_true_eq]; omega
        simp [this]⟩] at hpost
      obtain ⟨v, rfl, hto⟩ := hpost
      have HTO := Lib.hid (hto.mono (HX2.out.trans (HR.out.ext.trans HX6.out)))
      clear hto
      go_wp2_with fail
      go_ret2
      exact ⟨_, rfl, HTO.out⟩
end Go.Proofs.YtokllgdbmnmieaaGreat
