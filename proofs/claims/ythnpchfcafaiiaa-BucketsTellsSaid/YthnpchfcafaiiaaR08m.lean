/- The document's aggr: Merge. -/
import Derived.Test.YthnpchfcafaiiaaR08
import Derived.Deep.DeepCutAuto
namespace Go.Proofs.Ythnpchfcafaiiaa
open Go.RowKit Go.Lib Go.Sort

/-- So far: the first one's block. -/
structure RmR (W : World) (ba : Nat) (cs : Array Value) (wr : World) : Prop where
  blk : wr.heap[ba]? = some (.cells cs 66 (0, 0))
  chg : Chg (· = ba) W wr

set_option maxHeartbeats 4000000 in
set_option maxRecDepth 100000 in
theorem rMerge_two (a b : Ag) (w : World) (ha : 1 ≤ a.n) (ha2 : a.n ≤ 2305843009213693952) (hb : 1 ≤ b.n) (hb2 : b.n ≤ 2305843009213693952) (hsa : sumOk a.s) (hsb : sumOk b.s) (hs : sumOk (a.s + b.s)) :
    Calls Try.prog 25 #[.agg (agR a), .agg (agR b)] w fun e w' => e = .returned (.tuple #[.agg (agR (agM a b)), .int .i64 0]) ∧ Ext w w' := by
  have HADD := Lib.hid (fun W => radd_any a.s b.s W hsa.1 hsa.2 hsb.1 hsb.2 hs.1 hs.2)
  have HF := Lib.hid (fun W => ahead_any b.f a.f W)
  have HL := Lib.hid (fun W => ahead_any a.l b.l W)
  have HLL : Hid (decide (ordI a.l b.l < 0) = decide (0 < ordI b.l a.l)) := Lib.hid (by
    rw [decide_eq_decide, ordI_lt]
    have h2 := ordI_lt b.l a.l
    have h3 : ordI b.l a.l = 0 ↔ (b.l.t = a.l.t ∧ b.l.s = a.l.s ∧ b.l.v = a.l.v) := ordI_zero _ _
    omega)
  have HM : Hid (agM a b = ⟨a.n + b.n, a.s + b.s, min a.mn b.mn, max a.mx b.mx, if ordI b.f a.f < 0 then b.f else a.f, if 0 < ordI b.l a.l then b.l else a.l⟩) := Lib.hid (by unfold agM; rw [if_neg (by omega)])
  rw [HM.out]
  rw [HLL.out] at HL
  clear HM HLL hsa hsb hs
  obtain ⟨an, asu, amn, amx, ⟨aft, afv, afs⟩, ⟨alt, alv, als⟩⟩ := a
  obtain ⟨bn, bsu, bmn, bmx, ⟨bft, bfv, bfs⟩, ⟨blt, blv, bls⟩⟩ := b
  unfold agR
  unfold Pt.val at HF HL
  unfold lmA at HADD
  simp only at ha ha2 hb hb2 HADD HF HL ⊢
  obtain ⟨a0, ha0⟩ : ∃ x, x = asu % 65536 := ⟨_, rfl⟩
  obtain ⟨a1, ha1⟩ : ∃ x, x = asu / 65536 % 65536 := ⟨_, rfl⟩
  obtain ⟨a2, ha2⟩ : ∃ x, x = asu / 4294967296 % 65536 := ⟨_, rfl⟩
  obtain ⟨a3, ha3⟩ : ∃ x, x = asu / 281474976710656 % 65536 := ⟨_, rfl⟩
  obtain ⟨a4, ha4⟩ : ∃ x, x = asu / 18446744073709551616 % 65536 := ⟨_, rfl⟩
  obtain ⟨a5, ha5⟩ : ∃ x, x = asu / 1208925819614629174706176 % 65536 := ⟨_, rfl⟩
  obtain ⟨a6, ha6⟩ : ∃ x, x = asu / 79228162514264337593543950336 % 65536 := ⟨_, rfl⟩
  obtain ⟨a7, ha7⟩ : ∃ x, x = asu / 5192296858534827628530496329220096 % 65536 := ⟨_, rfl⟩
  obtain ⟨b0, hb0⟩ : ∃ x, x = bsu % 65536 := ⟨_, rfl⟩
  obtain ⟨b1, hb1⟩ : ∃ x, x = bsu / 65536 % 65536 := ⟨_, rfl⟩
  obtain ⟨b2, hb2⟩ : ∃ x, x = bsu / 4294967296 % 65536 := ⟨_, rfl⟩
  obtain ⟨b3, hb3⟩ : ∃ x, x = bsu / 281474976710656 % 65536 := ⟨_, rfl⟩
  obtain ⟨b4, hb4⟩ : ∃ x, x = bsu / 18446744073709551616 % 65536 := ⟨_, rfl⟩
  obtain ⟨b5, hb5⟩ : ∃ x, x = bsu / 1208925819614629174706176 % 65536 := ⟨_, rfl⟩
  obtain ⟨b6, hb6⟩ : ∃ x, x = bsu / 79228162514264337593543950336 % 65536 := ⟨_, rfl⟩
  obtain ⟨b7, hb7⟩ : ∃ x, x = bsu / 5192296858534827628530496329220096 % 65536 := ⟨_, rfl⟩
  obtain ⟨s0, hs0⟩ : ∃ x, x = (asu + bsu) % 65536 := ⟨_, rfl⟩
  obtain ⟨s1, hs1⟩ : ∃ x, x = (asu + bsu) / 65536 % 65536 := ⟨_, rfl⟩
  obtain ⟨s2, hs2⟩ : ∃ x, x = (asu + bsu) / 4294967296 % 65536 := ⟨_, rfl⟩
  obtain ⟨s3, hs3⟩ : ∃ x, x = (asu + bsu) / 281474976710656 % 65536 := ⟨_, rfl⟩
  obtain ⟨s4, hs4⟩ : ∃ x, x = (asu + bsu) / 18446744073709551616 % 65536 := ⟨_, rfl⟩
  obtain ⟨s5, hs5⟩ : ∃ x, x = (asu + bsu) / 1208925819614629174706176 % 65536 := ⟨_, rfl⟩
  obtain ⟨s6, hs6⟩ : ∃ x, x = (asu + bsu) / 79228162514264337593543950336 % 65536 := ⟨_, rfl⟩
  obtain ⟨s7, hs7⟩ : ∃ x, x = (asu + bsu) / 5192296858534827628530496329220096 % 65536 := ⟨_, rfl⟩
  rw [← ha0, ← ha1, ← ha2, ← ha3, ← ha4, ← ha5, ← ha6, ← ha7, ← hb0, ← hb1, ← hb2, ← hb3, ← hb4, ← hb5, ← hb6, ← hb7, ← hs0, ← hs1, ← hs2, ← hs3, ← hs4, ← hs5, ← hs6, ← hs7] at HADD
  rw [← ha0, ← ha1, ← ha2, ← ha3, ← ha4, ← ha5, ← ha6, ← ha7, ← hb0, ← hb1, ← hb2, ← hb3, ← hb4, ← hb5, ← hb6, ← hb7, ← hs0, ← hs1, ← hs2, ← hs3, ← hs4, ← hs5, ← hs6, ← hs7]
  clear ha0 ha1 ha2 ha3 ha4 ha5 ha6 ha7 hb0 hb1 hb2 hb3 hb4 hb5 hb6 hb7 hs0 hs1 hs2 hs3 hs4 hs5 hs6 hs7
  obtain ⟨of, hof⟩ : ∃ x, x = ordI ⟨bft, bfv, bfs⟩ ⟨aft, afv, afs⟩ := ⟨_, rfl⟩
  obtain ⟨ol, hol⟩ : ∃ x, x = ordI ⟨blt, blv, bls⟩ ⟨alt, alv, als⟩ := ⟨_, rfl⟩
  rw [← hof] at HF
  rw [← hol] at HL
  rw [← hof, ← hol]
  clear hof hol
  obtain ⟨m1, hm1⟩ : ∃ x, x = min amn bmn := ⟨_, rfl⟩
  obtain ⟨m2, hm2⟩ : ∃ x, x = max amx bmx := ⟨_, rfl⟩
  rw [← hm1, ← hm2]
  have HM1 := Lib.hid hm1
  have HM2 := Lib.hid hm2
  clear hm1 hm2
  obtain ⟨rf, hrf⟩ : ∃ x : Pt, x = if of < 0 then ⟨bft, bfv, bfs⟩ else ⟨aft, afv, afs⟩ := ⟨_, rfl⟩
  obtain ⟨rl, hrl⟩ : ∃ x : Pt, x = if 0 < ol then ⟨blt, blv, bls⟩ else ⟨alt, alv, als⟩ := ⟨_, rfl⟩
  rw [← hrf, ← hrl]
  have HRF := Lib.hid hrf
  have HRL := Lib.hid hrl
  clear hrf hrl
  have h1 : ¬ bn < 0 := by omega
  have h2 : ¬ bn = 0 := by omega
  have h3 : ¬ an < 0 := by omega
  have h4 : ¬ an = 0 := by omega
  have h5 : ¬ 4611686018427387904 < an := by omega
  have h6 : ¬ 4611686018427387904 - an < bn := by omega
  go_enter Try.func25, Try.ntmps25
  go_wp2_with fail
  refine (HADD.out _).mono ?_
  rintro e w1 ⟨rfl, hx1⟩
  have BB : Hid (w1.heap[w.heap.size]? = some (.cells #[.int .i64 an, .int .i64 a0, .int .i64 a1, .int .i64 a2, .int .i64 a3, .int .i64 a4, .int .i64 a5, .int .i64 a6, .int .i64 a7, .int .i64 amn, .int .i64 amx, .int .i64 aft, .int .i64 afv, .int .i64 afs, .int .i64 alt, .int .i64 alv, .int .i64 als] 66 (0, 0)) ∧ w1.heap[w.heap.size + 1]? = some (.cells #[.int .i64 bn, .int .i64 b0, .int .i64 b1, .int .i64 b2, .int .i64 b3, .int .i64 b4, .int .i64 b5, .int .i64 b6, .int .i64 b7, .int .i64 bmn, .int .i64 bmx, .int .i64 bft, .int .i64 bfv, .int .i64 bfs, .int .i64 blt, .int .i64 blv, .int .i64 bls] 66 (0, 0)) ∧ w1.heap[w.heap.size + 2]? = some arZ) := Lib.hid (by
    have h0 := heap_alloc_new w (.cells #[.int .i64 an, .int .i64 a0, .int .i64 a1, .int .i64 a2, .int .i64 a3, .int .i64 a4, .int .i64 a5, .int .i64 a6, .int .i64 a7, .int .i64 amn, .int .i64 amx, .int .i64 aft, .int .i64 afv, .int .i64 afs, .int .i64 alt, .int .i64 alv, .int .i64 als] 66 (0, 0))
    have h1 := heap_alloc2 w (.cells #[.int .i64 an, .int .i64 a0, .int .i64 a1, .int .i64 a2, .int .i64 a3, .int .i64 a4, .int .i64 a5, .int .i64 a6, .int .i64 a7, .int .i64 amn, .int .i64 amx, .int .i64 aft, .int .i64 afv, .int .i64 afs, .int .i64 alt, .int .i64 alv, .int .i64 als] 66 (0, 0)) (.cells #[.int .i64 bn, .int .i64 b0, .int .i64 b1, .int .i64 b2, .int .i64 b3, .int .i64 b4, .int .i64 b5, .int .i64 b6, .int .i64 b7, .int .i64 bmn, .int .i64 bmx, .int .i64 bft, .int .i64 bfv, .int .i64 bfs, .int .i64 blt, .int .i64 blv, .int .i64 bls] 66 (0, 0))
    have h2 := heap_alloc3' w (.cells #[.int .i64 an, .int .i64 a0, .int .i64 a1, .int .i64 a2, .int .i64 a3, .int .i64 a4, .int .i64 a5, .int .i64 a6, .int .i64 a7, .int .i64 amn, .int .i64 amx, .int .i64 aft, .int .i64 afv, .int .i64 afs, .int .i64 alt, .int .i64 alv, .int .i64 als] 66 (0, 0)) (.cells #[.int .i64 bn, .int .i64 b0, .int .i64 b1, .int .i64 b2, .int .i64 b3, .int .i64 b4, .int .i64 b5, .int .i64 b6, .int .i64 b7, .int .i64 bmn, .int .i64 bmx, .int .i64 bft, .int .i64 bfv, .int .i64 bfs, .int .i64 blt, .int .i64 blv, .int .i64 bls] 66 (0, 0)) arZ
    exact ⟨((((Ext.refl _).alloc _).alloc _).trans hx1).block (block_lt h0) |>.trans h0, (((Ext.refl _).alloc _).trans hx1).block (block_lt h1) |>.trans h1, (hx1.block (block_lt h2)).trans h2⟩)
  have HX1 := Lib.hid (((((Ext.refl w).alloc _).alloc _).alloc _).trans hx1)
  clear hx1 HADD
  obtain ⟨ba, hba⟩ : ∃ x, x = w.heap.size := ⟨_, rfl⟩
  have HBA := Lib.hid hba
  have c0 : ∀ o, (w1.alloc o).cell? ⟨w.heap.size, 0, none⟩ = some (.int .i64 an) := fun o => by have := cell_of_block ((((Ext.refl w1).alloc o).block (block_lt BB.out.1)).trans BB.out.1) 0; simpa using this
  have c1 : ∀ o, (w1.alloc o).cell? ⟨w.heap.size + 1, 0, none⟩ = some (.int .i64 bn) := fun o => by have := cell_of_block ((((Ext.refl w1).alloc o).block (block_lt BB.out.2.1)).trans BB.out.2.1) 0; simpa using this
  go_upto_region 12 with fail
  generalize hW2 : World.alloc _ _ = W2
  have HX2 : Hid (Ext w1 W2) := Lib.hid (by subst hW2; exact (Ext.refl w1).alloc _)
  have HS2 : Hid (W2.heap[w1.heap.size]? = some (.cells #[.int .i64 s0, .int .i64 s1, .int .i64 s2, .int .i64 s3, .int .i64 s4, .int .i64 s5, .int .i64 s6, .int .i64 s7] 64 (0, 0))) := Lib.hid (by subst hW2; exact heap_alloc_new w1 _)
  have HA2 := Lib.hid ((HX2.out.block (block_lt BB.out.1)).trans BB.out.1)
  have HB2 := Lib.hid ((HX2.out.block (block_lt BB.out.2.1)).trans BB.out.2.1)
  have HZ2 := Lib.hid ((HX2.out.block (block_lt BB.out.2.2)).trans BB.out.2.2)
  have HSZ : Hid (w.heap.size + 3 ≤ w1.heap.size) := Lib.hid (by have := block_lt BB.out.2.2; omega)
  clear hW2 c0 c1 BB
  rw [← hba] at HA2 HB2 HZ2 HSZ ⊢
  clear hba
  have HBr : Hid (∀ w', Chg (· = ba) W2 w' → w'.heap[ba + 1]? = some (.cells #[.int .i64 bn, .int .i64 b0, .int .i64 b1, .int .i64 b2, .int .i64 b3, .int .i64 b4, .int .i64 b5, .int .i64 b6, .int .i64 b7, .int .i64 bmn, .int .i64 bmx, .int .i64 bft, .int .i64 bfv, .int .i64 bfs, .int .i64 blt, .int .i64 blv, .int .i64 bls] 66 (0, 0)) ∧ w'.heap[w1.heap.size]? = some (.cells #[.int .i64 s0, .int .i64 s1, .int .i64 s2, .int .i64 s3, .int .i64 s4, .int .i64 s5, .int .i64 s6, .int .i64 s7] 64 (0, 0)) ∧ w'.heap[ba + 2]? = some arZ) := Lib.hid (fun w' hc => ⟨(hc.block _ (block_lt HB2.out) (by omega)).trans HB2.out, (hc.block _ (block_lt HS2.out) (by have := HSZ.out; omega)).trans HS2.out, (hc.block _ (block_lt HZ2.out) (by omega)).trans HZ2.out⟩)
  have c0 : W2.cell? ⟨ba, 0, none⟩ = some (.int .i64 an) := by have := cell_of_block HA2.out 0; simpa using this
  have c1 : W2.cell? ⟨ba + 1, 0, none⟩ = some (.int .i64 bn) := by have := cell_of_block HB2.out 0; simpa using this
  have z0 := free_of_block HA2.out 0
  go_upto_region 13 with fail
  generalize hW3 : World.setCell _ _ _ = W3
  have HR3 : Hid (RmR W2 ba #[.int .i64 (an + bn), .int .i64 a0, .int .i64 a1, .int .i64 a2, .int .i64 a3, .int .i64 a4, .int .i64 a5, .int .i64 a6, .int .i64 a7, .int .i64 amn, .int .i64 amx, .int .i64 aft, .int .i64 afv, .int .i64 afs, .int .i64 alt, .int .i64 alv, .int .i64 als] W3) := Lib.hid ⟨by subst hW3; have := setCell_block (i := 0) HA2.out (.int .i64 (an + bn)); simpa using this, by subst hW3; exact setCell_chg _ _ _ _⟩
  clear hW3 c0 c1 z0
  have U : Hid (1 + (#[.int .i64 s0, .int .i64 s1, .int .i64 s2, .int .i64 s3, .int .i64 s4, .int .i64 s5, .int .i64 s6, .int .i64 s7] : Array Value).size ≤ (#[.int .i64 (an + bn), .int .i64 a0, .int .i64 a1, .int .i64 a2, .int .i64 a3, .int .i64 a4, .int .i64 a5, .int .i64 a6, .int .i64 a7, .int .i64 amn, .int .i64 amx, .int .i64 aft, .int .i64 afv, .int .i64 afs, .int .i64 alt, .int .i64 alv, .int .i64 als] : Array Value).size ∧ (#[.int .i64 (an + bn), .int .i64 a0, .int .i64 a1, .int .i64 a2, .int .i64 a3, .int .i64 a4, .int .i64 a5, .int .i64 a6, .int .i64 a7, .int .i64 amn, .int .i64 amx, .int .i64 aft, .int .i64 afv, .int .i64 afs, .int .i64 alt, .int .i64 alv, .int .i64 als] : Array Value).toList.take 1 ++ (#[.int .i64 s0, .int .i64 s1, .int .i64 s2, .int .i64 s3, .int .i64 s4, .int .i64 s5, .int .i64 s6, .int .i64 s7] : Array Value).toList ++ (#[.int .i64 (an + bn), .int .i64 a0, .int .i64 a1, .int .i64 a2, .int .i64 a3, .int .i64 a4, .int .i64 a5, .int .i64 a6, .int .i64 a7, .int .i64 amn, .int .i64 amx, .int .i64 aft, .int .i64 afv, .int .i64 afs, .int .i64 alt, .int .i64 alv, .int .i64 als] : Array Value).toList.drop (1 + (#[.int .i64 s0, .int .i64 s1, .int .i64 s2, .int .i64 s3, .int .i64 s4, .int .i64 s5, .int .i64 s6, .int .i64 s7] : Array Value).size) = (#[.int .i64 (an + bn), .int .i64 s0, .int .i64 s1, .int .i64 s2, .int .i64 s3, .int .i64 s4, .int .i64 s5, .int .i64 s6, .int .i64 s7, .int .i64 amn, .int .i64 amx, .int .i64 aft, .int .i64 afv, .int .i64 afs, .int .i64 alt, .int .i64 alv, .int .i64 als] : Array Value).toList ∧ (#[.int .i64 s0, .int .i64 s1, .int .i64 s2, .int .i64 s3, .int .i64 s4, .int .i64 s5, .int .i64 s6, .int .i64 s7] : Array Value).all (·.oneCell') = true ∧ (Try.prog.info? 64).map (·.size) = some (#[.int .i64 s0, .int .i64 s1, .int .i64 s2, .int .i64 s3, .int .i64 s4, .int .i64 s5, .int .i64 s6, .int .i64 s7] : Array Value).size) := Lib.hid ⟨by simp, by simp, by simp [Value.oneCell'], by kernel_rfl⟩
  go_upto_region 14 with (first | (refine wpList_load_box rfl _ _ rfl _ _ _ _ _ rfl (HBr.out _ HR3.out.chg).2.1 Try.underlying64 rfl lm_info ?_) | (refine wpList_store_part rfl _ _ _ rfl _ _ _ _ #[.int .i64 (an + bn), .int .i64 s0, .int .i64 s1, .int .i64 s2, .int .i64 s3, .int .i64 s4, .int .i64 s5, .int .i64 s6, .int .i64 s7, .int .i64 amn, .int .i64 amx, .int .i64 aft, .int .i64 afv, .int .i64 afs, .int .i64 alt, .int .i64 alv, .int .i64 als] _ rfl rfl HR3.out.blk U.out.1 U.out.2.1 U.out.2.2.2 U.out.2.2.1 ?_; rintro W4 hb4 hc4; have HR4 : Hid (RmR W2 ba #[.int .i64 (an + bn), .int .i64 s0, .int .i64 s1, .int .i64 s2, .int .i64 s3, .int .i64 s4, .int .i64 s5, .int .i64 s6, .int .i64 s7, .int .i64 amn, .int .i64 amx, .int .i64 aft, .int .i64 afv, .int .i64 afs, .int .i64 alt, .int .i64 alv, .int .i64 als] W4) := Lib.hid ⟨hb4, HR3.out.chg.trans hc4 (fun _ _ e => e)⟩; clear hb4 hc4))
  simp only [Act.put]
  have c0 : W4.cell? ⟨ba, 9, none⟩ = some (.int .i64 amn) := by have := cell_of_block HR4.out.blk 9; simpa using this
  have c1 : W4.cell? ⟨ba + 1, 9, none⟩ = some (.int .i64 bmn) := by have := cell_of_block (HBr.out _ HR4.out.chg).1 9; simpa using this
  have z0 := free_of_block HR4.out.blk 9
  go_upto_if 70 with fail
  go_cut [5] (fun slot wx => slot = .int .i64 0 ∧ Hid (RmR W2 ba #[.int .i64 (an + bn), .int .i64 s0, .int .i64 s1, .int .i64 s2, .int .i64 s3, .int .i64 s4, .int .i64 s5, .int .i64 s6, .int .i64 s7, .int .i64 m1, .int .i64 amx, .int .i64 aft, .int .i64 afv, .int .i64 afs, .int .i64 alt, .int .i64 alv, .int .i64 als] wx))
  case first =>
    by_cases h : bmn < amn
    · have HE : Hid (m1 = bmn) := Lib.hid (by rw [HM1.out]; omega)
      go_wp2_with fail
      go_meet
      refine ⟨rfl, Lib.hid ⟨?_, HR4.out.chg.trans (setCell_chg _ _ _ _) (fun _ _ e => e)⟩⟩
      have h1 := setCell_block (i := 9) HR4.out.blk (.int .i64 bmn)
      rw [HE.out]
      simpa using h1
    · have HE : Hid (m1 = amn) := Lib.hid (by rw [HM1.out]; omega)
      go_wp2_with fail
      go_meet
      exact ⟨rfl, Lib.hid (by rw [HE.out]; exact HR4.out)⟩
  case rest =>
  obtain ⟨rfl, HR5⟩ := hcut
  clear c0 c1 z0
  obtain ⟨w5, hw5⟩ : ∃ w5, w5 = wc := ⟨_, rfl⟩
  rw [← hw5] at HR5 ⊢
  clear hw5
  have c0 : w5.cell? ⟨ba, 10, none⟩ = some (.int .i64 amx) := by have := cell_of_block HR5.out.blk 10; simpa using this
  have c1 : w5.cell? ⟨ba + 1, 10, none⟩ = some (.int .i64 bmx) := by have := cell_of_block (HBr.out _ HR5.out.chg).1 10; simpa using this
  have z0 := free_of_block HR5.out.blk 10
  go_upto_if 78 with fail
  go_cut [5] (fun slot wx => slot = .int .i64 0 ∧ Hid (RmR W2 ba #[.int .i64 (an + bn), .int .i64 s0, .int .i64 s1, .int .i64 s2, .int .i64 s3, .int .i64 s4, .int .i64 s5, .int .i64 s6, .int .i64 s7, .int .i64 m1, .int .i64 m2, .int .i64 aft, .int .i64 afv, .int .i64 afs, .int .i64 alt, .int .i64 alv, .int .i64 als] wx))
  case first =>
    by_cases h : amx < bmx
    · have HE : Hid (m2 = bmx) := Lib.hid (by rw [HM2.out]; omega)
      go_wp2_with fail
      go_meet
      refine ⟨rfl, Lib.hid ⟨?_, HR5.out.chg.trans (setCell_chg _ _ _ _) (fun _ _ e => e)⟩⟩
      have h1 := setCell_block (i := 10) HR5.out.blk (.int .i64 bmx)
      rw [HE.out]
      simpa using h1
    · have HE : Hid (m2 = amx) := Lib.hid (by rw [HM2.out]; omega)
      go_wp2_with fail
      go_meet
      exact ⟨rfl, Lib.hid (by rw [HE.out]; exact HR5.out)⟩
  case rest =>
  obtain ⟨rfl, HR6⟩ := hcut
  clear c0 c1 z0
  obtain ⟨w6, hw6⟩ : ∃ w6, w6 = wc := ⟨_, rfl⟩
  rw [← hw6] at HR6 ⊢
  clear hw6
  have k0 : w6.cell? ⟨ba, 11, none⟩ = some (.int .i64 aft) := by have := cell_of_block HR6.out.blk 11; simpa using this
  have k3 : w6.cell? ⟨ba + 1, 11, none⟩ = some (.int .i64 bft) := by have := cell_of_block (HBr.out _ HR6.out.chg).1 11; simpa using this
  have k1 : w6.cell? ⟨ba, 12, none⟩ = some (.int .i64 afv) := by have := cell_of_block HR6.out.blk 12; simpa using this
  have k4 : w6.cell? ⟨ba + 1, 12, none⟩ = some (.int .i64 bfv) := by have := cell_of_block (HBr.out _ HR6.out.chg).1 12; simpa using this
  have k2 : w6.cell? ⟨ba, 13, none⟩ = some (.int .i64 afs) := by have := cell_of_block HR6.out.blk 13; simpa using this
  have k5 : w6.cell? ⟨ba + 1, 13, none⟩ = some (.int .i64 bfs) := by have := cell_of_block (HBr.out _ HR6.out.chg).1 13; simpa using this
  go_wp2_with fail
  refine (HF.out _).mono ?_
  rintro e wx ⟨rfl, hx⟩
  have HRX : Hid (RmR W2 ba #[.int .i64 (an + bn), .int .i64 s0, .int .i64 s1, .int .i64 s2, .int .i64 s3, .int .i64 s4, .int .i64 s5, .int .i64 s6, .int .i64 s7, .int .i64 m1, .int .i64 m2, .int .i64 aft, .int .i64 afv, .int .i64 afs, .int .i64 alt, .int .i64 alv, .int .i64 als] wx) := Lib.hid ⟨(hx.block (block_lt HR6.out.blk)).trans HR6.out.blk, HR6.out.chg.trans (Chg.of_ext (S := fun _ => False) hx) (fun _ _ e => e.elim)⟩
  clear k0 k1 k2 k3 k4 k5 hx
  have k3 : wx.cell? ⟨ba + 1, 11, none⟩ = some (.int .i64 bft) := by have := cell_of_block (HBr.out _ HRX.out.chg).1 11; simpa using this
  have k4 : wx.cell? ⟨ba + 1, 12, none⟩ = some (.int .i64 bfv) := by have := cell_of_block (HBr.out _ HRX.out.chg).1 12; simpa using this
  have k5 : wx.cell? ⟨ba + 1, 13, none⟩ = some (.int .i64 bfs) := by have := cell_of_block (HBr.out _ HRX.out.chg).1 13; simpa using this
  have HU : Hid (11 + (#[.int .i64 bft, .int .i64 bfv, .int .i64 bfs] : Array Value).size ≤ (#[.int .i64 (an + bn), .int .i64 s0, .int .i64 s1, .int .i64 s2, .int .i64 s3, .int .i64 s4, .int .i64 s5, .int .i64 s6, .int .i64 s7, .int .i64 m1, .int .i64 m2, .int .i64 aft, .int .i64 afv, .int .i64 afs, .int .i64 alt, .int .i64 alv, .int .i64 als] : Array Value).size ∧ (#[.int .i64 (an + bn), .int .i64 s0, .int .i64 s1, .int .i64 s2, .int .i64 s3, .int .i64 s4, .int .i64 s5, .int .i64 s6, .int .i64 s7, .int .i64 m1, .int .i64 m2, .int .i64 aft, .int .i64 afv, .int .i64 afs, .int .i64 alt, .int .i64 alv, .int .i64 als] : Array Value).toList.take 11 ++ (#[.int .i64 bft, .int .i64 bfv, .int .i64 bfs] : Array Value).toList ++ (#[.int .i64 (an + bn), .int .i64 s0, .int .i64 s1, .int .i64 s2, .int .i64 s3, .int .i64 s4, .int .i64 s5, .int .i64 s6, .int .i64 s7, .int .i64 m1, .int .i64 m2, .int .i64 aft, .int .i64 afv, .int .i64 afs, .int .i64 alt, .int .i64 alv, .int .i64 als] : Array Value).toList.drop (11 + (#[.int .i64 bft, .int .i64 bfv, .int .i64 bfs] : Array Value).size) = (#[.int .i64 (an + bn), .int .i64 s0, .int .i64 s1, .int .i64 s2, .int .i64 s3, .int .i64 s4, .int .i64 s5, .int .i64 s6, .int .i64 s7, .int .i64 m1, .int .i64 m2, .int .i64 bft, .int .i64 bfv, .int .i64 bfs, .int .i64 alt, .int .i64 alv, .int .i64 als] : Array Value).toList ∧ (#[.int .i64 bft, .int .i64 bfv, .int .i64 bfs] : Array Value).all (·.oneCell') = true ∧ (Try.prog.info? 35).map (·.size) = some (#[.int .i64 bft, .int .i64 bfv, .int .i64 bfs] : Array Value).size) := Lib.hid ⟨by simp, by simp, by simp [Value.oneCell'], by kernel_rfl⟩
  go_upto_if 86 with fail
  go_cut [5] (fun slot wx => slot = .int .i64 0 ∧ Hid (RmR W2 ba #[.int .i64 (an + bn), .int .i64 s0, .int .i64 s1, .int .i64 s2, .int .i64 s3, .int .i64 s4, .int .i64 s5, .int .i64 s6, .int .i64 s7, .int .i64 m1, .int .i64 m2, .int .i64 rf.t, .int .i64 rf.v, .int .i64 rf.s, .int .i64 alt, .int .i64 alv, .int .i64 als] wx))
  case first =>
    by_cases h : of < 0
    · have HE : Hid (rf = ⟨bft, bfv, bfs⟩) := Lib.hid (by rw [HRF.out, if_pos h])
      go_wp2_with (refine wpList_store_part rfl _ _ _ rfl _ _ _ _ #[.int .i64 (an + bn), .int .i64 s0, .int .i64 s1, .int .i64 s2, .int .i64 s3, .int .i64 s4, .int .i64 s5, .int .i64 s6, .int .i64 s7, .int .i64 m1, .int .i64 m2, .int .i64 bft, .int .i64 bfv, .int .i64 bfs, .int .i64 alt, .int .i64 alv, .int .i64 als] _ rfl rfl HRX.out.blk HU.out.1 HU.out.2.1 HU.out.2.2.2 HU.out.2.2.1 ?_; rintro wy hb4 hc4; have HRY : Hid (RmR W2 ba #[.int .i64 (an + bn), .int .i64 s0, .int .i64 s1, .int .i64 s2, .int .i64 s3, .int .i64 s4, .int .i64 s5, .int .i64 s6, .int .i64 s7, .int .i64 m1, .int .i64 m2, .int .i64 rf.t, .int .i64 rf.v, .int .i64 rf.s, .int .i64 alt, .int .i64 alv, .int .i64 als] wy) := Lib.hid ⟨by rw [HE.out]; exact hb4, HRX.out.chg.trans hc4 (fun _ _ e => e)⟩; clear hb4 hc4)
      go_meet
      exact ⟨rfl, HRY⟩
    · have HE : Hid (rf = ⟨aft, afv, afs⟩) := Lib.hid (by rw [HRF.out, if_neg h])
      go_wp2_with fail
      go_meet
      exact ⟨rfl, Lib.hid (by rw [HE.out]; exact HRX.out)⟩
  case rest =>
  obtain ⟨rfl, HR7⟩ := hcut
  clear k3 k4 k5
  obtain ⟨w7, hnw⟩ : ∃ q, q = wc := ⟨_, rfl⟩
  rw [← hnw] at HR7 ⊢
  clear hnw HU
  have k0 : w7.cell? ⟨ba, 14, none⟩ = some (.int .i64 alt) := by have := cell_of_block HR7.out.blk 14; simpa using this
  have k3 : w7.cell? ⟨ba + 1, 14, none⟩ = some (.int .i64 blt) := by have := cell_of_block (HBr.out _ HR7.out.chg).1 14; simpa using this
  have k1 : w7.cell? ⟨ba, 15, none⟩ = some (.int .i64 alv) := by have := cell_of_block HR7.out.blk 15; simpa using this
  have k4 : w7.cell? ⟨ba + 1, 15, none⟩ = some (.int .i64 blv) := by have := cell_of_block (HBr.out _ HR7.out.chg).1 15; simpa using this
  have k2 : w7.cell? ⟨ba, 16, none⟩ = some (.int .i64 als) := by have := cell_of_block HR7.out.blk 16; simpa using this
  have k5 : w7.cell? ⟨ba + 1, 16, none⟩ = some (.int .i64 bls) := by have := cell_of_block (HBr.out _ HR7.out.chg).1 16; simpa using this
  go_wp2_with fail
  refine (HL.out _).mono ?_
  rintro e wx ⟨rfl, hx⟩
  have HRX : Hid (RmR W2 ba #[.int .i64 (an + bn), .int .i64 s0, .int .i64 s1, .int .i64 s2, .int .i64 s3, .int .i64 s4, .int .i64 s5, .int .i64 s6, .int .i64 s7, .int .i64 m1, .int .i64 m2, .int .i64 rf.t, .int .i64 rf.v, .int .i64 rf.s, .int .i64 alt, .int .i64 alv, .int .i64 als] wx) := Lib.hid ⟨(hx.block (block_lt HR7.out.blk)).trans HR7.out.blk, HR7.out.chg.trans (Chg.of_ext (S := fun _ => False) hx) (fun _ _ e => e.elim)⟩
  clear k0 k1 k2 k3 k4 k5 hx
  have k3 : wx.cell? ⟨ba + 1, 14, none⟩ = some (.int .i64 blt) := by have := cell_of_block (HBr.out _ HRX.out.chg).1 14; simpa using this
  have k4 : wx.cell? ⟨ba + 1, 15, none⟩ = some (.int .i64 blv) := by have := cell_of_block (HBr.out _ HRX.out.chg).1 15; simpa using this
  have k5 : wx.cell? ⟨ba + 1, 16, none⟩ = some (.int .i64 bls) := by have := cell_of_block (HBr.out _ HRX.out.chg).1 16; simpa using this
  have HU : Hid (14 + (#[.int .i64 blt, .int .i64 blv, .int .i64 bls] : Array Value).size ≤ (#[.int .i64 (an + bn), .int .i64 s0, .int .i64 s1, .int .i64 s2, .int .i64 s3, .int .i64 s4, .int .i64 s5, .int .i64 s6, .int .i64 s7, .int .i64 m1, .int .i64 m2, .int .i64 rf.t, .int .i64 rf.v, .int .i64 rf.s, .int .i64 alt, .int .i64 alv, .int .i64 als] : Array Value).size ∧ (#[.int .i64 (an + bn), .int .i64 s0, .int .i64 s1, .int .i64 s2, .int .i64 s3, .int .i64 s4, .int .i64 s5, .int .i64 s6, .int .i64 s7, .int .i64 m1, .int .i64 m2, .int .i64 rf.t, .int .i64 rf.v, .int .i64 rf.s, .int .i64 alt, .int .i64 alv, .int .i64 als] : Array Value).toList.take 14 ++ (#[.int .i64 blt, .int .i64 blv, .int .i64 bls] : Array Value).toList ++ (#[.int .i64 (an + bn), .int .i64 s0, .int .i64 s1, .int .i64 s2, .int .i64 s3, .int .i64 s4, .int .i64 s5, .int .i64 s6, .int .i64 s7, .int .i64 m1, .int .i64 m2, .int .i64 rf.t, .int .i64 rf.v, .int .i64 rf.s, .int .i64 alt, .int .i64 alv, .int .i64 als] : Array Value).toList.drop (14 + (#[.int .i64 blt, .int .i64 blv, .int .i64 bls] : Array Value).size) = (#[.int .i64 (an + bn), .int .i64 s0, .int .i64 s1, .int .i64 s2, .int .i64 s3, .int .i64 s4, .int .i64 s5, .int .i64 s6, .int .i64 s7, .int .i64 m1, .int .i64 m2, .int .i64 rf.t, .int .i64 rf.v, .int .i64 rf.s, .int .i64 blt, .int .i64 blv, .int .i64 bls] : Array Value).toList ∧ (#[.int .i64 blt, .int .i64 blv, .int .i64 bls] : Array Value).all (·.oneCell') = true ∧ (Try.prog.info? 35).map (·.size) = some (#[.int .i64 blt, .int .i64 blv, .int .i64 bls] : Array Value).size) := Lib.hid ⟨by simp, by simp, by simp [Value.oneCell'], by kernel_rfl⟩
  go_upto_if 94 with fail
  go_cut [5] (fun slot wx => slot = .int .i64 0 ∧ Hid (RmR W2 ba #[.int .i64 (an + bn), .int .i64 s0, .int .i64 s1, .int .i64 s2, .int .i64 s3, .int .i64 s4, .int .i64 s5, .int .i64 s6, .int .i64 s7, .int .i64 m1, .int .i64 m2, .int .i64 rf.t, .int .i64 rf.v, .int .i64 rf.s, .int .i64 rl.t, .int .i64 rl.v, .int .i64 rl.s] wx))
  case first =>
    by_cases h : 0 < ol
    · have HE : Hid (rl = ⟨blt, blv, bls⟩) := Lib.hid (by rw [HRL.out, if_pos h])
      go_wp2_with (refine wpList_store_part rfl _ _ _ rfl _ _ _ _ #[.int .i64 (an + bn), .int .i64 s0, .int .i64 s1, .int .i64 s2, .int .i64 s3, .int .i64 s4, .int .i64 s5, .int .i64 s6, .int .i64 s7, .int .i64 m1, .int .i64 m2, .int .i64 rf.t, .int .i64 rf.v, .int .i64 rf.s, .int .i64 blt, .int .i64 blv, .int .i64 bls] _ rfl rfl HRX.out.blk HU.out.1 HU.out.2.1 HU.out.2.2.2 HU.out.2.2.1 ?_; rintro wy hb4 hc4; have HRY : Hid (RmR W2 ba #[.int .i64 (an + bn), .int .i64 s0, .int .i64 s1, .int .i64 s2, .int .i64 s3, .int .i64 s4, .int .i64 s5, .int .i64 s6, .int .i64 s7, .int .i64 m1, .int .i64 m2, .int .i64 rf.t, .int .i64 rf.v, .int .i64 rf.s, .int .i64 rl.t, .int .i64 rl.v, .int .i64 rl.s] wy) := Lib.hid ⟨by rw [HE.out]; exact hb4, HRX.out.chg.trans hc4 (fun _ _ e => e)⟩; clear hb4 hc4)
      go_meet
      exact ⟨rfl, HRY⟩
    · have HE : Hid (rl = ⟨alt, alv, als⟩) := Lib.hid (by rw [HRL.out, if_neg h])
      go_wp2_with fail
      go_meet
      exact ⟨rfl, Lib.hid (by rw [HE.out]; exact HRX.out)⟩
  case rest =>
  obtain ⟨rfl, HR8⟩ := hcut
  clear k3 k4 k5
  obtain ⟨w8, hnw⟩ : ∃ q, q = wc := ⟨_, rfl⟩
  rw [← hnw] at HR8 ⊢
  clear hnw HU
  have HIN : Hid ((Try.prog.info? 66).map (·.size) = some (#[.int .i64 (an + bn), .int .i64 s0, .int .i64 s1, .int .i64 s2, .int .i64 s3, .int .i64 s4, .int .i64 s5, .int .i64 s6, .int .i64 s7, .int .i64 m1, .int .i64 m2, .int .i64 rf.t, .int .i64 rf.v, .int .i64 rf.s, .int .i64 rl.t, .int .i64 rl.v, .int .i64 rl.s] : Array Value).size ∧ (#[.int .i64 (an + bn), .int .i64 s0, .int .i64 s1, .int .i64 s2, .int .i64 s3, .int .i64 s4, .int .i64 s5, .int .i64 s6, .int .i64 s7, .int .i64 m1, .int .i64 m2, .int .i64 rf.t, .int .i64 rf.v, .int .i64 rf.s, .int .i64 rl.t, .int .i64 rl.v, .int .i64 rl.s] : Array Value).all (·.oneCell') = true) := Lib.hid ⟨by kernel_rfl, by simp [Value.oneCell']⟩
  go_wp2_with (first | (refine wpList_load_box rfl _ _ rfl _ _ _ _ _ rfl HR8.out.blk Try.underlying66 rfl HIN.out.1 ?_) | (refine wpList_store_box rfl _ _ _ rfl _ _ _ _ rfl rfl (HBr.out _ HR8.out.chg).2.2 rfl HIN.out.1 HIN.out.2 ?_; rintro w9 hb5 hc5; have HB5 := Lib.hid hb5; have HC5 := Lib.hid hc5; clear hb5 hc5))
  have hx := HX1.out.trans HX2.out
  have hbn := HBA.out
  exact bodyPost_ret (results_box_tmp Try.results25 _ _ rfl HB5.out Try.underlying66 rfl HIN.out.1) rfl ⟨rfl, (((Chg.of_ext (S := fun _ => False) hx).trans HR8.out.chg (fun i hi e => by omega)).trans HC5.out (fun i hi e => by omega)).ext (fun _ _ e => e)⟩

end Go.Proofs.Ythnpchfcafaiiaa
