/- The document's limbs: Limbs, Negative, Plus, Add. -/
import Derived.Test.YtokllgdbmnmieaaGreatEnc
import Derived.ChangeKeysEq
namespace Go.Proofs.YtokllgdbmnmieaaGreat
open Go.RowKit Go.Lib Go.Sort

theorem quiet_load_law {P : Program} {C : World → Prop} {o : Oper} {a : Act} {K : Act → Prop} (ty : TypeId) (x : Operand) (ho : o.op = .load ty x) (p v : Value) (hx : a.eval x = p)
    (hl : ∀ w, C w → (Instr.loadAt ty p).run P w = .ok v w) (hk : K (a.put o.dst v)) : o.quiet P a C K :=
  ⟨v, fun w hw => by
    unfold Oper.quietAt execOp
    simp only [ho, hx, Sem.run_bind, hl w hw, Result.andThen_ok, Sem.run_pure]
    exact ⟨rfl, rfl⟩, hk⟩

/-- Eight parts of 16 bits. -/
def lmA (s : Int) : Array Value := #[.int .i64 (s % 65536), .int .i64 (s / 65536 % 65536), .int .i64 (s / 4294967296 % 65536), .int .i64 (s / 281474976710656 % 65536),
  .int .i64 (s / 18446744073709551616 % 65536), .int .i64 (s / 1208925819614629174706176 % 65536), .int .i64 (s / 79228162514264337593543950336 % 65536), .int .i64 (s / 5192296858534827628530496329220096 % 65536)]
theorem lm_info : (Tryz.prog.info? 88).map (·.size) = some 8 := by kernel_rfl

theorem heap_alloc3' (w : World) (o1 o2 o3 : Obj) : (((w.alloc o1).alloc o2).alloc o3).heap[w.heap.size + 2]? = some o3 := by
  have := heap_alloc_new ((w.alloc o1).alloc o2) o3
  simpa using this
theorem heap_alloc4 (w : World) (o1 o2 o3 o4 : Obj) : ((((w.alloc o1).alloc o2).alloc o3).alloc o4).heap[w.heap.size + 3]? = some o4 := by
  have := heap_alloc_new (((w.alloc o1).alloc o2).alloc o3) o4
  simpa using this
/-- So far. -/
structure LmR (W : World) (b : Nat) (cs : Array Value) (wr : World) : Prop where
  blk : wr.heap[b]? = some (.cells cs 88 (0, 0))
  chg : Chg (· = b) W wr
theorem LmR.set {W wr : World} {b : Nat} {cs : Array Value} (h : LmR W b cs wr) (i : Nat) (u : Value) : LmR W b (cs.setIfInBounds i u) (wr.setCell ⟨b, i, none⟩ u) :=
  ⟨setCell_block h.blk u, h.chg.trans (setCell_chg _ _ _ _) (fun _ _ e => e)⟩

def lmK (lo uh : Int) : Nat → Array Value
  | 0 => #[.int .i64 0, .int .i64 0, .int .i64 0, .int .i64 0, .int .i64 0, .int .i64 0, .int .i64 0, .int .i64 0]
  | 1 => #[.int .i64 (lo % 65536), .int .i64 0, .int .i64 0, .int .i64 0, .int .i64 (uh % 65536), .int .i64 0, .int .i64 0, .int .i64 0]
  | 2 => #[.int .i64 (lo % 65536), .int .i64 (lo / 65536 % 65536), .int .i64 0, .int .i64 0, .int .i64 (uh % 65536), .int .i64 (uh / 65536 % 65536), .int .i64 0, .int .i64 0]
  | 3 => #[.int .i64 (lo % 65536), .int .i64 (lo / 65536 % 65536), .int .i64 (lo / 4294967296 % 65536), .int .i64 0, .int .i64 (uh % 65536), .int .i64 (uh / 65536 % 65536), .int .i64 (uh / 4294967296 % 65536), .int .i64 0]
  | _ => #[.int .i64 (lo % 65536), .int .i64 (lo / 65536 % 65536), .int .i64 (lo / 4294967296 % 65536), .int .i64 (lo / 281474976710656 % 65536), .int .i64 (uh % 65536), .int .i64 (uh / 65536 % 65536), .int .i64 (uh / 4294967296 % 65536), .int .i64 (uh / 281474976710656 % 65536)]

set_option maxHeartbeats 2000000 in
set_option maxRecDepth 100000 in
theorem limbs_any (s : Int) (w : World) (h1 : -170141183460469231731687303715884105728 ≤ s) (h2 : s < 170141183460469231731687303715884105728) :
    Calls Tryz.prog 95 #[.int .i64 (s / 18446744073709551616), .int .u64 (s % 18446744073709551616)] w fun e w' => e = .returned (.agg (lmA s)) ∧ Ext w w' := by
  obtain ⟨hi, hhi⟩ : ∃ x, x = s / 18446744073709551616 := ⟨_, rfl⟩
  obtain ⟨lo, hlo⟩ : ∃ x, x = s % 18446744073709551616 := ⟨_, rfl⟩
  rw [← hhi, ← hlo]
  have HS := Lib.hid (And.intro hhi (And.intro hlo (And.intro h1 h2)))
  have hl0 : 0 ≤ lo := by omega
  have hl1 : lo < 18446744073709551616 := by omega
  obtain ⟨uh, huh⟩ : ∃ x, x = IntKind.u64.wrap hi := ⟨_, rfl⟩
  have HU := Lib.hid huh
  have huw := huh.symm
  have hu0 : 0 ≤ uh := by rw [huh, IntKind.wrap_u64]; omega
  have hu1 : uh < 18446744073709551616 := by rw [huh, IntKind.wrap_u64]; omega
  clear hhi hlo h1 h2 huh
  go_enter Tryz.func95, Tryz.ntmps95
  go_wp2_with fail
  generalize hW : World.alloc _ _ = W
  have HXW : Hid (Ext w W) := Lib.hid (by subst hW; exact ((Ext.refl w).alloc _).alloc _)
  have HZ0 : Hid (W.heap[w.heap.size]? = some (.cells #[.int .i64 0, .int .i64 0, .int .i64 0, .int .i64 0, .int .i64 0, .int .i64 0, .int .i64 0, .int .i64 0] 88 (0, 0))) := Lib.hid (by
    subst hW
    have h0 := heap_alloc_new w (.cells #[.int .i64 0, .int .i64 0, .int .i64 0, .int .i64 0, .int .i64 0, .int .i64 0, .int .i64 0, .int .i64 0] 88 (0, 0))
    exact ((((Ext.refl _).alloc _)).block (block_lt h0)).trans h0)
  have HZ1 : Hid (LmR W (w.heap.size + 1) #[.int .i64 0, .int .i64 0, .int .i64 0, .int .i64 0, .int .i64 0, .int .i64 0, .int .i64 0, .int .i64 0] W) := Lib.hid ⟨by subst hW; exact heap_alloc2 w _ _, Chg.refl _ _⟩
  clear hW
  obtain ⟨b, hb⟩ : ∃ b, b = w.heap.size + 1 := ⟨_, rfl⟩
  rw [← hb] at HZ1 ⊢
  have HBN : Hid (b = w.heap.size + 1) := Lib.hid hb
  clear hb
  go_loopw [7] (fun s7 wr => ∃ k : Nat, k ≤ 4 ∧ s7 = .int .i64 k ∧ Hid (LmR W b (lmK lo uh k) wr)) (fun i _ => 4 - (RowKit.intOf i).toNat)
  case atStart => exact ⟨0, by omega, rfl, HZ1⟩
  case round =>
    obtain ⟨k, hk, rfl, HI⟩ := hrel
    have z0 := free_of_block HI.out.blk
    have hk5 : k = 0 ∨ k = 1 ∨ k = 2 ∨ k = 3 ∨ k = 4 := by omega
    rcases hk5 with rfl | rfl | rfl | rfl | rfl
    · have c0 : wr.cell? ⟨b, 0, none⟩ = some (.int .i64 0) := by have := cell_of_block HI.out.blk 0; simpa [lmK] using this
      have c1 : wr.cell? ⟨b, 4, none⟩ = some (.int .i64 0) := by have := cell_of_block HI.out.blk 4; simpa [lmK] using this
      have f0 := z0 0
      have f1 := z0 4
      clear z0
      go_wp2_with fail
      have h1 := (HI.out.set 0 (.int .i64 (lo % 65536))).set 4 (.int .i64 (uh % 65536))
      exact ⟨⟨1, by omega, rfl, Lib.hid (by simpa [lmK] using h1)⟩, by simp [RowKit.intOf]⟩
    · have c0 : wr.cell? ⟨b, 1, none⟩ = some (.int .i64 0) := by have := cell_of_block HI.out.blk 1; simpa [lmK] using this
      have c1 : wr.cell? ⟨b, 5, none⟩ = some (.int .i64 0) := by have := cell_of_block HI.out.blk 5; simpa [lmK] using this
      have f0 := z0 1
      have f1 := z0 5
      clear z0
      go_wp2_with fail
      have h1 := (HI.out.set 1 (.int .i64 (lo / 65536 % 65536))).set 5 (.int .i64 (uh / 65536 % 65536))
      exact ⟨⟨2, by omega, rfl, Lib.hid (by simpa [lmK] using h1)⟩, by simp [RowKit.intOf]⟩
    · have c0 : wr.cell? ⟨b, 2, none⟩ = some (.int .i64 0) := by have := cell_of_block HI.out.blk 2; simpa [lmK] using this
      have c1 : wr.cell? ⟨b, 6, none⟩ = some (.int .i64 0) := by have := cell_of_block HI.out.blk 6; simpa [lmK] using this
      have f0 := z0 2
      have f1 := z0 6
      clear z0
      go_wp2_with fail
      have h1 := (HI.out.set 2 (.int .i64 (lo / 4294967296 % 65536))).set 6 (.int .i64 (uh / 4294967296 % 65536))
      exact ⟨⟨3, by omega, rfl, Lib.hid (by simpa [lmK] using h1)⟩, by simp [RowKit.intOf]⟩
    · have c0 : wr.cell? ⟨b, 3, none⟩ = some (.int .i64 0) := by have := cell_of_block HI.out.blk 3; simpa [lmK] using this
      have c1 : wr.cell? ⟨b, 7, none⟩ = some (.int .i64 0) := by have := cell_of_block HI.out.blk 7; simpa [lmK] using this
      have f0 := z0 3
      have f1 := z0 7
      clear z0
      go_wp2_with fail
      have h1 := (HI.out.set 3 (.int .i64 (lo / 281474976710656 % 65536))).set 7 (.int .i64 (uh / 281474976710656 % 65536))
      exact ⟨⟨4, by omega, rfl, Lib.hid (by simpa [lmK] using h1)⟩, by simp [RowKit.intOf]⟩
    · clear z0
      have HZ0r : Hid (wr.heap[w.heap.size]? = some (.cells #[.int .i64 0, .int .i64 0, .int .i64 0, .int .i64 0, .int .i64 0, .int .i64 0, .int .i64 0, .int .i64 0] 88 (0, 0))) := Lib.hid ((HI.out.chg.block _ (block_lt HZ0.out) (by have := HBN.out; omega)).trans HZ0.out)
      have HE : Hid (lmK lo uh 4 = lmA s) := Lib.hid (by
        obtain ⟨q1, q2, q3, q4⟩ := HS.out
        have q5 := HU.out
        rw [IntKind.wrap_u64] at q5
        unfold lmK lmA
        simp only [Array.mk.injEq, List.cons.injEq, Value.int.injEq, true_and, and_true]
        refine ⟨?_, ?_, ?_, ?_, ?_, ?_, ?_, ?_⟩ <;> omega)
      rw [HE.out] at HI
      obtain ⟨A, hA⟩ : ∃ A, A = lmA s := ⟨_, rfl⟩
      rw [← hA] at HI
      have HA := Lib.hid hA
      clear hA
      go_wp2_with (first | (refine wpList_load_box rfl _ _ rfl _ _ _ _ _ rfl HI.out.blk Tryz.underlying88 rfl (by rw [HA.out]; exact lm_info) ?_) | (refine wpList_store_box rfl _ _ _ rfl _ _ _ _ rfl rfl HZ0r.out (by rw [HA.out]; rfl) (by rw [HA.out]; exact lm_info) (by rw [HA.out]; simp [lmA, Value.oneCell']) ?_; rintro w5 hb5 hc5; have HB5 := Lib.hid hb5; have HC5 := Lib.hid hc5; clear hb5 hc5))
      have hx := HXW.out
      have hbn := HBN.out
      exact bodyPost_ret (results_box Tryz.results95 _ _ rfl HB5.out Tryz.underlying88 rfl (by rw [HA.out]; exact lm_info)) rfl ⟨by rw [HA.out], (((Chg.of_ext (S := fun _ => False) hx).trans HI.out.chg (fun i hi e => by omega)).trans HC5.out (fun i hi e => by omega)).ext (fun _ _ e => e)⟩

set_option maxHeartbeats 1000000 in
theorem negative_any (s : Int) (w : World) (h1 : -170141183460469231731687303715884105728 ≤ s) (h2 : s < 170141183460469231731687303715884105728) :
    Calls Tryz.prog 117 #[.agg (lmA s)] w fun e w' => e = .returned (.bool (decide (s < 0))) ∧ Ext w w' := by
  obtain ⟨t, ht⟩ : ∃ t, t = s / 5192296858534827628530496329220096 % 65536 := ⟨_, rfl⟩
  have HD : Hid (decide (32768 ≤ t) = decide (s < 0)) := Lib.hid (by rw [decide_eq_decide]; omega)
  unfold lmA
  rw [← ht]
  clear ht h1 h2
  go_enter Tryz.func117, Tryz.ntmps117
  go_wp2_with fail
  go_ret
  rw [← HD.out]
  exact ⟨rfl, (Ext.refl w).alloc _⟩

def cry (sa sb : Int) : Nat → Int
  | 0 => 0
  | 1 => (sa % 65536 + sb % 65536) / 65536
  | 2 => (sa % 4294967296 + sb % 4294967296) / 4294967296
  | 3 => (sa % 281474976710656 + sb % 281474976710656) / 281474976710656
  | 4 => (sa % 18446744073709551616 + sb % 18446744073709551616) / 18446744073709551616
  | 5 => (sa % 1208925819614629174706176 + sb % 1208925819614629174706176) / 1208925819614629174706176
  | 6 => (sa % 79228162514264337593543950336 + sb % 79228162514264337593543950336) / 79228162514264337593543950336
  | 7 => (sa % 5192296858534827628530496329220096 + sb % 5192296858534827628530496329220096) / 5192296858534827628530496329220096
  | _ => (sa % 340282366920938463463374607431768211456 + sb % 340282366920938463463374607431768211456) / 340282366920938463463374607431768211456
def plK (t : Int) : Nat → Array Value
  | 0 => #[.int .i64 0, .int .i64 0, .int .i64 0, .int .i64 0, .int .i64 0, .int .i64 0, .int .i64 0, .int .i64 0]
  | 1 => #[.int .i64 (t % 65536), .int .i64 0, .int .i64 0, .int .i64 0, .int .i64 0, .int .i64 0, .int .i64 0, .int .i64 0]
  | 2 => #[.int .i64 (t % 65536), .int .i64 (t / 65536 % 65536), .int .i64 0, .int .i64 0, .int .i64 0, .int .i64 0, .int .i64 0, .int .i64 0]
  | 3 => #[.int .i64 (t % 65536), .int .i64 (t / 65536 % 65536), .int .i64 (t / 4294967296 % 65536), .int .i64 0, .int .i64 0, .int .i64 0, .int .i64 0, .int .i64 0]
  | 4 => #[.int .i64 (t % 65536), .int .i64 (t / 65536 % 65536), .int .i64 (t / 4294967296 % 65536), .int .i64 (t / 281474976710656 % 65536), .int .i64 0, .int .i64 0, .int .i64 0, .int .i64 0]
  | 5 => #[.int .i64 (t % 65536), .int .i64 (t / 65536 % 65536), .int .i64 (t / 4294967296 % 65536), .int .i64 (t / 281474976710656 % 65536), .int .i64 (t / 18446744073709551616 % 65536), .int .i64 0, .int .i64 0, .int .i64 0]
  | 6 => #[.int .i64 (t % 65536), .int .i64 (t / 65536 % 65536), .int .i64 (t / 4294967296 % 65536), .int .i64 (t / 281474976710656 % 65536), .int .i64 (t / 18446744073709551616 % 65536), .int .i64 (t / 1208925819614629174706176 % 65536), .int .i64 0, .int .i64 0]
  | 7 => #[.int .i64 (t % 65536), .int .i64 (t / 65536 % 65536), .int .i64 (t / 4294967296 % 65536), .int .i64 (t / 281474976710656 % 65536), .int .i64 (t / 18446744073709551616 % 65536), .int .i64 (t / 1208925819614629174706176 % 65536), .int .i64 (t / 79228162514264337593543950336 % 65536), .int .i64 0]
  | _ => #[.int .i64 (t % 65536), .int .i64 (t / 65536 % 65536), .int .i64 (t / 4294967296 % 65536), .int .i64 (t / 281474976710656 % 65536), .int .i64 (t / 18446744073709551616 % 65536), .int .i64 (t / 1208925819614629174706176 % 65536), .int .i64 (t / 79228162514264337593543950336 % 65536), .int .i64 (t / 5192296858534827628530496329220096 % 65536)]

set_option maxHeartbeats 2000000 in
set_option maxRecDepth 100000 in
theorem rplus_any (sa sb : Int) (w : World) :
    Calls Tryz.prog 119 #[.agg (lmA sa), .agg (lmA sb)] w fun e w' => e = .returned (.agg (lmA (sa + sb))) ∧ Ext w w' := by
  obtain ⟨A, hA⟩ : ∃ A, A = lmA sa := ⟨_, rfl⟩
  obtain ⟨B, hB⟩ : ∃ B, B = lmA sb := ⟨_, rfl⟩
  rw [← hA, ← hB]
  have HA := Lib.hid hA
  have HB := Lib.hid hB
  clear hA hB
  go_enter Tryz.func119, Tryz.ntmps119
  go_wp2_with fail
  generalize hW : World.alloc _ _ = W
  have HXW : Hid (Ext w W) := Lib.hid (by subst hW; exact ((((Ext.refl w).alloc _).alloc _).alloc _).alloc _)
  have HBA : Hid (W.heap[w.heap.size]? = some (.cells A 88 (0, 0))) := Lib.hid (by
    subst hW
    have h0 := heap_alloc_new w (.cells A 88 (0, 0))
    exact ((((Ext.refl _).alloc _).alloc _).alloc _ |>.block (block_lt h0)).trans h0)
  have HBB : Hid (W.heap[w.heap.size + 1]? = some (.cells B 88 (0, 0))) := Lib.hid (by
    subst hW
    have h0 := heap_alloc2 w (.cells A 88 (0, 0)) (.cells B 88 (0, 0))
    exact ((((Ext.refl _).alloc _).alloc _) |>.block (block_lt h0)).trans h0)
  have HZ0 : Hid (W.heap[w.heap.size + 2]? = some (.cells (plK 0 0) 88 (0, 0))) := Lib.hid (by
    subst hW
    have h0 := heap_alloc3' w (.cells A 88 (0, 0)) (.cells B 88 (0, 0)) (.cells (plK 0 0) 88 (0, 0))
    exact (((Ext.refl _).alloc _) |>.block (block_lt h0)).trans h0)
  have HZ1 : Hid (LmR W (w.heap.size + 3) (plK (sa + sb) 0) W) := Lib.hid ⟨by subst hW; exact heap_alloc4 w _ _ _ _, Chg.refl _ _⟩
  clear hW
  obtain ⟨b, hb⟩ : ∃ b, b = w.heap.size + 3 := ⟨_, rfl⟩
  rw [← hb] at HZ1
  have HBN : Hid (b = w.heap.size + 3) := Lib.hid hb
  try rw [← hb]
  clear hb
  go_loopw [6, 7] (fun s6 s7 wr => ∃ k : Nat, k ≤ 8 ∧ s7 = .int .i64 k ∧ s6 = .int .i64 (cry sa sb k) ∧ Hid (LmR W b (plK (sa + sb) k) wr)) (fun _ i _ => 8 - (RowKit.intOf i).toNat)
  case atStart => exact ⟨0, by omega, rfl, rfl, HZ1⟩
  case round =>
    obtain ⟨k, hk, rfl, rfl, HI⟩ := hrel
    have z0 := free_of_block HI.out.blk
    have hbn := HBN.out
    have HRA := Lib.hid ((HI.out.chg.block _ (block_lt HBA.out) (by omega)).trans HBA.out)
    have HRB := Lib.hid ((HI.out.chg.block _ (block_lt HBB.out) (by omega)).trans HBB.out)
    clear hbn
    have hk5 : k = 0 ∨ k = 1 ∨ k = 2 ∨ k = 3 ∨ k = 4 ∨ k = 5 ∨ k = 6 ∨ k = 7 ∨ k = 8 := by omega
    rcases hk5 with rfl | rfl | rfl | rfl | rfl | rfl | rfl | rfl | rfl
    · obtain ⟨x, hx⟩ : ∃ x, x = sa % 65536 := ⟨_, rfl⟩
      obtain ⟨y, hy⟩ : ∃ y, y = sb % 65536 := ⟨_, rfl⟩
      obtain ⟨c, hc⟩ : ∃ c, c = cry sa sb 0 := ⟨_, rfl⟩
      have c0 : wr.cell? ⟨w.heap.size, 0, none⟩ = some (.int .i64 x) := by have := cell_of_block HRA.out 0; rw [HA.out] at this; rw [hx]; exact this
      have c1 : wr.cell? ⟨w.heap.size + 1, 0, none⟩ = some (.int .i64 y) := by have := cell_of_block HRB.out 0; rw [HB.out] at this; rw [hy]; exact this
      have c2 : ∀ j, (wr.drewN j).cell? ⟨b, 0, none⟩ = some (.int .i64 0) := fun j => by have := cell_of_block HI.out.blk 0; simpa [plK] using this
      have f0 : ∀ j, (wr.drewN j).frozen? ⟨b, 0, none⟩ = false := fun j => z0 0
      have hx0 : 0 ≤ x ∧ x < 65536 := by omega
      have hy0 : 0 ≤ y ∧ y < 65536 := by omega
      have hc0 : 0 ≤ c ∧ c ≤ 1 := by rw [hc]; simp only [cry]; omega
      have hr : (c + x + y).tmod 65536 = (sa + sb) % 65536 := by rw [Int.tmod_eq_emod_of_nonneg (by omega), hc, hx, hy]; simp only [cry]; omega
      have hq : (c + x + y).tdiv 65536 = cry sa sb 1 := by rw [Int.tdiv_eq_ediv_of_nonneg (by omega), hc, hx, hy]; simp only [cry]; omega
      obtain ⟨r, hr'⟩ : ∃ r, r = (sa + sb) % 65536 := ⟨_, rfl⟩
      obtain ⟨q, hq'⟩ : ∃ q, q = cry sa sb 1 := ⟨_, rfl⟩
      rw [← hr'] at hr
      rw [← hq'] at hq
      rw [← hc]
      have HQ := Lib.hid (And.intro hr' hq')
      have hqb : 0 ≤ q ∧ q ≤ 1 := by rw [hq']; simp only [cry]; omega
      have e1 : IntKind.i64.wrap (c + x) = c + x := IntWalk.i64_in _ (by omega)
      have e2 : IntKind.i64.wrap (c + x + y) = c + x + y := IntWalk.i64_in _ (by omega)
      clear hx hy hc hr' hq' z0
      go_wp2_with fail
      refine wp_region_split_lit [] [0, 1, 2, 3, 4, 5, 6, 7, 8, 9] [] (by kernel_rfl) (by kernel_rfl) (fun _ _ dd _ _ hh => by cases dd <;> exact hh) ?_
      simp only [pickOps, List.getElem?_cons_succ, List.getElem?_cons_zero]
      refine wpQuiet_nil ?_
      repeat (go_big_quiet_step (fail))
      refine wpQuiet_nil ?_
      intro w7 hw'
      obtain ⟨j, rfl⟩ := hw'
      go_wp2_with fail
      have hd : LmR W b (plK (sa + sb) 0) (wr.drewN j) := ⟨HI.out.blk, HI.out.chg.trans (Chg.of_ext (Ext.drewN wr j)) (fun _ _ e => e)⟩
      have h1 := hd.set 0 (.int .i64 r)
      rw [HQ.out.1] at h1
      exact ⟨⟨1, by omega, rfl, by rw [HQ.out.2], Lib.hid (by rw [HQ.out.1]; simpa [plK] using h1)⟩, by simp [RowKit.intOf]⟩
    · obtain ⟨x, hx⟩ : ∃ x, x = sa / 65536 % 65536 := ⟨_, rfl⟩
      obtain ⟨y, hy⟩ : ∃ y, y = sb / 65536 % 65536 := ⟨_, rfl⟩
      obtain ⟨c, hc⟩ : ∃ c, c = cry sa sb 1 := ⟨_, rfl⟩
      have c0 : wr.cell? ⟨w.heap.size, 1, none⟩ = some (.int .i64 x) := by have := cell_of_block HRA.out 1; rw [HA.out] at this; rw [hx]; exact this
      have c1 : wr.cell? ⟨w.heap.size + 1, 1, none⟩ = some (.int .i64 y) := by have := cell_of_block HRB.out 1; rw [HB.out] at this; rw [hy]; exact this
      have c2 : ∀ j, (wr.drewN j).cell? ⟨b, 1, none⟩ = some (.int .i64 0) := fun j => by have := cell_of_block HI.out.blk 1; simpa [plK] using this
      have f0 : ∀ j, (wr.drewN j).frozen? ⟨b, 1, none⟩ = false := fun j => z0 1
      have hx0 : 0 ≤ x ∧ x < 65536 := by omega
      have hy0 : 0 ≤ y ∧ y < 65536 := by omega
      have hc0 : 0 ≤ c ∧ c ≤ 1 := by rw [hc]; simp only [cry]; omega
      have hr : (c + x + y).tmod 65536 = (sa + sb) / 65536 % 65536 := by rw [Int.tmod_eq_emod_of_nonneg (by omega), hc, hx, hy]; simp only [cry]; omega
      have hq : (c + x + y).tdiv 65536 = cry sa sb 2 := by rw [Int.tdiv_eq_ediv_of_nonneg (by omega), hc, hx, hy]; simp only [cry]; omega
      obtain ⟨r, hr'⟩ : ∃ r, r = (sa + sb) / 65536 % 65536 := ⟨_, rfl⟩
      obtain ⟨q, hq'⟩ : ∃ q, q = cry sa sb 2 := ⟨_, rfl⟩
      rw [← hr'] at hr
      rw [← hq'] at hq
      rw [← hc]
      have HQ := Lib.hid (And.intro hr' hq')
      have hqb : 0 ≤ q ∧ q ≤ 1 := by rw [hq']; simp only [cry]; omega
      have e1 : IntKind.i64.wrap (c + x) = c + x := IntWalk.i64_in _ (by omega)
      have e2 : IntKind.i64.wrap (c + x + y) = c + x + y := IntWalk.i64_in _ (by omega)
      clear hx hy hc hr' hq' z0
      go_wp2_with fail
      refine wp_region_split_lit [] [0, 1, 2, 3, 4, 5, 6, 7, 8, 9] [] (by kernel_rfl) (by kernel_rfl) (fun _ _ dd _ _ hh => by cases dd <;> exact hh) ?_
      simp only [pickOps, List.getElem?_cons_succ, List.getElem?_cons_zero]
      refine wpQuiet_nil ?_
      repeat (go_big_quiet_step (fail))
      refine wpQuiet_nil ?_
      intro w7 hw'
      obtain ⟨j, rfl⟩ := hw'
      go_wp2_with fail
      have hd : LmR W b (plK (sa + sb) 1) (wr.drewN j) := ⟨HI.out.blk, HI.out.chg.trans (Chg.of_ext (Ext.drewN wr j)) (fun _ _ e => e)⟩
      have h1 := hd.set 1 (.int .i64 r)
      rw [HQ.out.1] at h1
      exact ⟨⟨2, by omega, rfl, by rw [HQ.out.2], Lib.hid (by rw [HQ.out.1]; simpa [plK] using h1)⟩, by simp [RowKit.intOf]⟩
    · obtain ⟨x, hx⟩ : ∃ x, x = sa / 4294967296 % 65536 := ⟨_, rfl⟩
      obtain ⟨y, hy⟩ : ∃ y, y = sb / 4294967296 % 65536 := ⟨_, rfl⟩
      obtain ⟨c, hc⟩ : ∃ c, c = cry sa sb 2 := ⟨_, rfl⟩
      have c0 : wr.cell? ⟨w.heap.size, 2, none⟩ = some (.int .i64 x) := by have := cell_of_block HRA.out 2; rw [HA.out] at this; rw [hx]; exact this
      have c1 : wr.cell? ⟨w.heap.size + 1, 2, none⟩ = some (.int .i64 y) := by have := cell_of_block HRB.out 2; rw [HB.out] at this; rw [hy]; exact this
      have c2 : ∀ j, (wr.drewN j).cell? ⟨b, 2, none⟩ = some (.int .i64 0) := fun j => by have := cell_of_block HI.out.blk 2; simpa [plK] using this
      have f0 : ∀ j, (wr.drewN j).frozen? ⟨b, 2, none⟩ = false := fun j => z0 2
      have hx0 : 0 ≤ x ∧ x < 65536 := by omega
      have hy0 : 0 ≤ y ∧ y < 65536 := by omega
      have hc0 : 0 ≤ c ∧ c ≤ 1 := by rw [hc]; simp only [cry]; omega
      have hr : (c + x + y).tmod 65536 = (sa + sb) / 4294967296 % 65536 := by rw [Int.tmod_eq_emod_of_nonneg (by omega), hc, hx, hy]; simp only [cry]; omega
      have hq : (c + x + y).tdiv 65536 = cry sa sb 3 := by rw [Int.tdiv_eq_ediv_of_nonneg (by omega), hc, hx, hy]; simp only [cry]; omega
      obtain ⟨r, hr'⟩ : ∃ r, r = (sa + sb) / 4294967296 % 65536 := ⟨_, rfl⟩
      obtain ⟨q, hq'⟩ : ∃ q, q = cry sa sb 3 := ⟨_, rfl⟩
      rw [← hr'] at hr
      rw [← hq'] at hq
      rw [← hc]
      have HQ := Lib.hid (And.intro hr' hq')
      have hqb : 0 ≤ q ∧ q ≤ 1 := by rw [hq']; simp only [cry]; omega
      have e1 : IntKind.i64.wrap (c + x) = c + x := IntWalk.i64_in _ (by omega)
      have e2 : IntKind.i64.wrap (c + x + y) = c + x + y := IntWalk.i64_in _ (by omega)
      clear hx hy hc hr' hq' z0
      go_wp2_with fail
      refine wp_region_split_lit [] [0, 1, 2, 3, 4, 5, 6, 7, 8, 9] [] (by kernel_rfl) (by kernel_rfl) (fun _ _ dd _ _ hh => by cases dd <;> exact hh) ?_
      simp only [pickOps, List.getElem?_cons_succ, List.getElem?_cons_zero]
      refine wpQuiet_nil ?_
      repeat (go_big_quiet_step (fail))
      refine wpQuiet_nil ?_
      intro w7 hw'
      obtain ⟨j, rfl⟩ := hw'
      go_wp2_with fail
      have hd : LmR W b (plK (sa + sb) 2) (wr.drewN j) := ⟨HI.out.blk, HI.out.chg.trans (Chg.of_ext (Ext.drewN wr j)) (fun _ _ e => e)⟩
      have h1 := hd.set 2 (.int .i64 r)
      rw [HQ.out.1] at h1
      exact ⟨⟨3, by omega, rfl, by rw [HQ.out.2], Lib.hid (by rw [HQ.out.1]; simpa [plK] using h1)⟩, by simp [RowKit.intOf]⟩
    · obtain ⟨x, hx⟩ : ∃ x, x = sa / 281474976710656 % 65536 := ⟨_, rfl⟩
      obtain ⟨y, hy⟩ : ∃ y, y = sb / 281474976710656 % 65536 := ⟨_, rfl⟩
      obtain ⟨c, hc⟩ : ∃ c, c = cry sa sb 3 := ⟨_, rfl⟩
      have c0 : wr.cell? ⟨w.heap.size, 3, none⟩ = some (.int .i64 x) := by have := cell_of_block HRA.out 3; rw [HA.out] at this; rw [hx]; exact this
      have c1 : wr.cell? ⟨w.heap.size + 1, 3, none⟩ = some (.int .i64 y) := by have := cell_of_block HRB.out 3; rw [HB.out] at this; rw [hy]; exact this
      have c2 : ∀ j, (wr.drewN j).cell? ⟨b, 3, none⟩ = some (.int .i64 0) := fun j => by have := cell_of_block HI.out.blk 3; simpa [plK] using this
      have f0 : ∀ j, (wr.drewN j).frozen? ⟨b, 3, none⟩ = false := fun j => z0 3
      have hx0 : 0 ≤ x ∧ x < 65536 := by omega
      have hy0 : 0 ≤ y ∧ y < 65536 := by omega
      have hc0 : 0 ≤ c ∧ c ≤ 1 := by rw [hc]; simp only [cry]; omega
      have hr : (c + x + y).tmod 65536 = (sa + sb) / 281474976710656 % 65536 := by rw [Int.tmod_eq_emod_of_nonneg (by omega), hc, hx, hy]; simp only [cry]; omega
      have hq : (c + x + y).tdiv 65536 = cry sa sb 4 := by rw [Int.tdiv_eq_ediv_of_nonneg (by omega), hc, hx, hy]; simp only [cry]; omega
      obtain ⟨r, hr'⟩ : ∃ r, r = (sa + sb) / 281474976710656 % 65536 := ⟨_, rfl⟩
      obtain ⟨q, hq'⟩ : ∃ q, q = cry sa sb 4 := ⟨_, rfl⟩
      rw [← hr'] at hr
      rw [← hq'] at hq
      rw [← hc]
      have HQ := Lib.hid (And.intro hr' hq')
      have hqb : 0 ≤ q ∧ q ≤ 1 := by rw [hq']; simp only [cry]; omega
      have e1 : IntKind.i64.wrap (c + x) = c + x := IntWalk.i64_in _ (by omega)
      have e2 : IntKind.i64.wrap (c + x + y) = c + x + y := IntWalk.i64_in _ (by omega)
      clear hx hy hc hr' hq' z0
      go_wp2_with fail
      refine wp_region_split_lit [] [0, 1, 2, 3, 4, 5, 6, 7, 8, 9] [] (by kernel_rfl) (by kernel_rfl) (fun _ _ dd _ _ hh => by cases dd <;> exact hh) ?_
      simp only [pickOps, List.getElem?_cons_succ, List.getElem?_cons_zero]
      refine wpQuiet_nil ?_
      repeat (go_big_quiet_step (fail))
      refine wpQuiet_nil ?_
      intro w7 hw'
      obtain ⟨j, rfl⟩ := hw'
      go_wp2_with fail
      have hd : LmR W b (plK (sa + sb) 3) (wr.drewN j) := ⟨HI.out.blk, HI.out.chg.trans (Chg.of_ext (Ext.drewN wr j)) (fun _ _ e => e)⟩
      have h1 := hd.set 3 (.int .i64 r)
      rw [HQ.out.1] at h1
      exact ⟨⟨4, by omega, rfl, by rw [HQ.out.2], Lib.hid (by rw [HQ.out.1]; simpa [plK] using h1)⟩, by simp [RowKit.intOf]⟩
    · obtain ⟨x, hx⟩ : ∃ x, x = sa / 18446744073709551616 % 65536 := ⟨_, rfl⟩
      obtain ⟨y, hy⟩ : ∃ y, y = sb / 18446744073709551616 % 65536 := ⟨_, rfl⟩
      obtain ⟨c, hc⟩ : ∃ c, c = cry sa sb 4 := ⟨_, rfl⟩
      have c0 : wr.cell? ⟨w.heap.size, 4, none⟩ = some (.int .i64 x) := by have := cell_of_block HRA.out 4; rw [HA.out] at this; rw [hx]; exact this
      have c1 : wr.cell? ⟨w.heap.size + 1, 4, none⟩ = some (.int .i64 y) := by have := cell_of_block HRB.out 4; rw [HB.out] at this; rw [hy]; exact this
      have c2 : ∀ j, (wr.drewN j).cell? ⟨b, 4, none⟩ = some (.int .i64 0) := fun j => by have := cell_of_block HI.out.blk 4; simpa [plK] using this
      have f0 : ∀ j, (wr.drewN j).frozen? ⟨b, 4, none⟩ = false := fun j => z0 4
      have hx0 : 0 ≤ x ∧ x < 65536 := by omega
      have hy0 : 0 ≤ y ∧ y < 65536 := by omega
      have hc0 : 0 ≤ c ∧ c ≤ 1 := by rw [hc]; simp only [cry]; omega
      have hr : (c + x + y).tmod 65536 = (sa + sb) / 18446744073709551616 % 65536 := by rw [Int.tmod_eq_emod_of_nonneg (by omega), hc, hx, hy]; simp only [cry]; omega
      have hq : (c + x + y).tdiv 65536 = cry sa sb 5 := by rw [Int.tdiv_eq_ediv_of_nonneg (by omega), hc, hx, hy]; simp only [cry]; omega
      obtain ⟨r, hr'⟩ : ∃ r, r = (sa + sb) / 18446744073709551616 % 65536 := ⟨_, rfl⟩
      obtain ⟨q, hq'⟩ : ∃ q, q = cry sa sb 5 := ⟨_, rfl⟩
      rw [← hr'] at hr
      rw [← hq'] at hq
      rw [← hc]
      have HQ := Lib.hid (And.intro hr' hq')
      have hqb : 0 ≤ q ∧ q ≤ 1 := by rw [hq']; simp only [cry]; omega
      have e1 : IntKind.i64.wrap (c + x) = c + x := IntWalk.i64_in _ (by omega)
      have e2 : IntKind.i64.wrap (c + x + y) = c + x + y := IntWalk.i64_in _ (by omega)
      clear hx hy hc hr' hq' z0
      go_wp2_with fail
      refine wp_region_split_lit [] [0, 1, 2, 3, 4, 5, 6, 7, 8, 9] [] (by kernel_rfl) (by kernel_rfl) (fun _ _ dd _ _ hh => by cases dd <;> exact hh) ?_
      simp only [pickOps, List.getElem?_cons_succ, List.getElem?_cons_zero]
      refine wpQuiet_nil ?_
      repeat (go_big_quiet_step (fail))
      refine wpQuiet_nil ?_
      intro w7 hw'
      obtain ⟨j, rfl⟩ := hw'
      go_wp2_with fail
      have hd : LmR W b (plK (sa + sb) 4) (wr.drewN j) := ⟨HI.out.blk, HI.out.chg.trans (Chg.of_ext (Ext.drewN wr j)) (fun _ _ e => e)⟩
      have h1 := hd.set 4 (.int .i64 r)
      rw [HQ.out.1] at h1
      exact ⟨⟨5, by omega, rfl, by rw [HQ.out.2], Lib.hid (by rw [HQ.out.1]; simpa [plK] using h1)⟩, by simp [RowKit.intOf]⟩
    · obtain ⟨x, hx⟩ : ∃ x, x = sa / 1208925819614629174706176 % 65536 := ⟨_, rfl⟩
      obtain ⟨y, hy⟩ : ∃ y, y = sb / 1208925819614629174706176 % 65536 := ⟨_, rfl⟩
      obtain ⟨c, hc⟩ : ∃ c, c = cry sa sb 5 := ⟨_, rfl⟩
      have c0 : wr.cell? ⟨w.heap.size, 5, none⟩ = some (.int .i64 x) := by have := cell_of_block HRA.out 5; rw [HA.out] at this; rw [hx]; exact this
      have c1 : wr.cell? ⟨w.heap.size + 1, 5, none⟩ = some (.int .i64 y) := by have := cell_of_block HRB.out 5; rw [HB.out] at this; rw [hy]; exact this
      have c2 : ∀ j, (wr.drewN j).cell? ⟨b, 5, none⟩ = some (.int .i64 0) := fun j => by have := cell_of_block HI.out.blk 5; simpa [plK] using this
      have f0 : ∀ j, (wr.drewN j).frozen? ⟨b, 5, none⟩ = false := fun j => z0 5
      have hx0 : 0 ≤ x ∧ x < 65536 := by omega
      have hy0 : 0 ≤ y ∧ y < 65536 := by omega
      have hc0 : 0 ≤ c ∧ c ≤ 1 := by rw [hc]; simp only [cry]; omega
      have hr : (c + x + y).tmod 65536 = (sa + sb) / 1208925819614629174706176 % 65536 := by rw [Int.tmod_eq_emod_of_nonneg (by omega), hc, hx, hy]; simp only [cry]; omega
      have hq : (c + x + y).tdiv 65536 = cry sa sb 6 := by rw [Int.tdiv_eq_ediv_of_nonneg (by omega), hc, hx, hy]; simp only [cry]; omega
      obtain ⟨r, hr'⟩ : ∃ r, r = (sa + sb) / 1208925819614629174706176 % 65536 := ⟨_, rfl⟩
      obtain ⟨q, hq'⟩ : ∃ q, q = cry sa sb 6 := ⟨_, rfl⟩
      rw [← hr'] at hr
      rw [← hq'] at hq
      rw [← hc]
      have HQ := Lib.hid (And.intro hr' hq')
      have hqb : 0 ≤ q ∧ q ≤ 1 := by rw [hq']; simp only [cry]; omega
      have e1 : IntKind.i64.wrap (c + x) = c + x := IntWalk.i64_in _ (by omega)
      have e2 : IntKind.i64.wrap (c + x + y) = c + x + y := IntWalk.i64_in _ (by omega)
      clear hx hy hc hr' hq' z0
      go_wp2_with fail
      refine wp_region_split_lit [] [0, 1, 2, 3, 4, 5, 6, 7, 8, 9] [] (by kernel_rfl) (by kernel_rfl) (fun _ _ dd _ _ hh => by cases dd <;> exact hh) ?_
      simp only [pickOps, List.getElem?_cons_succ, List.getElem?_cons_zero]
      refine wpQuiet_nil ?_
      repeat (go_big_quiet_step (fail))
      refine wpQuiet_nil ?_
      intro w7 hw'
      obtain ⟨j, rfl⟩ := hw'
      go_wp2_with fail
      have hd : LmR W b (plK (sa + sb) 5) (wr.drewN j) := ⟨HI.out.blk, HI.out.chg.trans (Chg.of_ext (Ext.drewN wr j)) (fun _ _ e => e)⟩
      have h1 := hd.set 5 (.int .i64 r)
      rw [HQ.out.1] at h1
      exact ⟨⟨6, by omega, rfl, by rw [HQ.out.2], Lib.hid (by rw [HQ.out.1]; simpa [plK] using h1)⟩, by simp [RowKit.intOf]⟩
    · obtain ⟨x, hx⟩ : ∃ x, x = sa / 79228162514264337593543950336 % 65536 := ⟨_, rfl⟩
      obtain ⟨y, hy⟩ : ∃ y, y = sb / 79228162514264337593543950336 % 65536 := ⟨_, rfl⟩
      obtain ⟨c, hc⟩ : ∃ c, c = cry sa sb 6 := ⟨_, rfl⟩
      have c0 : wr.cell? ⟨w.heap.size, 6, none⟩ = some (.int .i64 x) := by have := cell_of_block HRA.out 6; rw [HA.out] at this; rw [hx]; exact this
      have c1 : wr.cell? ⟨w.heap.size + 1, 6, none⟩ = some (.int .i64 y) := by have := cell_of_block HRB.out 6; rw [HB.out] at this; rw [hy]; exact this
      have c2 : ∀ j, (wr.drewN j).cell? ⟨b, 6, none⟩ = some (.int .i64 0) := fun j => by have := cell_of_block HI.out.blk 6; simpa [plK] using this
      have f0 : ∀ j, (wr.drewN j).frozen? ⟨b, 6, none⟩ = false := fun j => z0 6
      have hx0 : 0 ≤ x ∧ x < 65536 := by omega
      have hy0 : 0 ≤ y ∧ y < 65536 := by omega
      have hc0 : 0 ≤ c ∧ c ≤ 1 := by rw [hc]; simp only [cry]; omega
      have hr : (c + x + y).tmod 65536 = (sa + sb) / 79228162514264337593543950336 % 65536 := by rw [Int.tmod_eq_emod_of_nonneg (by omega), hc, hx, hy]; simp only [cry]; omega
      have hq : (c + x + y).tdiv 65536 = cry sa sb 7 := by rw [Int.tdiv_eq_ediv_of_nonneg (by omega), hc, hx, hy]; simp only [cry]; omega
      obtain ⟨r, hr'⟩ : ∃ r, r = (sa + sb) / 79228162514264337593543950336 % 65536 := ⟨_, rfl⟩
      obtain ⟨q, hq'⟩ : ∃ q, q = cry sa sb 7 := ⟨_, rfl⟩
      rw [← hr'] at hr
      rw [← hq'] at hq
      rw [← hc]
      have HQ := Lib.hid (And.intro hr' hq')
      have hqb : 0 ≤ q ∧ q ≤ 1 := by rw [hq']; simp only [cry]; omega
      have e1 : IntKind.i64.wrap (c + x) = c + x := IntWalk.i64_in _ (by omega)
      have e2 : IntKind.i64.wrap (c + x + y) = c + x + y := IntWalk.i64_in _ (by omega)
      clear hx hy hc hr' hq' z0
      go_wp2_with fail
      refine wp_region_split_lit [] [0, 1, 2, 3, 4, 5, 6, 7, 8, 9] [] (by kernel_rfl) (by kernel_rfl) (fun _ _ dd _ _ hh => by cases dd <;> exact hh) ?_
      simp only [pickOps, List.getElem?_cons_succ, List.getElem?_cons_zero]
      refine wpQuiet_nil ?_
      repeat (go_big_quiet_step (fail))
      refine wpQuiet_nil ?_
      intro w7 hw'
      obtain ⟨j, rfl⟩ := hw'
      go_wp2_with fail
      have hd : LmR W b (plK (sa + sb) 6) (wr.drewN j) := ⟨HI.out.blk, HI.out.chg.trans (Chg.of_ext (Ext.drewN wr j)) (fun _ _ e => e)⟩
      have h1 := hd.set 6 (.int .i64 r)
      rw [HQ.out.1] at h1
      exact ⟨⟨7, by omega, rfl, by rw [HQ.out.2], Lib.hid (by rw [HQ.out.1]; simpa [plK] using h1)⟩, by simp [RowKit.intOf]⟩
    · obtain ⟨x, hx⟩ : ∃ x, x = sa / 5192296858534827628530496329220096 % 65536 := ⟨_, rfl⟩
      obtain ⟨y, hy⟩ : ∃ y, y = sb / 5192296858534827628530496329220096 % 65536 := ⟨_, rfl⟩
      obtain ⟨c, hc⟩ : ∃ c, c = cry sa sb 7 := ⟨_, rfl⟩
      have c0 : wr.cell? ⟨w.heap.size, 7, none⟩ = some (.int .i64 x) := by have := cell_of_block HRA.out 7; rw [HA.out] at this; rw [hx]; exact this
      have c1 : wr.cell? ⟨w.heap.size + 1, 7, none⟩ = some (.int .i64 y) := by have := cell_of_block HRB.out 7; rw [HB.out] at this; rw [hy]; exact this
      have c2 : ∀ j, (wr.drewN j).cell? ⟨b, 7, none⟩ = some (.int .i64 0) := fun j => by have := cell_of_block HI.out.blk 7; simpa [plK] using this
      have f0 : ∀ j, (wr.drewN j).frozen? ⟨b, 7, none⟩ = false := fun j => z0 7
      have hx0 : 0 ≤ x ∧ x < 65536 := by omega
      have hy0 : 0 ≤ y ∧ y < 65536 := by omega
      have hc0 : 0 ≤ c ∧ c ≤ 1 := by rw [hc]; simp only [cry]; omega
      have hr : (c + x + y).tmod 65536 = (sa + sb) / 5192296858534827628530496329220096 % 65536 := by rw [Int.tmod_eq_emod_of_nonneg (by omega), hc, hx, hy]; simp only [cry]; omega
      have hq : (c + x + y).tdiv 65536 = cry sa sb 8 := by rw [Int.tdiv_eq_ediv_of_nonneg (by omega), hc, hx, hy]; simp only [cry]; omega
      obtain ⟨r, hr'⟩ : ∃ r, r = (sa + sb) / 5192296858534827628530496329220096 % 65536 := ⟨_, rfl⟩
      obtain ⟨q, hq'⟩ : ∃ q, q = cry sa sb 8 := ⟨_, rfl⟩
      rw [← hr'] at hr
      rw [← hq'] at hq
      rw [← hc]
      have HQ := Lib.hid (And.intro hr' hq')
      have hqb : 0 ≤ q ∧ q ≤ 1 := by rw [hq']; simp only [cry]; omega
      have e1 : IntKind.i64.wrap (c + x) = c + x := IntWalk.i64_in _ (by omega)
      have e2 : IntKind.i64.wrap (c + x + y) = c + x + y := IntWalk.i64_in _ (by omega)
      clear hx hy hc hr' hq' z0
      go_wp2_with fail
      refine wp_region_split_lit [] [0, 1, 2, 3, 4, 5, 6, 7, 8, 9] [] (by kernel_rfl) (by kernel_rfl) (fun _ _ dd _ _ hh => by cases dd <;> exact hh) ?_
      simp only [pickOps, List.getElem?_cons_succ, List.getElem?_cons_zero]
      refine wpQuiet_nil ?_
      repeat (go_big_quiet_step (fail))
      refine wpQuiet_nil ?_
      intro w7 hw'
      obtain ⟨j, rfl⟩ := hw'
      go_wp2_with fail
      have hd : LmR W b (plK (sa + sb) 7) (wr.drewN j) := ⟨HI.out.blk, HI.out.chg.trans (Chg.of_ext (Ext.drewN wr j)) (fun _ _ e => e)⟩
      have h1 := hd.set 7 (.int .i64 r)
      rw [HQ.out.1] at h1
      exact ⟨⟨8, by omega, rfl, by rw [HQ.out.2], Lib.hid (by rw [HQ.out.1]; simpa [plK] using h1)⟩, by simp [RowKit.intOf]⟩
    · clear z0
      have HZ0r : Hid (wr.heap[w.heap.size + 2]? = some (.cells (plK 0 0) 88 (0, 0))) := Lib.hid ((HI.out.chg.block _ (block_lt HZ0.out) (by have := HBN.out; omega)).trans HZ0.out)
      have HE : Hid (plK (sa + sb) 8 = lmA (sa + sb)) := Lib.hid rfl
      rw [HE.out] at HI
      obtain ⟨C, hC⟩ : ∃ C, C = lmA (sa + sb) := ⟨_, rfl⟩
      rw [← hC] at HI
      have HC := Lib.hid hC
      clear hC
      go_wp2_with (first | (refine wpList_load_box rfl _ _ rfl _ _ _ _ _ rfl HI.out.blk Tryz.underlying88 rfl (by rw [HC.out]; exact lm_info) ?_) | (refine wpList_store_box rfl _ _ _ rfl _ _ _ _ rfl rfl HZ0r.out (by rw [HC.out]; rfl) (by rw [HC.out]; exact lm_info) (by rw [HC.out]; simp [lmA, Value.oneCell']) ?_; rintro w5 hb5 hc5; have HB5 := Lib.hid hb5; have HC5 := Lib.hid hc5; clear hb5 hc5))
      have hx := HXW.out
      have hbn := HBN.out
      exact bodyPost_ret (results_box Tryz.results119 _ _ rfl HB5.out Tryz.underlying88 rfl (by rw [HC.out]; exact lm_info)) rfl ⟨by rw [HC.out], (((Chg.of_ext (S := fun _ => False) hx).trans HI.out.chg (fun i hi e => by omega)).trans HC5.out (fun i hi e => by omega)).ext (fun _ _ e => e)⟩

end Go.Proofs.YtokllgdbmnmieaaGreat

/-! The document's limbs: Add. -/

namespace Go.Proofs.YtokllgdbmnmieaaGreat
open Go.RowKit Go.Lib Go.Sort

set_option maxHeartbeats 2000000 in
set_option maxRecDepth 100000 in
/-- Add, where it fits. -/
theorem radd_any (sa sb : Int) (w : World) (a1 : -170141183460469231731687303715884105728 ≤ sa) (a2 : sa < 170141183460469231731687303715884105728) (b1 : -170141183460469231731687303715884105728 ≤ sb) (b2 : sb < 170141183460469231731687303715884105728)
    (c1 : -170141183460469231731687303715884105728 ≤ sa + sb) (c2 : sa + sb < 170141183460469231731687303715884105728) :
    Calls Tryz.prog 101 #[.agg (lmA sa), .agg (lmA sb)] w fun e w' => e = .returned (.tuple #[.agg (lmA (sa + sb)), .bool true]) ∧ Ext w w' := by
  have HPL := Lib.hid (fun W => rplus_any sa sb W)
  have HNA := Lib.hid (fun W => negative_any sa W a1 a2)
  have HNB := Lib.hid (fun W => negative_any sb W b1 b2)
  have HNC := Lib.hid (fun W => negative_any (sa + sb) W c1 c2)
  have HNN : Hid (decide (sa < 0) = decide (sb < 0) → decide (sa + sb < 0) = decide (sa < 0)) := Lib.hid (fun h => by rw [decide_eq_decide] at h ⊢; omega)
  obtain ⟨A, hA⟩ : ∃ A, A = lmA sa := ⟨_, rfl⟩
  obtain ⟨B, hB⟩ : ∃ B, B = lmA sb := ⟨_, rfl⟩
  obtain ⟨C, hC⟩ : ∃ C, C = lmA (sa + sb) := ⟨_, rfl⟩
  obtain ⟨na, hna⟩ : ∃ n, n = decide (sa < 0) := ⟨_, rfl⟩
  obtain ⟨nb, hnb⟩ : ∃ n, n = decide (sb < 0) := ⟨_, rfl⟩
  obtain ⟨nc, hnc⟩ : ∃ n, n = decide (sa + sb < 0) := ⟨_, rfl⟩
  rw [← hA, ← hB, ← hC] at HPL
  rw [← hA, ← hna] at HNA
  rw [← hB, ← hnb] at HNB
  rw [← hC, ← hnc] at HNC
  rw [← hna, ← hnb, ← hnc] at HNN
  rw [← hA, ← hB, ← hC]
  have HA := Lib.hid hA
  have HB := Lib.hid hB
  have HC := Lib.hid hC
  clear hA hB hC hna hnb hnc a1 a2 b1 b2 c1 c2
  go_enter Tryz.func101, Tryz.ntmps101
  have HI8 : Hid ((Tryz.prog.info? 88).map (·.size) = some A.size ∧ (Tryz.prog.info? 88).map (·.size) = some B.size ∧ (Tryz.prog.info? 88).map (·.size) = some C.size) := Lib.hid ⟨by rw [HA.out]; exact lm_info, by rw [HB.out]; exact lm_info, by rw [HC.out]; exact lm_info⟩
  have HBA : Hid ((((w.alloc (.cells A 88 (0, 0))).alloc (.cells B 88 (0, 0))).alloc (.cells #[.int .i64 0, .int .i64 0, .int .i64 0, .int .i64 0, .int .i64 0, .int .i64 0, .int .i64 0, .int .i64 0] 88 (0, 0))).heap[w.heap.size]? = some (.cells A 88 (0, 0))) := Lib.hid (by
    have h0 := heap_alloc_new w (.cells A 88 (0, 0))
    exact ((((Ext.refl _).alloc _).alloc _) |>.block (block_lt h0)).trans h0)
  have HBB : Hid ((((w.alloc (.cells A 88 (0, 0))).alloc (.cells B 88 (0, 0))).alloc (.cells #[.int .i64 0, .int .i64 0, .int .i64 0, .int .i64 0, .int .i64 0, .int .i64 0, .int .i64 0, .int .i64 0] 88 (0, 0))).heap[w.heap.size + 1]? = some (.cells B 88 (0, 0))) := Lib.hid (by
    have h0 := heap_alloc2 w (.cells A 88 (0, 0)) (.cells B 88 (0, 0))
    exact ((((Ext.refl _).alloc _)) |>.block (block_lt h0)).trans h0)
  have HBZ : Hid ((((w.alloc (.cells A 88 (0, 0))).alloc (.cells B 88 (0, 0))).alloc (.cells #[.int .i64 0, .int .i64 0, .int .i64 0, .int .i64 0, .int .i64 0, .int .i64 0, .int .i64 0, .int .i64 0] 88 (0, 0))).heap[w.heap.size + 2]? = some (.cells #[.int .i64 0, .int .i64 0, .int .i64 0, .int .i64 0, .int .i64 0, .int .i64 0, .int .i64 0, .int .i64 0] 88 (0, 0))) := Lib.hid (heap_alloc3' w _ _ _)
  have HX0 : Hid (Ext w (((w.alloc (.cells A 88 (0, 0))).alloc (.cells B 88 (0, 0))).alloc (.cells #[.int .i64 0, .int .i64 0, .int .i64 0, .int .i64 0, .int .i64 0, .int .i64 0, .int .i64 0, .int .i64 0] 88 (0, 0)))) := Lib.hid ((((Ext.refl w).alloc _).alloc _).alloc _)
  go_wp2_with (first | (refine wpList_load_box rfl _ _ rfl _ _ _ _ _ rfl HBA.out Tryz.underlying88 rfl HI8.out.1 ?_) | (refine wpList_load_box rfl _ _ rfl _ _ _ _ _ rfl HBB.out Tryz.underlying88 rfl HI8.out.2.1 ?_))
  refine (HPL.out _).mono ?_
  rintro e w1 ⟨rfl, hx1⟩
  have HX1 := Lib.hid (HX0.out.trans hx1)
  have HA1 := Lib.hid ((hx1.block (block_lt HBA.out)).trans HBA.out)
  have HB1 := Lib.hid ((hx1.block (block_lt HBB.out)).trans HBB.out)
  have HZ1 := Lib.hid ((hx1.block (block_lt HBZ.out)).trans HBZ.out)
  clear hx1 HBA HBB HBZ HX0
  go_wp2_with (first | (refine wpList_store_box rfl _ _ _ rfl _ _ _ _ rfl rfl (heap_alloc_new w1 _) (by rw [HC.out]; rfl) HI8.out.2.2 (by rw [HC.out]; simp [lmA, Value.oneCell']) ?_; rintro w2 hb2 hc2; have HC2 := Lib.hid hb2; have HX2 : Hid (Ext w1 w2) := Lib.hid (((Chg.of_ext ((Ext.refl w1).alloc _)).trans hc2 (fun _ _ e => e)).ext (fun i hi e => by omega)); clear hb2 hc2))
  have HA2 := Lib.hid ((HX2.out.block (block_lt HA1.out)).trans HA1.out)
  have HB2 := Lib.hid ((HX2.out.block (block_lt HB1.out)).trans HB1.out)
  have HZ2 := Lib.hid ((HX2.out.block (block_lt HZ1.out)).trans HZ1.out)
  have f0 : ∀ d os, (Instr.loadAt 88 (.pointer (some ⟨w.heap.size, 0, none⟩))).run Tryz.prog (grow (redrawn w2 d) os) = .ok (.agg A) (grow (redrawn w2 d) os) := fun d os => load_box_run (P := Tryz.prog) (((Ext.regrown w2 d os).block (block_lt HA2.out)).trans HA2.out) Tryz.underlying88 rfl HI8.out.1
  have f1 : ∀ d os, (Instr.loadAt 88 (.pointer (some ⟨w.heap.size + 1, 0, none⟩))).run Tryz.prog (grow (redrawn w2 d) os) = .ok (.agg B) (grow (redrawn w2 d) os) := fun d os => load_box_run (P := Tryz.prog) (((Ext.regrown w2 d os).block (block_lt HB2.out)).trans HB2.out) Tryz.underlying88 rfl HI8.out.2.1
  have f2 : ∀ d os, (Instr.loadAt 88 (.pointer (some ⟨w1.heap.size, 0, none⟩))).run Tryz.prog (grow (redrawn w2 d) os) = .ok (.agg C) (grow (redrawn w2 d) os) := fun d os => load_box_run (P := Tryz.prog) (((Ext.regrown w2 d os).block (block_lt HC2.out)).trans HC2.out) Tryz.underlying88 rfl HI8.out.2.2
  have GA : Hid (∀ (d : Nat) (os : Array Obj), Calls Tryz.prog 117 #[.agg A] (grow (redrawn w2 d) os) fun e w'' => e = .returned (.bool na) ∧ ∃ p : Regrown, w'' = grow (redrawn w2 p.d) p.os) := Lib.hid (fun d os => Calls.grown_of (HNA.out _))
  have GB : Hid (∀ (d : Nat) (os : Array Obj), Calls Tryz.prog 117 #[.agg B] (grow (redrawn w2 d) os) fun e w'' => e = .returned (.bool nb) ∧ ∃ p : Regrown, w'' = grow (redrawn w2 p.d) p.os) := Lib.hid (fun d os => Calls.grown_of (HNB.out _))
  have GC : Hid (∀ (d : Nat) (os : Array Obj), Calls Tryz.prog 117 #[.agg C] (grow (redrawn w2 d) os) fun e w'' => e = .returned (.bool nc) ∧ ∃ p : Regrown, w'' = grow (redrawn w2 p.d) p.os) := Lib.hid (fun d os => Calls.grown_of (HNC.out _))
  simp only [Act.put]
  refine wp_region_quiet_below (by kernel_rfl) (by kernel_rfl) ?_
  cases na <;> cases nb <;> cases nc
  all_goals try exact absurd (HNN.out rfl) (by decide)
  all_goals
    repeat (first | (go_big_quiet_want; refine quiet_load_law _ _ rfl _ _ rfl (fun w hw => by obtain ⟨p, rfl⟩ := hw; exact f0 p.d p.os) ?_; go_big_quiet_on; simp only [Act.put, List.setIfInBounds_toArray, List.set_cons_succ, List.set_cons_zero]) | (go_big_quiet_want; refine quiet_load_law _ _ rfl _ _ rfl (fun w hw => by obtain ⟨p, rfl⟩ := hw; exact f1 p.d p.os) ?_; go_big_quiet_on; simp only [Act.put, List.setIfInBounds_toArray, List.set_cons_succ, List.set_cons_zero]) | (go_big_quiet_want; refine quiet_load_law _ _ rfl _ _ rfl (fun w hw => by obtain ⟨p, rfl⟩ := hw; exact f2 p.d p.os) ?_; go_big_quiet_on; simp only [Act.put, List.setIfInBounds_toArray, List.set_cons_succ, List.set_cons_zero]) | (go_big_quiet_step (first | (go_at_call 117; first | exact GA.out _ _ | exact GB.out _ _ | exact GC.out _ _))))
    refine wpQuiet_nil ?_
    intro w4 hw'
    have HX4 : Hid (Ext w2 w4) := Lib.hid (by obtain ⟨p, rfl⟩ := hw'; exact Ext.regrown _ _ _)
    have HC4 := Lib.hid ((HX4.out.block (block_lt HC2.out)).trans HC2.out)
    have HZ4 := Lib.hid ((HX4.out.block (block_lt HZ2.out)).trans HZ2.out)
    clear hw' f0 f1 f2
    go_wp2_with (first | (refine wpList_load_box rfl _ _ rfl _ _ _ _ _ rfl HC4.out Tryz.underlying88 rfl HI8.out.2.2 ?_) | (refine wpList_store_box rfl _ _ _ rfl _ _ _ _ rfl rfl HZ4.out (by rw [HC.out]; rfl) HI8.out.2.2 (by rw [HC.out]; simp [lmA, Value.oneCell']) ?_; rintro w5 hb5 hc5; have HB5 := Lib.hid hb5; have HC5 := Lib.hid hc5; clear hb5 hc5))
    have hx := HX1.out.trans (HX2.out.trans HX4.out)
    exact bodyPost_ret (results_box_tmp Tryz.results101 _ _ rfl HB5.out Tryz.underlying88 rfl HI8.out.2.2) rfl ⟨rfl, ((Chg.of_ext (S := fun _ => False) hx).trans HC5.out (fun i hi e => by omega)).ext (fun _ _ e => e)⟩
end Go.Proofs.YtokllgdbmnmieaaGreat

/-! The document's limbs: Minus. -/

namespace Go.Proofs.YtokllgdbmnmieaaGreat
open Go.RowKit Go.Lib Go.Sort

theorem lm_one : lmA 1 = #[.int .i64 1, .int .i64 0, .int .i64 0, .int .i64 0, .int .i64 0, .int .i64 0, .int .i64 0, .int .i64 0] := by
  unfold lmA
  rfl

set_option maxHeartbeats 2000000 in
set_option maxRecDepth 100000 in
theorem rminus_any (sa : Int) (w : World) :
    Calls Tryz.prog 118 #[.agg (lmA sa)] w fun e w' => e = .returned (.agg (lmA (-sa))) ∧ Ext w w' := by
  have HPL := Lib.hid (fun W => rplus_any (-sa - 1) 1 W)
  have e0 : -sa - 1 + 1 = -sa := by omega
  rw [e0, lm_one] at HPL
  obtain ⟨A, hA⟩ : ∃ A, A = lmA sa := ⟨_, rfl⟩
  obtain ⟨C, hC⟩ : ∃ A, A = lmA (-sa - 1) := ⟨_, rfl⟩
  obtain ⟨D, hD⟩ : ∃ A, A = lmA (-sa) := ⟨_, rfl⟩
  rw [← hC, ← hD] at HPL
  rw [← hA, ← hD]
  have HA := Lib.hid hA
  have HC := Lib.hid hC
  have HD := Lib.hid hD
  clear hA hC hD e0
  go_enter Tryz.func118, Tryz.ntmps118
  go_wp2_with fail
  generalize hW : World.alloc _ _ = W
  have HXW : Hid (Ext w W) := Lib.hid (by subst hW; exact (((Ext.refl w).alloc _).alloc _).alloc _)
  have HBA : Hid (W.heap[w.heap.size]? = some (.cells A 88 (0, 0))) := Lib.hid (by
    subst hW
    have h0 := heap_alloc_new w (.cells A 88 (0, 0))
    exact ((((Ext.refl _).alloc _).alloc _) |>.block (block_lt h0)).trans h0)
  have HZ0 : Hid (W.heap[w.heap.size + 1]? = some (.cells (plK 0 0) 88 (0, 0))) := Lib.hid (by
    subst hW
    have h0 := heap_alloc2 w (.cells A 88 (0, 0)) (.cells (plK 0 0) 88 (0, 0))
    exact (((Ext.refl _).alloc _) |>.block (block_lt h0)).trans h0)
  have HZ1 : Hid (LmR W (w.heap.size + 2) (plK (-sa - 1) 0) W) := Lib.hid ⟨by subst hW; exact heap_alloc3' w _ _ _, Chg.refl _ _⟩
  clear hW
  obtain ⟨b, hb⟩ : ∃ b, b = w.heap.size + 2 := ⟨_, rfl⟩
  rw [← hb] at HZ1
  have HBN : Hid (b = w.heap.size + 2) := Lib.hid hb
  try rw [← hb]
  clear hb
  go_loopw [4] (fun s4 wr => ∃ k : Nat, k ≤ 8 ∧ s4 = .int .i64 k ∧ Hid (LmR W b (plK (-sa - 1) k) wr)) (fun i _ => 8 - (RowKit.intOf i).toNat)
  case atStart => exact ⟨0, by omega, rfl, HZ1⟩
  case round =>
    obtain ⟨k, hk, rfl, HI⟩ := hrel
    have z0 := free_of_block HI.out.blk
    have hbn := HBN.out
    have HRA := Lib.hid ((HI.out.chg.block _ (block_lt HBA.out) (by omega)).trans HBA.out)
    clear hbn
    have hk9 : k = 0 ∨ k = 1 ∨ k = 2 ∨ k = 3 ∨ k = 4 ∨ k = 5 ∨ k = 6 ∨ k = 7 ∨ k = 8 := by omega
    rcases hk9 with rfl | rfl | rfl | rfl | rfl | rfl | rfl | rfl | rfl
    · obtain ⟨x, hx⟩ : ∃ x, x = sa % 65536 := ⟨_, rfl⟩
      have c0 : wr.cell? ⟨w.heap.size, 0, none⟩ = some (.int .i64 x) := by have := cell_of_block HRA.out 0; rw [HA.out] at this; rw [hx]; simpa [lmA] using this
      have c1 : wr.cell? ⟨b, 0, none⟩ = some (.int .i64 0) := by have := cell_of_block HI.out.blk 0; simpa [plK] using this
      have f0 := z0 0
      have x0 : 0 ≤ x := by omega
      have x1 : x < 65536 := by omega
      have HE : Hid (65535 - x = (-sa - 1) % 65536) := Lib.hid (by omega)
      clear z0 hx
      go_wp2_with fail
      have h1 := HI.out.set 0 (.int .i64 (65535 - x))
      exact ⟨⟨1, by omega, rfl, Lib.hid (by rw [HE.out] at h1 ⊢; simpa [plK] using h1)⟩, by simp [RowKit.intOf]⟩
    · obtain ⟨x, hx⟩ : ∃ x, x = sa / 65536 % 65536 := ⟨_, rfl⟩
      have c0 : wr.cell? ⟨w.heap.size, 1, none⟩ = some (.int .i64 x) := by have := cell_of_block HRA.out 1; rw [HA.out] at this; rw [hx]; simpa [lmA] using this
      have c1 : wr.cell? ⟨b, 1, none⟩ = some (.int .i64 0) := by have := cell_of_block HI.out.blk 1; simpa [plK] using this
      have f0 := z0 1
      have x0 : 0 ≤ x := by omega
      have x1 : x < 65536 := by omega
      have HE : Hid (65535 - x = (-sa - 1) / 65536 % 65536) := Lib.hid (by omega)
      clear z0 hx
      go_wp2_with fail
      have h1 := HI.out.set 1 (.int .i64 (65535 - x))
      exact ⟨⟨2, by omega, rfl, Lib.hid (by rw [HE.out] at h1 ⊢; simpa [plK] using h1)⟩, by simp [RowKit.intOf]⟩
    · obtain ⟨x, hx⟩ : ∃ x, x = sa / 4294967296 % 65536 := ⟨_, rfl⟩
      have c0 : wr.cell? ⟨w.heap.size, 2, none⟩ = some (.int .i64 x) := by have := cell_of_block HRA.out 2; rw [HA.out] at this; rw [hx]; simpa [lmA] using this
      have c1 : wr.cell? ⟨b, 2, none⟩ = some (.int .i64 0) := by have := cell_of_block HI.out.blk 2; simpa [plK] using this
      have f0 := z0 2
      have x0 : 0 ≤ x := by omega
      have x1 : x < 65536 := by omega
      have HE : Hid (65535 - x = (-sa - 1) / 4294967296 % 65536) := Lib.hid (by omega)
      clear z0 hx
      go_wp2_with fail
      have h1 := HI.out.set 2 (.int .i64 (65535 - x))
      exact ⟨⟨3, by omega, rfl, Lib.hid (by rw [HE.out] at h1 ⊢; simpa [plK] using h1)⟩, by simp [RowKit.intOf]⟩
    · obtain ⟨x, hx⟩ : ∃ x, x = sa / 281474976710656 % 65536 := ⟨_, rfl⟩
      have c0 : wr.cell? ⟨w.heap.size, 3, none⟩ = some (.int .i64 x) := by have := cell_of_block HRA.out 3; rw [HA.out] at this; rw [hx]; simpa [lmA] using this
      have c1 : wr.cell? ⟨b, 3, none⟩ = some (.int .i64 0) := by have := cell_of_block HI.out.blk 3; simpa [plK] using this
      have f0 := z0 3
      have x0 : 0 ≤ x := by omega
      have x1 : x < 65536 := by omega
      have HE : Hid (65535 - x = (-sa - 1) / 281474976710656 % 65536) := Lib.hid (by omega)
      clear z0 hx
      go_wp2_with fail
      have h1 := HI.out.set 3 (.int .i64 (65535 - x))
      exact ⟨⟨4, by omega, rfl, Lib.hid (by rw [HE.out] at h1 ⊢; simpa [plK] using h1)⟩, by simp [RowKit.intOf]⟩
    · obtain ⟨x, hx⟩ : ∃ x, x = sa / 18446744073709551616 % 65536 := ⟨_, rfl⟩
      have c0 : wr.cell? ⟨w.heap.size, 4, none⟩ = some (.int .i64 x) := by have := cell_of_block HRA.out 4; rw [HA.out] at this; rw [hx]; simpa [lmA] using this
      have c1 : wr.cell? ⟨b, 4, none⟩ = some (.int .i64 0) := by have := cell_of_block HI.out.blk 4; simpa [plK] using this
      have f0 := z0 4
      have x0 : 0 ≤ x := by omega
      have x1 : x < 65536 := by omega
      have HE : Hid (65535 - x = (-sa - 1) / 18446744073709551616 % 65536) := Lib.hid (by omega)
      clear z0 hx
      go_wp2_with fail
      have h1 := HI.out.set 4 (.int .i64 (65535 - x))
      exact ⟨⟨5, by omega, rfl, Lib.hid (by rw [HE.out] at h1 ⊢; simpa [plK] using h1)⟩, by simp [RowKit.intOf]⟩
    · obtain ⟨x, hx⟩ : ∃ x, x = sa / 1208925819614629174706176 % 65536 := ⟨_, rfl⟩
      have c0 : wr.cell? ⟨w.heap.size, 5, none⟩ = some (.int .i64 x) := by have := cell_of_block HRA.out 5; rw [HA.out] at this; rw [hx]; simpa [lmA] using this
      have c1 : wr.cell? ⟨b, 5, none⟩ = some (.int .i64 0) := by have := cell_of_block HI.out.blk 5; simpa [plK] using this
      have f0 := z0 5
      have x0 : 0 ≤ x := by omega
      have x1 : x < 65536 := by omega
      have HE : Hid (65535 - x = (-sa - 1) / 1208925819614629174706176 % 65536) := Lib.hid (by omega)
      clear z0 hx
      go_wp2_with fail
      have h1 := HI.out.set 5 (.int .i64 (65535 - x))
      exact ⟨⟨6, by omega, rfl, Lib.hid (by rw [HE.out] at h1 ⊢; simpa [plK] using h1)⟩, by simp [RowKit.intOf]⟩
    · obtain ⟨x, hx⟩ : ∃ x, x = sa / 79228162514264337593543950336 % 65536 := ⟨_, rfl⟩
      have c0 : wr.cell? ⟨w.heap.size, 6, none⟩ = some (.int .i64 x) := by have := cell_of_block HRA.out 6; rw [HA.out] at this; rw [hx]; simpa [lmA] using this
      have c1 : wr.cell? ⟨b, 6, none⟩ = some (.int .i64 0) := by have := cell_of_block HI.out.blk 6; simpa [plK] using this
      have f0 := z0 6
      have x0 : 0 ≤ x := by omega
      have x1 : x < 65536 := by omega
      have HE : Hid (65535 - x = (-sa - 1) / 79228162514264337593543950336 % 65536) := Lib.hid (by omega)
      clear z0 hx
      go_wp2_with fail
      have h1 := HI.out.set 6 (.int .i64 (65535 - x))
      exact ⟨⟨7, by omega, rfl, Lib.hid (by rw [HE.out] at h1 ⊢; simpa [plK] using h1)⟩, by simp [RowKit.intOf]⟩
    · obtain ⟨x, hx⟩ : ∃ x, x = sa / 5192296858534827628530496329220096 % 65536 := ⟨_, rfl⟩
      have c0 : wr.cell? ⟨w.heap.size, 7, none⟩ = some (.int .i64 x) := by have := cell_of_block HRA.out 7; rw [HA.out] at this; rw [hx]; simpa [lmA] using this
      have c1 : wr.cell? ⟨b, 7, none⟩ = some (.int .i64 0) := by have := cell_of_block HI.out.blk 7; simpa [plK] using this
      have f0 := z0 7
      have x0 : 0 ≤ x := by omega
      have x1 : x < 65536 := by omega
      have HE : Hid (65535 - x = (-sa - 1) / 5192296858534827628530496329220096 % 65536) := Lib.hid (by omega)
      clear z0 hx
      go_wp2_with fail
      have h1 := HI.out.set 7 (.int .i64 (65535 - x))
      exact ⟨⟨8, by omega, rfl, Lib.hid (by rw [HE.out] at h1 ⊢; simpa [plK] using h1)⟩, by simp [RowKit.intOf]⟩
    · clear z0
      have HZ0r : Hid (wr.heap[w.heap.size + 1]? = some (.cells (plK 0 0) 88 (0, 0))) := Lib.hid ((HI.out.chg.block _ (block_lt HZ0.out) (by have := HBN.out; omega)).trans HZ0.out)
      have HE : Hid (plK (-sa - 1) 8 = C) := Lib.hid (by rw [HC.out]; rfl)
      rw [HE.out] at HI
      go_wp2_with (first | (refine wpList_load_box rfl _ _ rfl _ _ _ _ _ rfl HI.out.blk Tryz.underlying88 rfl (by rw [HC.out]; exact lm_info) ?_))
      refine (HPL.out _).mono ?_
      rintro e w3 ⟨rfl, hx3⟩
      have HX3 := Lib.hid hx3
      have HZ3 := Lib.hid ((hx3.block (block_lt HZ0r.out)).trans HZ0r.out)
      clear hx3
      go_wp2_with (first | (refine wpList_store_box rfl _ _ _ rfl _ _ _ _ rfl rfl HZ3.out (by rw [HD.out]; rfl) (by rw [HD.out]; exact lm_info) (by rw [HD.out]; simp [lmA, Value.oneCell']) ?_; rintro w5 hb5 hc5; have HB5 := Lib.hid hb5; have HC5 := Lib.hid hc5; clear hb5 hc5))
      have hx := HXW.out
      have hbn := HBN.out
      exact bodyPost_ret (results_box Tryz.results118 _ _ rfl HB5.out Tryz.underlying88 rfl (by rw [HD.out]; exact lm_info)) rfl ⟨rfl, ((((Chg.of_ext (S := fun _ => False) hx).trans HI.out.chg (fun i hi e => by omega)).trans (Chg.of_ext (S := fun _ => False) HX3.out) (fun i hi e => e)).trans HC5.out (fun i hi e => by omega)).ext (fun _ _ e => e)⟩

theorem run_eq8 (d : Nat) (x0 x1 x2 x3 x4 x5 x6 x7 : Int) (W : World) (h : ¬ (x0 = 0 ∧ x1 = 0 ∧ x2 = 0 ∧ x3 = 0 ∧ x4 = 0 ∧ x5 = 0 ∧ x6 = 0 ∧ x7 = 0)) :
    (Op.equalIn (d + 2) 88 (.agg #[.int .i64 x0, .int .i64 x1, .int .i64 x2, .int .i64 x3, .int .i64 x4, .int .i64 x5, .int .i64 x6, .int .i64 x7]) (.agg #[.int .i64 0, .int .i64 0, .int .i64 0, .int .i64 0, .int .i64 0, .int .i64 0, .int .i64 0, .int .i64 0])).run Tryz.prog W = .ok false W := by
  obtain ⟨i, hi⟩ := info_of_underlying Tryz.underlying3
  have hc : Tryz.prog.cellsOf 3 = 1 := by kernel_rfl
  have hp : ∀ (xs : Array Value) (k : Nat) (v : Value), xs[k]? = some v → (part 3 xs k).run Tryz.prog W = .ok v W := fun xs k v h => run_part_plain W (by kernel_rfl) h
  have hq : ∀ a b : Int, (Op.equalIn (d + 1) 3 (.int .i64 a) (.int .i64 b)).run Tryz.prog W = .ok (a == b) W := fun a b => run_equalIn_int (P := Tryz.prog) (w := W) d 3 .i64 .i64 a b Tryz.underlying3
  have st : ∀ (xs ys : Array Value) (k : Nat) (z : Int) (is : List Nat), xs[k]? = some (.int .i64 z) → ys[k]? = some (.int .i64 0) → (Op.eqItems (d + 1) 3 1 xs ys (k :: is)).run Tryz.prog W = if z = 0 then (Op.eqItems (d + 1) 3 1 xs ys is).run Tryz.prog W else .ok false W := fun xs ys k z is h1 h2 => by
    simp only [Op.eqItems, Nat.mul_one, Sem.run_bind, hp xs k _ h1, hp ys k _ h2, Result.andThen_ok, hq]
    by_cases hz : z = 0
    · subst hz; simp
    · simp [hz]
  rw [run_equalIn_array W (d + 1) _ _ Tryz.underlying88 hi, show List.range 8 = [0, 1, 2, 3, 4, 5, 6, 7] from rfl, hc]
  rw [st _ _ 0 x0 _ rfl rfl]
  by_cases h0 : x0 = 0
  · rw [if_pos h0, st _ _ 1 x1 _ rfl rfl]
    by_cases h1 : x1 = 0
    · rw [if_pos h1, st _ _ 2 x2 _ rfl rfl]
      by_cases h2 : x2 = 0
      · rw [if_pos h2, st _ _ 3 x3 _ rfl rfl]
        by_cases h3 : x3 = 0
        · rw [if_pos h3, st _ _ 4 x4 _ rfl rfl]
          by_cases h4 : x4 = 0
          · rw [if_pos h4, st _ _ 5 x5 _ rfl rfl]
            by_cases h5 : x5 = 0
            · rw [if_pos h5, st _ _ 6 x6 _ rfl rfl]
              by_cases h6 : x6 = 0
              · rw [if_pos h6, st _ _ 7 x7 _ rfl rfl]
                by_cases h7 : x7 = 0
                · exact absurd ⟨h0, h1, h2, h3, h4, h5, h6, h7⟩ h
                · rw [if_neg h7]
              · rw [if_neg h6]
            · rw [if_neg h5]
          · rw [if_neg h4]
        · rw [if_neg h3]
      · rw [if_neg h2]
    · rw [if_neg h1]
  · rw [if_neg h0]
theorem run_eq8z (d : Nat) (W : World) :
    (Op.equalIn (d + 2) 88 (.agg #[.int .i64 0, .int .i64 0, .int .i64 0, .int .i64 0, .int .i64 0, .int .i64 0, .int .i64 0, .int .i64 0]) (.agg #[.int .i64 0, .int .i64 0, .int .i64 0, .int .i64 0, .int .i64 0, .int .i64 0, .int .i64 0, .int .i64 0])).run Tryz.prog W = .ok true W := by
  obtain ⟨i, hi⟩ := info_of_underlying Tryz.underlying3
  have hc : Tryz.prog.cellsOf 3 = 1 := by kernel_rfl
  have hp : ∀ (xs : Array Value) (k : Nat) (v : Value), xs[k]? = some v → (part 3 xs k).run Tryz.prog W = .ok v W := fun xs k v h => run_part_plain W (by kernel_rfl) h
  have hq : ∀ a b : Int, (Op.equalIn (d + 1) 3 (.int .i64 a) (.int .i64 b)).run Tryz.prog W = .ok (a == b) W := fun a b => run_equalIn_int (P := Tryz.prog) (w := W) d 3 .i64 .i64 a b Tryz.underlying3
  have st : ∀ (xs ys : Array Value) (k : Nat) (is : List Nat), xs[k]? = some (.int .i64 0) → ys[k]? = some (.int .i64 0) → (Op.eqItems (d + 1) 3 1 xs ys (k :: is)).run Tryz.prog W = (Op.eqItems (d + 1) 3 1 xs ys is).run Tryz.prog W := fun xs ys k is h1 h2 => by
    simp only [Op.eqItems, Nat.mul_one, Sem.run_bind, hp xs k _ h1, hp ys k _ h2, Result.andThen_ok, hq]
    simp
  rw [run_equalIn_array W (d + 1) _ _ Tryz.underlying88 hi, show List.range 8 = [0, 1, 2, 3, 4, 5, 6, 7] from rfl, hc]
  rw [st _ _ 0 _ rfl rfl, st _ _ 1 _ rfl rfl, st _ _ 2 _ rfl rfl, st _ _ 3 _ rfl rfl, st _ _ 4 _ rfl rfl, st _ _ 5 _ rfl rfl, st _ _ 6 _ rfl rfl, st _ _ 7 _ rfl rfl]
  simp [Op.eqItems]
end Go.Proofs.YtokllgdbmnmieaaGreat
