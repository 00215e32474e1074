/- The document's limbs: Limbs, Negative, Plus, Add. -/
import Derived.Test.YtipbniaehhoaaaaDoorBox
namespace Go.Proofs.YtipbniaehhoaaaaDoor
open Go.RowKit Go.Lib Go.Sort

theorem quiet_load_law {P : Program} {C : World → Prop} {o : Oper} {a : Act} {K : Act → Prop} (ty : TypeId) (x : Operand) (ho : o.op = .load ty x) (p v : Value) (hx : a.eval x = p)
    (hl : ∀ w, C w → (Instr.loadAt ty p).run P w = .ok v w) (hk : K (a.put o.dst v)) : o.quiet P a C K :=
  ⟨v, fun w hw => by
    unfold Oper.quietAt execOp
    simp only [ho, hx, Sem.run_bind, hl w hw, Result.andThen_ok, Sem.run_pure]
    exact ⟨rfl, rfl⟩, hk⟩

/-- Eight parts of 16 bits. -/
def lmA (s : Int) : Array Value := #[.int .i64 (s % 65536), .int .i64 (s / 65536 % 65536), .int .i64 (s / 4294967296 % 65536), .int .i64 (s / 281474976710656 % 65536),
  .int .i64 (s / 18446744073709551616 % 65536), .int .i64 (s / 1208925819614629174706176 % 65536), .int .i64 (s / 79228162514264337593543950336 % 65536), .int .i64 (s / 5192296858534827628530496329220096 % 65536)]
theorem lm_info : (Tryd.prog.info? 28).map (·.size) = some 8 := by kernel_rfl

theorem heap_alloc3' (w : World) (o1 o2 o3 : Obj) : (((w.alloc o1).alloc o2).alloc o3).heap[w.heap.size + 2]? = some o3 := by
  have := heap_alloc_new ((w.alloc o1).alloc o2) o3
  simpa using this
theorem heap_alloc4 (w : World) (o1 o2 o3 o4 : Obj) : ((((w.alloc o1).alloc o2).alloc o3).alloc o4).heap[w.heap.size + 3]? = some o4 := by
  have := heap_alloc_new (((w.alloc o1).alloc o2).alloc o3) o4
  simpa using this
/-- So far. -/
structure LmR (W : World) (b : Nat) (cs : Array Value) (wr : World) : Prop where
  blk : wr.heap[b]? = some (.cells cs 28 (0, 0))
  chg : Chg (· = b) W wr
theorem LmR.set {W wr : World} {b : Nat} {cs : Array Value} (h : LmR W b cs wr) (i : Nat) (u : Value) : LmR W b (cs.setIfInBounds i u) (wr.setCell ⟨b, i, none⟩ u) :=
  ⟨setCell_block h.blk u, h.chg.trans (setCell_chg _ _ _ _) (fun _ _ e => e)⟩

def lmK (lo uh : Int) : Nat → Array Value
  | 0 => #[.int .i64 0, .int .i64 0, .int .i64 0, .int .i64 0, .int .i64 0, .int .i64 0, .int .i64 0, .int .i64 0]
  | 1 => #[.int .i64 (lo % 65536), .int .i64 0, .int .i64 0, .int .i64 0, .int .i64 (uh % 65536), .int .i64 0, .int .i64 0, .int .i64 0]
  | 2 => #[.int .i64 (lo % 65536), .int .i64 (lo / 65536 % 65536), .int .i64 0, .int .i64 0, .int .i64 (uh % 65536), .int .i64 (uh / 65536 % 65536), .int .i64 0, .int .i64 0]
  | 3 => #[.int .i64 (lo % 65536), .int .i64 (lo / 65536 % 65536), .int .i64 (lo / 4294967296 % 65536), .int .i64 0, .int .i64 (uh % 65536), .int .i64 (uh / 65536 % 65536), .int .i64 (uh / 4294967296 % 65536), .int .i64 0]
  | _ => #[.int .i64 (lo % 65536), .int .i64 (lo / 65536 % 65536), .int .i64 (lo / 4294967296 % 65536), .int .i64 (lo / 281474976710656 % 65536), .int .i64 (uh % 65536), .int .i64 (uh / 65536 % 65536), .int .i64 (uh / 4294967296 % 65536), .int .i64 (uh / 281474976710656 % 65536)]

set_option maxHeartbeats 2000000 in
set_option maxRecDepth 100000 in
theorem limbs_any (s : Int) (w : World) (h1 : -170141183460469231731687303715884105728 ≤ s) (h2 : s < 170141183460469231731687303715884105728) :
    Calls Tryd.prog 5 #[.int .i64 (s / 18446744073709551616), .int .u64 (s % 18446744073709551616)] w fun e w' => e = .returned (.agg (lmA s)) ∧ Ext w w' := by
  obtain ⟨hi, hhi⟩ : ∃ x, x = s / 18446744073709551616 := ⟨_, rfl⟩
  obtain ⟨lo, hlo⟩ : ∃ x, x = s % 18446744073709551616 := ⟨_, rfl⟩
  rw [← hhi, ← hlo]
  have HS := Lib.hid (And.intro hhi (And.intro hlo (And.intro h1 h2)))
  have hl0 : 0 ≤ lo := by omega
  have hl1 : lo < 18446744073709551616 := by omega
  obtain ⟨uh, huh⟩ : ∃ x, x = IntKind.u64.wrap hi := ⟨_, rfl⟩
  have HU := Lib.hid huh
  have huw := huh.symm
  have hu0 : 0 ≤ uh := by rw [huh, IntKind.wrap_u64]; omega
  have hu1 : uh < 18446744073709551616 := by rw [huh, IntKind.wrap_u64]; omega
  clear hhi hlo h1 h2 huh
  go_enter Tryd.func5, Tryd.ntmps5
  go_wp2_with fail
  generalize hW : World.alloc _ _ = W
  have HXW : Hid (Ext w W) := Lib.hid (by subst hW; exact ((Ext.refl w).alloc _).alloc _)
  have HZ0 : Hid (W.heap[w.heap.size]? = some (.cells #[.int .i64 0, .int .i64 0, .int .i64 0, .int .i64 0, .int .i64 0, .int .i64 0, .int .i64 0, .int .i64 0] 28 (0, 0))) := Lib.hid (by
    subst hW
    have h0 := heap_alloc_new w (.cells #[.int .i64 0, .int .i64 0, .int .i64 0, .int .i64 0, .int .i64 0, .int .i64 0, .int .i64 0, .int .i64 0] 28 (0, 0))
    exact ((((Ext.refl _).alloc _)).block (block_lt h0)).trans h0)
  have HZ1 : Hid (LmR W (w.heap.size + 1) #[.int .i64 0, .int .i64 0, .int .i64 0, .int .i64 0, .int .i64 0, .int .i64 0, .int .i64 0, .int .i64 0] W) := Lib.hid ⟨by subst hW; exact heap_alloc2 w _ _, Chg.refl _ _⟩
  clear hW
  obtain ⟨b, hb⟩ : ∃ b, b = w.heap.size + 1 := ⟨_, rfl⟩
  rw [← hb] at HZ1 ⊢
  have HBN : Hid (b = w.heap.size + 1) := Lib.hid hb
  clear hb
  go_loopw [7] (fun s7 wr => ∃ k : Nat, k ≤ 4 ∧ s7 = .int .i64 k ∧ Hid (LmR W b (lmK lo uh k) wr)) (fun i _ => 4 - (RowKit.intOf i).toNat)
  case atStart => exact ⟨0, by omega, rfl, HZ1⟩
  case round =>
    obtain ⟨k, hk, rfl, HI⟩ := hrel
    have z0 := free_of_block HI.out.blk
    have hk5 : k = 0 ∨ k = 1 ∨ k = 2 ∨ k = 3 ∨ k = 4 := by omega
    rcases hk5 with rfl | rfl | rfl | rfl | rfl
    · have c0 : wr.cell? ⟨b, 0, none⟩ = some (.int .i64 0) := by have := cell_of_block HI.out.blk 0; simpa [lmK] using this
      have c1 : wr.cell? ⟨b, 4, none⟩ = some (.int .i64 0) := by have := cell_of_block HI.out.blk 4; simpa [lmK] using this
      have f0 := z0 0
      have f1 := z0 4
      clear z0
      go_wp2_with fail
      have h1 := (HI.out.set 0 (.int .i64 (lo % 65536))).set 4 (.int .i64 (uh % 65536))
      exact ⟨⟨1, by omega, rfl, Lib.hid (by simpa [lmK] using h1)⟩, by simp [RowKit.intOf]⟩
    · have c0 : wr.cell? ⟨b, 1, none⟩ = some (.int .i64 0) := by have := cell_of_block HI.out.blk 1; simpa [lmK] using this
      have c1 : wr.cell? ⟨b, 5, none⟩ = some (.int .i64 0) := by have := cell_of_block HI.out.blk 5; simpa [lmK] using this
      have f0 := z0 1
      have f1 := z0 5
      clear z0
      go_wp2_with fail
      have h1 := (HI.out.set 1 (.int .i64 (lo / 65536 % 65536))).set 5 (.int .i64 (uh / 65536 % 65536))
      exact ⟨⟨2, by omega, rfl, Lib.hid (by simpa [lmK] using h1)⟩, by simp [RowKit.intOf]⟩
    · have c0 : wr.cell? ⟨b, 2, none⟩ = some (.int .i64 0) := by have := cell_of_block HI.out.blk 2; simpa [lmK] using this
      have c1 : wr.cell? ⟨b, 6, none⟩ = some (.int .i64 0) := by have := cell_of_block HI.out.blk 6; simpa [lmK] using this
      have f0 := z0 2
      have f1 := z0 6
      clear z0
      go_wp2_with fail
      have h1 := (HI.out.set 2 (.int .i64 (lo / 4294967296 % 65536))).set 6 (.int .i64 (uh / 4294967296 % 65536))
      exact ⟨⟨3, by omega, rfl, Lib.hid (by simpa [lmK] using h1)⟩, by simp [RowKit.intOf]⟩
    · have c0 : wr.cell? ⟨b, 3, none⟩ = some (.int .i64 0) := by have := cell_of_block HI.out.blk 3; simpa [lmK] using this
      have c1 : wr.cell? ⟨b, 7, none⟩ = some (.int .i64 0) := by have := cell_of_block HI.out.blk 7; simpa [lmK] using this
      have f0 := z0 3
      have f1 := z0 7
      clear z0
      go_wp2_with fail
      have h1 := (HI.out.set 3 (.int .i64 (lo / 281474976710656 % 65536))).set 7 (.int .i64 (uh / 281474976710656 % 65536))
      exact ⟨⟨4, by omega, rfl, Lib.hid (by simpa [lmK] using h1)⟩, by simp [RowKit.intOf]⟩
    · clear z0
      have HZ0r : Hid (wr.heap[w.heap.size]? = some (.cells #[.int .i64 0, .int .i64 0, .int .i64 0, .int .i64 0, .int .i64 0, .int .i64 0, .int .i64 0, .int .i64 0] 28 (0, 0))) := Lib.hid ((HI.out.chg.block _ (block_lt HZ0.out) (by have := HBN.out; omega)).trans HZ0.out)
      have HE : Hid (lmK lo uh 4 = lmA s) := Lib.hid (by
        obtain ⟨q1, q2, q3, q4⟩ := HS.out
        have q5 := HU.out
        rw [IntKind.wrap_u64] at q5
        unfold lmK lmA
        simp only [Array.mk.injEq, List.cons.injEq, Value.int.injEq, true_and, and_true]
        refine ⟨?_, ?_, ?_, ?_, ?_, ?_, ?_, ?_⟩ <;> omega)
      rw [HE.out] at HI
      obtain ⟨A, hA⟩ : ∃ A, A = lmA s := ⟨_, rfl⟩
      rw [← hA] at HI
      have HA := Lib.hid hA
      clear hA
      go_wp2_with (first | (refine wpList_load_box rfl _ _ rfl _ _ _ _ _ rfl HI.out.blk Tryd.underlying28 rfl (by rw [HA.out]; exact lm_info) ?_) | (refine wpList_store_box rfl _ _ _ rfl _ _ _ _ rfl rfl HZ0r.out (by rw [HA.out]; rfl) (by rw [HA.out]; exact lm_info) (by rw [HA.out]; simp [lmA, Value.oneCell']) ?_; rintro w5 hb5 hc5; have HB5 := Lib.hid hb5; have HC5 := Lib.hid hc5; clear hb5 hc5))
      have hx := HXW.out
      have hbn := HBN.out
      exact bodyPost_ret (results_box Tryd.results5 _ _ rfl HB5.out Tryd.underlying28 rfl (by rw [HA.out]; exact lm_info)) rfl ⟨by rw [HA.out], (((Chg.of_ext (S := fun _ => False) hx).trans HI.out.chg (fun i hi e => by omega)).trans HC5.out (fun i hi e => by omega)).ext (fun _ _ e => e)⟩

set_option maxHeartbeats 1000000 in
theorem negative_any (s : Int) (w : World) (h1 : -170141183460469231731687303715884105728 ≤ s) (h2 : s < 170141183460469231731687303715884105728) :
    Calls Tryd.prog 7 #[.agg (lmA s)] w fun e w' => e = .returned (.bool (decide (s < 0))) ∧ Ext w w' := by
  obtain ⟨t, ht⟩ : ∃ t, t = s / 5192296858534827628530496329220096 % 65536 := ⟨_, rfl⟩
  have HD : Hid (decide (32768 ≤ t) = decide (s < 0)) := Lib.hid (by rw [decide_eq_decide]; omega)
  unfold lmA
  rw [← ht]
  clear ht h1 h2
  go_enter Tryd.func7, Tryd.ntmps7
  go_wp2_with fail
  go_ret
  rw [← HD.out]
  exact ⟨rfl, (Ext.refl w).alloc _⟩

def cry (sa sb : Int) : Nat → Int
  | 0 => 0
  | 1 => (sa % 65536 + sb % 65536) / 65536
  | 2 => (sa % 4294967296 + sb % 4294967296) / 4294967296
  | 3 => (sa % 281474976710656 + sb % 281474976710656) / 281474976710656
  | 4 => (sa % 18446744073709551616 + sb % 18446744073709551616) / 18446744073709551616
  | 5 => (sa % 1208925819614629174706176 + sb % 1208925819614629174706176) / 1208925819614629174706176
  | 6 => (sa % 79228162514264337593543950336 + sb % 79228162514264337593543950336) / 79228162514264337593543950336
  | 7 => (sa % 5192296858534827628530496329220096 + sb % 5192296858534827628530496329220096) / 5192296858534827628530496329220096
  | _ => (sa % 340282366920938463463374607431768211456 + sb % 340282366920938463463374607431768211456) / 340282366920938463463374607431768211456
def plK (t : Int) : Nat → Array Value
  | 0 => #[.int .i64 0, .int .i64 0, .int .i64 0, .int .i64 0, .int .i64 0, .int .i64 0, .int .i64 0, .int .i64 0]
  | 1 => #[.int .i64 (t % 65536), .int .i64 0, .int .i64 0, .int .i64 0, .int .i64 0, .int .i64 0, .int .i64 0, .int .i64 0]
  | 2 => #[.int .i64 (t % 65536), .int .i64 (t / 65536 % 65536), .int .i64 0, .int .i64 0, .int .i64 0, .int .i64 0, .int .i64 0, .int .i64 0]
  | 3 => #[.int .i64 (t % 65536), .int .i64 (t / 65536 % 65536), .int .i64 (t / 4294967296 % 65536), .int .i64 0, .int .i64 0, .int .i64 0, .int .i64 0, .int .i64 0]
  | 4 => #[.int .i64 (t % 65536), .int .i64 (t / 65536 % 65536), .int .i64 (t / 4294967296 % 65536), .int .i64 (t / 281474976710656 % 65536), .int .i64 0, .int .i64 0, .int .i64 0, .int .i64 0]
  | 5 => #[.int .i64 (t % 65536), .int .i64 (t / 65536 % 65536), .int .i64 (t / 4294967296 % 65536), .int .i64 (t / 281474976710656 % 65536), .int .i64 (t / 18446744073709551616 % 65536), .int .i64 0, .int .i64 0, .int .i64 0]
  | 6 => #[.int .i64 (t % 65536), .int .i64 (t / 65536 % 65536), .int .i64 (t / 4294967296 % 65536), .int .i64 (t / 281474976710656 % 65536), .int .i64 (t / 18446744073709551616 % 65536), .int .i64 (t / 1208925819614629174706176 % 65536), .int .i64 0, .int .i64 0]
  | 7 => #[.int .i64 (t % 65536), .int .i64 (t / 65536 % 65536), .int .i64 (t / 4294967296 % 65536), .int .i64 (t / 281474976710656 % 65536), .int .i64 (t / 18446744073709551616 % 65536), .int .i64 (t / 1208925819614629174706176 % 65536), .int .i64 (t / 79228162514264337593543950336 % 65536), .int .i64 0]
  | _ => #[.int .i64 (t % 65536), .int .i64 (t / 65536 % 65536), .int .i64 (t / 4294967296 % 65536), .int .i64 (t / 281474976710656 % 65536), .int .i64 (t / 18446744073709551616 % 65536), .int .i64 (t / 1208925819614629174706176 % 65536), .int .i64 (t / 79228162514264337593543950336 % 65536), .int .i64 (t / 5192296858534827628530496329220096 % 65536)]

set_option maxHeartbeats 2000000 in
set_option maxRecDepth 100000 in
theorem rplus_any (sa sb : Int) (w : World) :
    Calls Tryd.prog 11 #[.agg (lmA sa), .agg (lmA sb)] w fun e w' => e = .returned (.agg (lmA (sa + sb))) ∧ Ext w w' := by
  obtain ⟨A, hA⟩ : ∃ A, A = lmA sa := ⟨_, rfl⟩
  obtain ⟨B, hB⟩ : ∃ B, B = lmA sb := ⟨_, rfl⟩
  rw [← hA, ← hB]
  have HA := Lib.hid hA
  have HB := Lib.hid hB
  clear hA hB
  go_enter Tryd.func11, Tryd.ntmps11
  go_wp2_with fail
  generalize hW : World.alloc _ _ = W
  have HXW : Hid (Ext w W) := Lib.hid (by subst hW; exact ((((Ext.refl w).alloc _).alloc _).alloc _).alloc _)
  have HBA : Hid (W.heap[w.heap.size]? = some (.cells A 28 (0, 0))) := Lib.hid (by
    subst hW
    have h0 := heap_alloc_new w (.cells A 28 (0, 0))
    exact ((((Ext.refl _).alloc _).alloc _).alloc _ |>.block (block_lt h0)).trans h0)
  have HBB : Hid (W.heap[w.heap.size + 1]? = some (.cells B 28 (0, 0))) := Lib.hid (by
    subst hW
    have h0 := heap_alloc2 w (.cells A 28 (0, 0)) (.cells B 28 (0, 0))
    exact ((((Ext.refl _).alloc _).alloc _) |>.block (block_lt h0)).trans h0)
  have HZ0 : Hid (W.heap[w.heap.size + 2]? = some (.cells (plK 0 0) 28 (0, 0))) := Lib.hid (by
    subst hW
    have h0 := heap_alloc3' w (.cells A 28 (0, 0)) (.cells B 28 (0, 0)) (.cells (plK 0 0) 28 (0, 0))
    exact (((Ext.refl _).alloc _) |>.block (block_lt h0)).trans h0)
  have HZ1 : Hid (LmR W (w.heap.size + 3) (plK (sa + sb) 0) W) := Lib.hid ⟨by subst hW; exact heap_alloc4 w _ _ _ _, Chg.refl _ _⟩
  clear hW
  obtain ⟨b, hb⟩ : ∃ b, b = w.heap.size + 3 := ⟨_, rfl⟩
  rw [← hb] at HZ1
  have HBN : Hid (b = w.heap.size + 3) := Lib.hid hb
  try rw [← hb]
  clear hb
  go_loopw [6, 7] (fun s6 s7 wr => ∃ k : Nat, k ≤ 8 ∧ s7 = .int .i64 k ∧ s6 = .int .i64 (cry sa sb k) ∧ Hid (LmR W b (plK (sa + sb) k) wr)) (fun _ i _ => 8 - (RowKit.intOf i).toNat)
  case atStart => exact ⟨0, by omega, rfl, rfl, HZ1⟩
  case round =>
    obtain ⟨k, hk, rfl, rfl, HI⟩ := hrel
    have z0 := free_of_block HI.out.blk
    have hbn := HBN.out
    have HRA := Lib.hid ((HI.out.chg.block _ (block_lt HBA.out) (by omega)).trans HBA.out)
    have HRB := Lib.hid ((HI.out.chg.block _ (block_lt HBB.out) (by omega)).trans HBB.out)
    clear hbn
    have hk5 : k = 0 ∨ k = 1 ∨ k = 2 ∨ k = 3 ∨ k = 4 ∨ k = 5 ∨ k = 6 ∨ k = 7 ∨ k = 8 := by omega
    rcases hk5 with rfl | rfl | rfl | rfl | rfl | rfl | rfl | rfl | rfl
    · obtain ⟨x, hx⟩ : ∃ x, x = sa % 65536 := ⟨_, rfl⟩
      obtain ⟨y, hy⟩ : ∃ y, y = sb % 65536 := ⟨_, rfl⟩
      obtain ⟨c, hc⟩ : ∃ c, c = cry sa sb 0 := ⟨_, rfl⟩
      have c0 : wr.cell? ⟨w.heap.size, 0, none⟩ = some (.int .i64 x) := by have := cell_of_block HRA.out 0; rw [HA.out] at this; rw [hx]; exact this
      have c1 : wr.cell? ⟨w.heap.size + 1, 0, none⟩ = some (.int .i64 y) := by have := cell_of_block HRB.out 0; rw [HB.out] at this; rw [hy]; exact this
      have c2 : ∀ j, (wr.drewN j).cell? ⟨b, 0, none⟩ = some (.int .i64 0) := fun j => by have := cell_of_block HI.out.blk 0; simpa [plK] using this
      have f0 : ∀ j, (wr.drewN j).frozen? ⟨b, 0, none⟩ = false := fun j => z0 0
      have hx0 : 0 ≤ x ∧ x < 65536 := by omega
      have hy0 : 0 ≤ y ∧ y < 65536 := by omega
      have hc0 : 0 ≤ c ∧ c ≤ 1 := by rw [hc]; simp only [cry]; omega
      have hr : (c + x + y).tmod 65536 = (sa + sb) % 65536 := by rw [Int.tmod_eq_emod_of_nonneg (by omega), hc, hx, hy]; simp only [cry]; omega
      have hq : (c + x + y).tdiv 65536 = cry sa sb 1 := by rw [Int.tdiv_eq_ediv_of_nonneg (by omega), hc, hx, hy]; simp only [cry]; omega
      obtain ⟨r, hr'⟩ : ∃ r, r = (sa + sb) % 65536 := ⟨_, rfl⟩
      obtain ⟨q, hq'⟩ : ∃ q, q = cry sa sb 1 := ⟨_, rfl⟩
      rw [← hr'] at hr
      rw [← hq'] at hq
      rw [← hc]
      have HQ := Lib.hid (And.intro hr' hq')
      have hqb : 0 ≤ q ∧ q ≤ 1 := by rw [hq']; simp only [cry]; omega
      have e1 : IntKind.i64.wrap (c + x) = c + x := IntWalk.i64_in _ (by omega)
      have e2 : IntKind.i64.wrap (c + x + y) = c + x + y := IntWalk.i64_in _ (by omega)
      clear hx hy hc hr' hq' z0
      go_wp2_with fail
      refine wp_region_split_lit [] [0, 1, 2, 3, 4, 5, 6, 7, 8, 9] [] (by kernel_rfl) (by kernel_rfl) (fun _ _ dd _ _ hh => by cases dd <;> exact hh) ?_
      simp only [pickOps, List.getElem?_cons_succ, List.getElem?_cons_zero]
      refine wpQuiet_nil ?_
      repeat (go_big_quiet_step (fail))
      refine wpQuiet_nil ?_
      intro w7 hw'
      obtain ⟨j, rfl⟩ := hw'
      go_wp2_with fail
      have hd : LmR W b (plK (sa + sb) 0) (wr.drewN j) := ⟨HI.out.blk, HI.out.chg.trans (Chg.of_ext (Ext.drewN wr j)) (fun _ _ e => e)⟩
      have h1 := hd.set 0 (.int .i64 r)
      rw [HQ.out.1] at h1
      exact ⟨⟨1, by omega, rfl, by rw [HQ.out.2], Lib.hid (by rw [HQ.out.1]; simpa [plK] using h1)⟩, by simp [RowKit.intOf]⟩
    · obtain ⟨x, hx⟩ : ∃ x, x = sa / 65536 % 65536 := ⟨_, rfl⟩
      obtain ⟨y, hy⟩ : ∃ y, y = sb / 65536 % 65536 := ⟨_, rfl⟩
      obtain ⟨c, hc⟩ : ∃ c, c = cry sa sb 1 := ⟨_, rfl⟩
      have c0 : wr.cell? ⟨w.heap.size, 1, none⟩ = some (.int .i64 x) := by have := cell_of_block HRA.out 1; rw [HA.out] at this; rw [hx]; exact this
      have c1 : wr.cell? ⟨w.heap.size + 1, 1, none⟩ = some (.int .i64 y) := by have := cell_of_block HRB.out 1; rw [HB.out] at this; rw [hy]; exact this
      have c2 : ∀ j, (wr.drewN j).cell? ⟨b, 1, none⟩ = some (.int .i64 0) := fun j => by have := cell_of_block HI.out.blk 1; simpa [plK] using this
      have f0 : ∀ j, (wr.drewN j).frozen? ⟨b, 1, none⟩ = false := fun j => z0 1
      have hx0 : 0 ≤ x ∧ x < 65536 := by omega
      have hy0 : 0 ≤ y ∧ y < 65536 := by omega
      have hc0 : 0 ≤ c ∧ c ≤ 1 := by rw [hc]; simp only [cry]; omega
      have hr : (c + x + y).tmod 65536 = (sa + sb) / 65536 % 65536 := by rw [Int.tmod_eq_emod_of_nonneg (by omega), hc, hx, hy]; simp only [cry]; omega
      have hq : (c + x + y).tdiv 65536 = cry sa sb 2 := by rw [Int.tdiv_eq_ediv_of_nonneg (by omega), hc, hx, hy]; simp only [cry]; omega
      obtain ⟨r, hr'⟩ : ∃ r, r = (sa + sb) / 65536 % 65536 := ⟨_, rfl⟩
      obtain ⟨q, hq'⟩ : ∃ q, q = cry sa sb 2 := ⟨_, rfl⟩
      rw [← hr'] at hr
      rw [← hq'] at hq
      rw [← hc]
      have HQ := Lib.hid (And.intro hr' hq')
      have hqb : 0 ≤ q ∧ q ≤ 1 := by rw [hq']; simp only [cry]; omega
      have e1 : IntKind.i64.wrap (c + x) = c + x := IntWalk.i64_in _ (by omega)
      have e2 : IntKind.i64.wrap (c + x + y) = c + x + y := IntWalk.i64_in _ (by omega)
      clear hx hy hc hr' hq' z0
      go_wp2_with fail
      refine wp_region_split_lit [] [0, 1, 2, 3, 4, 5, 6, 7, 8, 9] [] (by kernel_rfl) (by kernel_rfl) (fun _ _ dd _ _ hh => by cases dd <;> exact hh) ?_
      simp only [pickOps, List.getElem?_cons_succ, List.getElem?_cons_zero]
      refine wpQuiet_nil ?_
      repeat (go_big_quiet_step (fail))
      refine wpQuiet_nil ?_
      intro w7 hw'
      obtain ⟨j, rfl⟩ := hw'
      go_wp2_with fail
      have hd : LmR W b (plK (sa + sb) 1) (wr.drewN j) := ⟨HI.out.blk, HI.out.chg.trans (Chg.of_ext (Ext.drewN wr j)) (fun _ _ e => e)⟩
      have h1 := hd.set 1 (.int .i64 r)
      rw [HQ.out.1] at h1
      exact ⟨⟨2, by omega, rfl, by rw [HQ.out.2], Lib.hid (by rw [HQ.out.1]; simpa [plK] using h1)⟩, by simp [RowKit.intOf]⟩
    · obtain ⟨x, hx⟩ : ∃ x, x = sa / 4294967296 % 65536 := ⟨_, rfl⟩
      obtain ⟨y, hy⟩ : ∃ y, y = sb / 4294967296 % 65536 := ⟨_, rfl⟩
      obtain ⟨c, hc⟩ : ∃ c, c = cry sa sb 2 := ⟨_, rfl⟩
      have c0 : wr.cell? ⟨w.heap.size, 2, none⟩ = some (.int .i64 x) := by have := cell_of_block HRA.out 2; rw [HA.out] at this; rw [hx]; exact this
      have c1 : wr.cell? ⟨w.heap.size + 1, 2, none⟩ = some (.int .i64 y) := by have := cell_of_block HRB.out 2; rw [HB.out] at this; rw [hy]; exact this
      have c2 : ∀ j, (wr.drewN j).cell? ⟨b, 2, none⟩ = some (.int .i64 0) := fun j => by have := cell_of_block HI.out.blk 2; simpa [plK] using this
      have f0 : ∀ j, (wr.drewN j).frozen? ⟨b, 2, none⟩ = false := fun j => z0 2
      have hx0 : 0 ≤ x ∧ x < 65536 := by omega
      have hy0 : 0 ≤ y ∧ y < 65536 := by omega
      have hc0 : 0 ≤ c ∧ c ≤ 1 := by rw [hc]; simp only [cry]; omega
      have hr : (c + x + y).tmod 65536 = (sa + sb) / 4294967296 % 65536 := by rw [Int.tmod_eq_emod_of_nonneg (by omega), hc, hx, hy]; simp only [cry]; omega
      have hq : (c + x + y).tdiv 65536 = cry sa sb 3 := by rw [Int.tdiv_eq_ediv_of_nonneg (by omega), hc, hx, hy]; simp only [cry]; omega
      obtain ⟨r, hr'⟩ : ∃ r, r = (sa + sb) / 4294967296 % 65536 := ⟨_, rfl⟩
      obtain ⟨q, hq'⟩ : ∃ q, q = cry sa sb 3 := ⟨_, rfl⟩
      rw [← hr'] at hr
      rw [← hq'] at hq
      rw [← hc]
      have HQ := Lib.hid (And.intro hr' hq')
      have hqb : 0 ≤ q ∧ q ≤ 1 := by rw [hq']; simp only [cry]; omega
      have e1 : IntKind.i64.wrap (c + x) = c + x := IntWalk.i64_in _ (by omega)
      have e2 : IntKind.i64.wrap (c + x + y) = c + x + y := IntWalk.i64_in _ (by omega)
      clear hx hy hc hr' hq' z0
      go_wp2_with fail
      refine wp_region_split_lit [] [0, 1, 2, 3, 4, 5, 6, 7, 8, 9] [] (by kernel_rfl) (by kernel_rfl) (fun _ _ dd _ _ hh => by cases dd <;> exact hh) ?_
      simp only [pickOps, List.getElem?_cons_succ, List.getElem?_cons_zero]
      refine wpQuiet_nil ?_
      repeat (go_big_quiet_step (fail))
      refine wpQuiet_nil ?_
      intro w7 hw'
      obtain ⟨j, rfl⟩ := hw'
      go_wp2_with fail
      have hd : LmR W b (plK (sa + sb) 2) (wr.drewN j) := ⟨HI.out.blk, HI.out.chg.trans (Chg.of_ext (Ext.drewN wr j)) (fun _ _ e => e)⟩
      have h1 := hd.set 2 (.int .i64 r)
      rw [HQ.out.1] at h1
      exact ⟨⟨3, by omega, rfl, by rw [HQ.out.2], Lib.hid (by rw [HQ.out.1]; simpa [plK] using h1)⟩, by simp [RowKit.intOf]⟩
    · obtain ⟨x, hx⟩ : ∃ x, x = sa / 281474976710656 % 65536 := ⟨_, rfl⟩
      obtain ⟨y, hy⟩ : ∃ y, y = sb / 281474976710656 % 65536 := ⟨_, rfl⟩
      obtain ⟨c, hc⟩ : ∃ c, c = cry sa sb 3 := ⟨_, rfl⟩
      have c0 : wr.cell? ⟨w.heap.size, 3, none⟩ = some (.int .i64 x) := by have := cell_of_block HRA.out 3; rw [HA.out] at this; rw [hx]; exact this
      have c1 : wr.cell? ⟨w.heap.size + 1, 3, none⟩ = some (.int .i64 y) := by have := cell_of_block HRB.out 3; rw [HB.out] at this; rw [hy]; exact this
      have c2 : ∀ j, (wr.drewN j).cell? ⟨b, 3, none⟩ = some (.int .i64 0) := fun j => by have := cell_of_block HI.out.blk 3; simpa [plK] using this
      have f0 : ∀ j, (wr.drewN j).frozen? ⟨b, 3, none⟩ = false := fun j => z0 3
      have hx0 : 0 ≤ x ∧ x < 65536 := by omega
      have hy0 : 0 ≤ y ∧ y < 65536 := by omega
      have hc0 : 0 ≤ c ∧ c ≤ 1 := by rw [hc]; simp only [cry]; omega
      have hr : (c + x + y).tmod 65536 = (sa + sb) / 281474976710656 % 65536 := by rw [Int.tmod_eq_emod_of_nonneg (by omega), hc, hx, hy]; simp only [cry]; omega
      have hq : (c + x + y).tdiv 65536 = cry sa sb 4 := by rw [Int.tdiv_eq_ediv_of_nonneg (by omega), hc, hx, hy]; simp only [cry]; omega
      obtain ⟨r, hr'⟩ : ∃ r, r = (sa + sb) / 281474976710656 % 65536 := ⟨_, rfl⟩
      obtain ⟨q, hq'⟩ : ∃ q, q = cry sa sb 4 := ⟨_, rfl⟩
      rw [← hr'] at hr
      rw [← hq'] at hq
      rw [← hc]
      have HQ := Lib.hid (And.intro hr' hq')
      have hqb : 0 ≤ q ∧ q ≤ 1 := by rw [hq']; simp only [cry]; omega
      have e1 : IntKind.i64.wrap (c + x) = c + x := IntWalk.i64_in _ (by omega)
      have e2 : IntKind.i64.wrap (c + x + y) = c + x + y := IntWalk.i64_in _ (by omega)
      clear hx hy hc hr' hq' z0
      go_wp2_with fail
      refine wp_region_split_lit [] [0, 1, 2, 3, 4, 5, 6, 7, 8, 9] [] (by kernel_rfl) (by kernel_rfl) (fun _ _ dd _ _ hh => by cases dd <;> exact hh) ?_
      simp only [pickOps, List.getElem?_cons_succ, List.getElem?_cons_zero]
      refine wpQuiet_nil ?_
      repeat (go_big_quiet_step (fail))
      refine wpQuiet_nil ?_
      intro w7 hw'
      obtain ⟨j, rfl⟩ := hw'
      go_wp2_with fail
      have hd : LmR W b (plK (sa + sb) 3) (wr.drewN j) := ⟨HI.out.blk, HI.out.chg.trans (Chg.of_ext (Ext.drewN wr j)) (fun _ _ e => e)⟩
      have h1 := hd.set 3 (.int .i64 r)
      rw [HQ.out.1] at h1
      exact ⟨⟨4, by omega, rfl, by rw [HQ.out.2], Lib.hid (by rw [HQ.out.1]; simpa [plK] using h1)⟩, by simp [RowKit.intOf]⟩
    · obtain ⟨x, hx⟩ : ∃ x, x = sa / 18446744073709551616 % 65536 := ⟨_, rfl⟩
      obtain ⟨y, hy⟩ : ∃ y, y = sb / 18446744073709551616 % 65536 := ⟨_, rfl⟩
      obtain ⟨c, hc⟩ : ∃ c, c = cry sa sb 4 := ⟨_, rfl⟩
      have c0 : wr.cell? ⟨w.heap.size, 4, none⟩ = some (.int .i64 x) := by have := cell_of_block HRA.out 4; rw [HA.out] at this; rw [hx]; exact this
      have c1 : wr.cell? ⟨w.heap.size + 1, 4, none⟩ = some (.int .i64 y) := by have := cell_of_block HRB.out 4; rw [HB.out] at this; rw [hy]; exact this
      have c2 : ∀ j, (wr.drewN j).cell? ⟨b, 4, none⟩ = some (.int .i64 0) := fun j => by have := cell_of_block HI.out.blk 4; simpa [plK] using this
      have f0 : ∀ j, (wr.drewN j).frozen? ⟨b, 4, none⟩ = false := fun j => z0 4
      have hx0 : 0 ≤ x ∧ x < 65536 := by omega
      have hy0 : 0 ≤ y ∧ y < 65536 := by omega
      have hc0 : 0 ≤ c ∧ c ≤ 1 := by rw [hc]; simp only [cry]; omega
      have hr : (c + x + y).tmod 65536 = (sa + sb) / 18446744073709551616 % 65536 := by rw [Int.tmod_eq_emod_of_nonneg (by omega), hc, hx, hy]; simp only [cry]; omega
      have hq : (c + x + y).tdiv 65536 = cry sa sb 5 := by rw [Int.tdiv_eq_ediv_of_nonneg (by omega), hc, hx, hy]; simp only [cry]; omega
      obtain ⟨r, hr'⟩ : ∃ r, r = (sa + sb) / 18446744073709551616 % 65536 := ⟨_, rfl⟩
      obtain ⟨q, hq'⟩ : ∃ q, q = cry sa sb 5 := ⟨_, rfl⟩
      rw [← hr'] at hr
      rw [← hq'] at hq
      rw [← hc]
      have HQ := Lib.hid (And.intro hr' hq')
      have hqb : 0 ≤ q ∧ q ≤ 1 := by rw [hq']; simp only [cry]; omega
      have e1 : IntKind.i64.wrap (c + x) = c + x := IntWalk.i64_in _ (by omega)
      have e2 : IntKind.i64.wrap (c + x + y) = c + x + y := IntWalk.i64_in _ (by omega)
      clear hx hy hc hr' hq' z0
      go_wp2_with fail
      refine wp_region_split_lit [] [0, 1, 2, 3, 4, 5, 6, 7, 8, 9] [] (by kernel_rfl) (by kernel_rfl) (fun _ _ dd _ _ hh => by cases dd <;> exact hh) ?_
      simp only [pickOps, List.getElem?_cons_succ, List.getElem?_cons_zero]
      refine wpQuiet_nil ?_
      repeat (go_big_quiet_step (fail))
      refine wpQuiet_nil ?_
      intro w7 hw'
      obtain ⟨j, rfl⟩ := hw'
      go_wp2_with fail
      have hd : LmR W b (plK (sa + sb) 4) (wr.drewN j) := ⟨HI.out.blk, HI.out.chg.trans (Chg.of_ext (Ext.drewN wr j)) (fun _ _ e => e)⟩
      have h1 := hd.set 4 (.int .i64 r)
      rw [HQ.out.1] at h1
      exact ⟨⟨5, by omega, rfl, by rw [HQ.out.2], Lib.hid (by rw [HQ.out.1]; simpa [plK] using h1)⟩, by simp [RowKit.intOf]⟩
    · obtain ⟨x, hx⟩ : ∃ x, x = sa / 1208925819614629174706176 % 65536 := ⟨_, rfl⟩
      obtain ⟨y, hy⟩ : ∃ y, y = sb / 1208925819614629174706176 % 65536 := ⟨_, rfl⟩
      obtain ⟨c, hc⟩ : ∃ c, c = cry sa sb 5 := ⟨_, rfl⟩
      have c0 : wr.cell? ⟨w.heap.size, 5, none⟩ = some (.int .i64 x) := by have := cell_of_block HRA.out 5; rw [HA.out] at this; rw [hx]; exact this
      have c1 : wr.cell? ⟨w.heap.size + 1, 5, none⟩ = some (.int .i64 y) := by have := cell_of_block HRB.out 5; rw [HB.out] at this; rw [hy]; exact this
      have c2 : ∀ j, (wr.drewN j).cell? ⟨b, 5, none⟩ = some (.int .i64 0) := fun j => by have := cell_of_block HI.out.blk 5; simpa [plK] using this
      have f0 : ∀ j, (wr.drewN j).frozen? ⟨b, 5, none⟩ = false := fun j => z0 5
      have hx0 : 0 ≤ x ∧ x < 65536 := by omega
      have hy0 : 0 ≤ y ∧ y < 65536 := by omega
      have hc0 : 0 ≤ c ∧ c ≤ 1 := by rw [hc]; simp only [cry]; omega
      have hr : (c + x + y).tmod 65536 = (sa + sb) / 1208925819614629174706176 % 65536 := by rw [Int.tmod_eq_emod_of_nonneg (by omega), hc, hx, hy]; simp only [cry]; omega
      have hq : (c + x + y).tdiv 65536 = cry sa sb 6 := by rw [Int.tdiv_eq_ediv_of_nonneg (by omega), hc, hx, hy]; simp only [cry]; omega
      obtain ⟨r, hr'⟩ : ∃ r, r = (sa + sb) / 1208925819614629174706176 % 65536 := ⟨_, rfl⟩
      obtain ⟨q, hq'⟩ : ∃ q, q = cry sa sb 6 := ⟨_, rfl⟩
      rw [← hr'] at hr
      rw [← hq'] at hq
      rw [← hc]
      have HQ := Lib.hid (And.intro hr' hq')
      have hqb : 0 ≤ q ∧ q ≤ 1 := by rw [hq']; simp only [cry]; omega
      have e1 : IntKind.i64.wrap (c + x) = c + x := IntWalk.i64_in _ (by omega)
      have e2 : IntKind.i64.wrap (c + x + y) = c + x + y := IntWalk.i64_in _ (by omega)
      clear hx hy hc hr' hq' z0
      go_wp2_with fail
      refine wp_region_split_lit [] [0, 1, 2, 3, 4, 5, 6, 7, 8, 9] [] (by kernel_rfl) (by kernel_rfl) (fun _ _ dd _ _ hh => by cases dd <;> exact hh) ?_
      simp only [pickOps, List.getElem?_cons_succ, List.getElem?_cons_zero]
      refine wpQuiet_nil ?_
      repeat (go_big_quiet_step (fail))
      refine wpQuiet_nil ?_
      intro w7 hw'
      obtain ⟨j, rfl⟩ := hw'
      go_wp2_with fail
      have hd : LmR W b (plK (sa + sb) 5) (wr.drewN j) := ⟨HI.out.blk, HI.out.chg.trans (Chg.of_ext (Ext.drewN wr j)) (fun _ _ e => e)⟩
      have h1 := hd.set 5 (.int .i64 r)
      rw [HQ.out.1] at h1
      exact ⟨⟨6, by omega, rfl, by rw [HQ.out.2], Lib.hid (by rw [HQ.out.1]; simpa [plK] using h1)⟩, by simp [RowKit.intOf]⟩
    · obtain ⟨x, hx⟩ : ∃ x, x = sa / 79228162514264337593543950336 % 65536 := ⟨_, rfl⟩
      obtain ⟨y, hy⟩ : ∃ y, y = sb / 79228162514264337593543950336 % 65536 := ⟨_, rfl⟩
      obtain ⟨c, hc⟩ : ∃ c, c = cry sa sb 6 := ⟨_, rfl⟩
      have c0 : wr.cell? ⟨w.heap.size, 6, none⟩ = some (.int .i64 x) := by have := cell_of_block HRA.out 6; rw [HA.out] at this; rw [hx]; exact this
      have c1 : wr.cell? ⟨w.heap.size + 1, 6, none⟩ = some (.int .i64 y) := by have := cell_of_block HRB.out 6; rw [HB.out] at this; rw [hy]; exact this
      have c2 : ∀ j, (wr.drewN j).cell? ⟨b, 6, none⟩ = some (.int .i64 0) := fun j => by have := cell_of_block HI.out.blk 6; simpa [plK] using this
      have f0 : ∀ j, (wr.drewN j).frozen? ⟨b, 6, none⟩ = false := fun j => z0 6
      have hx0 : 0 ≤ x ∧ x < 65536 := by omega
      have hy0 : 0 ≤ y ∧ y < 65536 := by omega
      have hc0 : 0 ≤ c ∧ c ≤ 1 := by rw [hc]; simp only [cry]; omega
      have hr : (c + x + y).tmod 65536 = (sa + sb) / 79228162514264337593543950336 % 65536 := by rw [Int.tmod_eq_emod_of_nonneg (by omega), hc, hx, hy]; simp only [cry]; omega
      have hq : (c + x + y).tdiv 65536 = cry sa sb 7 := by rw [Int.tdiv_eq_ediv_of_nonneg (by omega), hc, hx, hy]; simp only [cry]; omega
      obtain ⟨r, hr'⟩ : ∃ r, r = (sa + sb) / 79228162514264337593543950336 % 65536 := ⟨_, rfl⟩
      obtain ⟨q, hq'⟩ : ∃ q, q = cry sa sb 7 := ⟨_, rfl⟩
      rw [← hr'] at hr
      rw [← hq'] at hq
      rw [← hc]
      have HQ := Lib.hid (And.intro hr' hq')
      have hqb : 0 ≤ q ∧ q ≤ 1 := by rw [hq']; simp only [cry]; omega
      have e1 : IntKind.i64.wrap (c + x) = c + x := IntWalk.i64_in _ (by omega)
      have e2 : IntKind.i64.wrap (c + x + y) = c + x + y := IntWalk.i64_in _ (by omega)
      clear hx hy hc hr' hq' z0
      go_wp2_with fail
      refine wp_region_split_lit [] [0, 1, 2, 3, 4, 5, 6, 7, 8, 9] [] (by kernel_rfl) (by kernel_rfl) (fun _ _ dd _ _ hh => by cases dd <;> exact hh) ?_
      simp only [pickOps, List.getElem?_cons_succ, List.getElem?_cons_zero]
      refine wpQuiet_nil ?_
      repeat (go_big_quiet_step (fail))
      refine wpQuiet_nil ?_
      intro w7 hw'
      obtain ⟨j, rfl⟩ := hw'
      go_wp2_with fail
      have hd : LmR W b (plK (sa + sb) 6) (wr.drewN j) := ⟨HI.out.blk, HI.out.chg.trans (Chg.of_ext (Ext.drewN wr j)) (fun _ _ e => e)⟩
      have h1 := hd.set 6 (.int .i64 r)
      rw [HQ.out.1] at h1
      exact ⟨⟨7, by omega, rfl, by rw [HQ.out.2], Lib.hid (by rw [HQ.out.1]; simpa [plK] using h1)⟩, by simp [RowKit.intOf]⟩
    · obtain ⟨x, hx⟩ : ∃ x, x = sa / 5192296858534827628530496329220096 % 65536 := ⟨_, rfl⟩
      obtain ⟨y, hy⟩ : ∃ y, y = sb / 5192296858534827628530496329220096 % 65536 := ⟨_, rfl⟩
      obtain ⟨c, hc⟩ : ∃ c, c = cry sa sb 7 := ⟨_, rfl⟩
      have c0 : wr.cell? ⟨w.heap.size, 7, none⟩ = some (.int .i64 x) := by have := cell_of_block HRA.out 7; rw [HA.out] at this; rw [hx]; exact this
      have c1 : wr.cell? ⟨w.heap.size + 1, 7, none⟩ = some (.int .i64 y) := by have := cell_of_block HRB.out 7; rw [HB.out] at this; rw [hy]; exact this
      have c2 : ∀ j, (wr.drewN j).cell? ⟨b, 7, none⟩ = some (.int .i64 0) := fun j => by have := cell_of_block HI.out.blk 7; simpa [plK] using this
      have f0 : ∀ j, (wr.drewN j).frozen? ⟨b, 7, none⟩ = false := fun j => z0 7
      have hx0 : 0 ≤ x ∧ x < 65536 := by omega
      have hy0 : 0 ≤ y ∧ y < 65536 := by omega
      have hc0 : 0 ≤ c ∧ c ≤ 1 := by rw [hc]; simp only [cry]; omega
      have hr : (c + x + y).tmod 65536 = (sa + sb) / 5192296858534827628530496329220096 % 65536 := by rw [Int.tmod_eq_emod_of_nonneg (by omega), hc, hx, hy]; simp only [cry]; omega
      have hq : (c + x + y).tdiv 65536 = cry sa sb 8 := by rw [Int.tdiv_eq_ediv_of_nonneg (by omega), hc, hx, hy]; simp only [cry]; omega
      obtain ⟨r, hr'⟩ : ∃ r, r = (sa + sb) / 5192296858534827628530496329220096 % 65536 := ⟨_, rfl⟩
      obtain ⟨q, hq'⟩ : ∃ q, q = cry sa sb 8 := ⟨_, rfl⟩
      rw [← hr'] at hr
      rw [← hq'] at hq
      rw [← hc]
      have HQ := Lib.hid (And.intro hr' hq')
      have hqb : 0 ≤ q ∧ q ≤ 1 := by rw [hq']; simp only [cry]; omega
      have e1 : IntKind.i64.wrap (c + x) = c + x := IntWalk.i64_in _ (by omega)
      have e2 : IntKind.i64.wrap (c + x + y) = c + x + y := IntWalk.i64_in _ (by omega)
      clear hx hy hc hr' hq' z0
      go_wp2_with fail
      refine wp_region_split_lit [] [0, 1, 2, 3, 4, 5, 6, 7, 8, 9] [] (by kernel_rfl) (by kernel_rfl) (fun _ _ dd _ _ hh => by cases dd <;> exact hh) ?_
      simp only [pickOps, List.getElem?_cons_succ, List.getElem?_cons_zero]
      refine wpQuiet_nil ?_
      repeat (go_big_quiet_step (fail))
      refine wpQuiet_nil ?_
      intro w7 hw'
      obtain ⟨j, rfl⟩ := hw'
      go_wp2_with fail
      have hd : LmR W b (plK (sa + sb) 7) (wr.drewN j) := ⟨HI.out.blk, HI.out.chg.trans (Chg.of_ext (Ext.drewN wr j)) (fun _ _ e => e)⟩
      have h1 := hd.set 7 (.int .i64 r)
      rw [HQ.out.1] at h1
      exact ⟨⟨8, by omega, rfl, by rw [HQ.out.2], Lib.hid (by rw [HQ.out.1]; simpa [plK] using h1)⟩, by simp [RowKit.intOf]⟩
    · clear z0
      have HZ0r : Hid (wr.heap[w.heap.size + 2]? = some (.cells (plK 0 0) 28 (0, 0))) := Lib.hid ((HI.out.chg.block _ (block_lt HZ0.out) (by have := HBN.out; omega)).trans HZ0.out)
      have HE : Hid (plK (sa + sb) 8 = lmA (sa + sb)) := Lib.hid rfl
      rw [HE.out] at HI
      obtain ⟨C, hC⟩ : ∃ C, C = lmA (sa + sb) := ⟨_, rfl⟩
      rw [← hC] at HI
      have HC := Lib.hid hC
      clear hC
      go_wp2_with (first | (refine wpList_load_box rfl _ _ rfl _ _ _ _ _ rfl HI.out.blk Tryd.underlying28 rfl (by rw [HC.out]; exact lm_info) ?_) | (refine wpList_store_box rfl _ _ _ rfl _ _ _ _ rfl rfl HZ0r.out (by rw [HC.out]; rfl) (by rw [HC.out]; exact lm_info) (by rw [HC.out]; simp [lmA, Value.oneCell']) ?_; rintro w5 hb5 hc5; have HB5 := Lib.hid hb5; have HC5 := Lib.hid hc5; clear hb5 hc5))
      have hx := HXW.out
      have hbn := HBN.out
      exact bodyPost_ret (results_box Tryd.results11 _ _ rfl HB5.out Tryd.underlying28 rfl (by rw [HC.out]; exact lm_info)) rfl ⟨by rw [HC.out], (((Chg.of_ext (S := fun _ => False) hx).trans HI.out.chg (fun i hi e => by omega)).trans HC5.out (fun i hi e => by omega)).ext (fun _ _ e => e)⟩

end Go.Proofs.YtipbniaehhoaaaaDoor
