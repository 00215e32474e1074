/- The document's limbs: Minus. -/
import Derived.Test.YtipbniaehhoaaaaDoorR07
import Derived.ChangeKeysEq
namespace Go.Proofs.YtipbniaehhoaaaaDoor
open Go.RowKit Go.Lib Go.Sort

theorem lm_one : lmA 1 = #[.int .i64 1, .int .i64 0, .int .i64 0, .int .i64 0, .int .i64 0, .int .i64 0, .int .i64 0, .int .i64 0] := by
  unfold lmA
  rfl

set_option maxHeartbeats 2000000 in
set_option maxRecDepth 100000 in
theorem rminus_any (sa : Int) (w : World) :
    Calls Tryd.prog 8 #[.agg (lmA sa)] w fun e w' => e = .returned (.agg (lmA (-sa))) ∧ Ext w w' := by
  have HPL := Lib.hid (fun W => rplus_any (-sa - 1) 1 W)
  have e0 : -sa - 1 + 1 = -sa := by omega
  rw [e0, lm_one] at HPL
  obtain ⟨A, hA⟩ : ∃ A, A = lmA sa := ⟨_, rfl⟩
  obtain ⟨C, hC⟩ : ∃ A, A = lmA (-sa - 1) := ⟨_, rfl⟩
  obtain ⟨D, hD⟩ : ∃ A, A = lmA (-sa) := ⟨_, rfl⟩
  rw [← hC, ← hD] at HPL
  rw [← hA, ← hD]
  have HA := Lib.hid hA
  have HC := Lib.hid hC
  have HD := Lib.hid hD
  clear hA hC hD e0
  go_enter Tryd.func8, Tryd.ntmps8
  go_wp2_with fail
  generalize hW : World.alloc _ _ = W
  have HXW : Hid (Ext w W) := Lib.hid (by subst hW; exact (((Ext.refl w).alloc _).alloc _).alloc _)
  have HBA : Hid (W.heap[w.heap.size]? = some (.cells A 28 (0, 0))) := Lib.hid (by
    subst hW
    have h0 := heap_alloc_new w (.cells A 28 (0, 0))
    exact ((((Ext.refl _).alloc _).alloc _) |>.block (block_lt h0)).trans h0)
  have HZ0 : Hid (W.heap[w.heap.size + 1]? = some (.cells (plK 0 0) 28 (0, 0))) := Lib.hid (by
    subst hW
    have h0 := heap_alloc2 w (.cells A 28 (0, 0)) (.cells (plK 0 0) 28 (0, 0))
    exact (((Ext.refl _).alloc _) |>.block (block_lt h0)).trans h0)
  have HZ1 : Hid (LmR W (w.heap.size + 2) (plK (-sa - 1) 0) W) := Lib.hid ⟨by subst hW; exact heap_alloc3' w _ _ _, Chg.refl _ _⟩
  clear hW
  obtain ⟨b, hb⟩ : ∃ b, b = w.heap.size + 2 := ⟨_, rfl⟩
  rw [← hb] at HZ1
  have HBN : Hid (b = w.heap.size + 2) := Lib.hid hb
  try rw [← hb]
  clear hb
  go_loopw [4] (fun s4 wr => ∃ k : Nat, k ≤ 8 ∧ s4 = .int .i64 k ∧ Hid (LmR W b (plK (-sa - 1) k) wr)) (fun i _ => 8 - (RowKit.intOf i).toNat)
  case atStart => exact ⟨0, by omega, rfl, HZ1⟩
  case round =>
    obtain ⟨k, hk, rfl, HI⟩ := hrel
    have z0 := free_of_block HI.out.blk
    have hbn := HBN.out
    have HRA := Lib.hid ((HI.out.chg.block _ (block_lt HBA.out) (by omega)).trans HBA.out)
    clear hbn
    have hk9 : k = 0 ∨ k = 1 ∨ k = 2 ∨ k = 3 ∨ k = 4 ∨ k = 5 ∨ k = 6 ∨ k = 7 ∨ k = 8 := by omega
    rcases hk9 with rfl | rfl | rfl | rfl | rfl | rfl | rfl | rfl | rfl
    · obtain ⟨x, hx⟩ : ∃ x, x = sa % 65536 := ⟨_, rfl⟩
      have c0 : wr.cell? ⟨w.heap.size, 0, none⟩ = some (.int .i64 x) := by have := cell_of_block HRA.out 0; rw [HA.out] at this; rw [hx]; simpa [lmA] using this
      have c1 : wr.cell? ⟨b, 0, none⟩ = some (.int .i64 0) := by have := cell_of_block HI.out.blk 0; simpa [plK] using this
      have f0 := z0 0
      have x0 : 0 ≤ x := by omega
      have x1 : x < 65536 := by omega
      have HE : Hid (65535 - x = (-sa - 1) % 65536) := Lib.hid (by omega)
      clear z0 hx
      go_wp2_with fail
      have h1 := HI.out.set 0 (.int .i64 (65535 - x))
      exact ⟨⟨1, by omega, rfl, Lib.hid (by rw [HE.out] at h1 ⊢; simpa [plK] using h1)⟩, by simp [RowKit.intOf]⟩
    · obtain ⟨x, hx⟩ : ∃ x, x = sa / 65536 % 65536 := ⟨_, rfl⟩
      have c0 : wr.cell? ⟨w.heap.size, 1, none⟩ = some (.int .i64 x) := by have := cell_of_block HRA.out 1; rw [HA.out] at this; rw [hx]; simpa [lmA] using this
      have c1 : wr.cell? ⟨b, 1, none⟩ = some (.int .i64 0) := by have := cell_of_block HI.out.blk 1; simpa [plK] using this
      have f0 := z0 1
      have x0 : 0 ≤ x := by omega
      have x1 : x < 65536 := by omega
      have HE : Hid (65535 - x = (-sa - 1) / 65536 % 65536) := Lib.hid (by omega)
      clear z0 hx
      go_wp2_with fail
      have h1 := HI.out.set 1 (.int .i64 (65535 - x))
      exact ⟨⟨2, by omega, rfl, Lib.hid (by rw [HE.out] at h1 ⊢; simpa [plK] using h1)⟩, by simp [RowKit.intOf]⟩
    · obtain ⟨x, hx⟩ : ∃ x, x = sa / 4294967296 % 65536 := ⟨_, rfl⟩
      have c0 : wr.cell? ⟨w.heap.size, 2, none⟩ = some (.int .i64 x) := by have := cell_of_block HRA.out 2; rw [HA.out] at this; rw [hx]; simpa [lmA] using this
      have c1 : wr.cell? ⟨b, 2, none⟩ = some (.int .i64 0) := by have := cell_of_block HI.out.blk 2; simpa [plK] using this
      have f0 := z0 2
      have x0 : 0 ≤ x := by omega
      have x1 : x < 65536 := by omega
      have HE : Hid (65535 - x = (-sa - 1) / 4294967296 % 65536) := Lib.hid (by omega)
      clear z0 hx
      go_wp2_with fail
      have h1 := HI.out.set 2 (.int .i64 (65535 - x))
      exact ⟨⟨3, by omega, rfl, Lib.hid (by rw [HE.out] at h1 ⊢; simpa [plK] using h1)⟩, by simp [RowKit.intOf]⟩
    · obtain ⟨x, hx⟩ : ∃ x, x = sa / 281474976710656 % 65536 := ⟨_, rfl⟩
      have c0 : wr.cell? ⟨w.heap.size, 3, none⟩ = some (.int .i64 x) := by have := cell_of_block HRA.out 3; rw [HA.out] at this; rw [hx]; simpa [lmA] using this
      have c1 : wr.cell? ⟨b, 3, none⟩ = some (.int .i64 0) := by have := cell_of_block HI.out.blk 3; simpa [plK] using this
      have f0 := z0 3
      have x0 : 0 ≤ x := by omega
      have x1 : x < 65536 := by omega
      have HE : Hid (65535 - x = (-sa - 1) / 281474976710656 % 65536) := Lib.hid (by omega)
      clear z0 hx
      go_wp2_with fail
      have h1 := HI.out.set 3 (.int .i64 (65535 - x))
      exact ⟨⟨4, by omega, rfl, Lib.hid (by rw [HE.out] at h1 ⊢; simpa [plK] using h1)⟩, by simp [RowKit.intOf]⟩
    · obtain ⟨x, hx⟩ : ∃ x, x = sa / 18446744073709551616 % 65536 := ⟨_, rfl⟩
      have c0 : wr.cell? ⟨w.heap.size, 4, none⟩ = some (.int .i64 x) := by have := cell_of_block HRA.out 4; rw [HA.out] at this; rw [hx]; simpa [lmA] using this
      have c1 : wr.cell? ⟨b, 4, none⟩ = some (.int .i64 0) := by have := cell_of_block HI.out.blk 4; simpa [plK] using this
      have f0 := z0 4
      have x0 : 0 ≤ x := by omega
      have x1 : x < 65536 := by omega
      have HE : Hid (65535 - x = (-sa - 1) / 18446744073709551616 % 65536) := Lib.hid (by omega)
      clear z0 hx
      go_wp2_with fail
      have h1 := HI.out.set 4 (.int .i64 (65535 - x))
      exact ⟨⟨5, by omega, rfl, Lib.hid (by rw [HE.out] at h1 ⊢; simpa [plK] using h1)⟩, by simp [RowKit.intOf]⟩
    · obtain ⟨x, hx⟩ : ∃ x, x = sa / 1208925819614629174706176 % 65536 := ⟨_, rfl⟩
      have c0 : wr.cell? ⟨w.heap.size, 5, none⟩ = some (.int .i64 x) := by have := cell_of_block HRA.out 5; rw [HA.out] at this; rw [hx]; simpa [lmA] using this
      have c1 : wr.cell? ⟨b, 5, none⟩ = some (.int .i64 0) := by have := cell_of_block HI.out.blk 5; simpa [plK] using this
      have f0 := z0 5
      have x0 : 0 ≤ x := by omega
      have x1 : x < 65536 := by omega
      have HE : Hid (65535 - x = (-sa - 1) / 1208925819614629174706176 % 65536) := Lib.hid (by omega)
      clear z0 hx
      go_wp2_with fail
      have h1 := HI.out.set 5 (.int .i64 (65535 - x))
      exact ⟨⟨6, by omega, rfl, Lib.hid (by rw [HE.out] at h1 ⊢; simpa [plK] using h1)⟩, by simp [RowKit.intOf]⟩
    · obtain ⟨x, hx⟩ : ∃ x, x = sa / 79228162514264337593543950336 % 65536 := ⟨_, rfl⟩
      have c0 : wr.cell? ⟨w.heap.size, 6, none⟩ = some (.int .i64 x) := by have := cell_of_block HRA.out 6; rw [HA.out] at this; rw [hx]; simpa [lmA] using this
      have c1 : wr.cell? ⟨b, 6, none⟩ = some (.int .i64 0) := by have := cell_of_block HI.out.blk 6; simpa [plK] using this
      have f0 := z0 6
      have x0 : 0 ≤ x := by omega
      have x1 : x < 65536 := by omega
      have HE : Hid (65535 - x = (-sa - 1) / 79228162514264337593543950336 % 65536) := Lib.hid (by omega)
      clear z0 hx
      go_wp2_with fail
      have h1 := HI.out.set 6 (.int .i64 (65535 - x))
      exact ⟨⟨7, by omega, rfl, Lib.hid (by rw [HE.out] at h1 ⊢; simpa [plK] using h1)⟩, by simp [RowKit.intOf]⟩
    · obtain ⟨x, hx⟩ : ∃ x, x = sa / 5192296858534827628530496329220096 % 65536 := ⟨_, rfl⟩
      have c0 : wr.cell? ⟨w.heap.size, 7, none⟩ = some (.int .i64 x) := by have := cell_of_block HRA.out 7; rw [HA.out] at this; rw [hx]; simpa [lmA] using this
      have c1 : wr.cell? ⟨b, 7, none⟩ = some (.int .i64 0) := by have := cell_of_block HI.out.blk 7; simpa [plK] using this
      have f0 := z0 7
      have x0 : 0 ≤ x := by omega
      have x1 : x < 65536 := by omega
      have HE : Hid (65535 - x = (-sa - 1) / 5192296858534827628530496329220096 % 65536) := Lib.hid (by omega)
      clear z0 hx
      go_wp2_with fail
      have h1 := HI.out.set 7 (.int .i64 (65535 - x))
      exact ⟨⟨8, by omega, rfl, Lib.hid (by rw [HE.out] at h1 ⊢; simpa [plK] using h1)⟩, by simp [RowKit.intOf]⟩
    · clear z0
      have HZ0r : Hid (wr.heap[w.heap.size + 1]? = some (.cells (plK 0 0) 28 (0, 0))) := Lib.hid ((HI.out.chg.block _ (block_lt HZ0.out) (by have := HBN.out; omega)).trans HZ0.out)
      have HE : Hid (plK (-sa - 1) 8 = C) := Lib.hid (by rw [HC.out]; rfl)
      rw [HE.out] at HI
      go_wp2_with (first | (refine wpList_load_box rfl _ _ rfl _ _ _ _ _ rfl HI.out.blk Tryd.underlying28 rfl (by rw [HC.out]; exact lm_info) ?_))
      refine (HPL.out _).mono ?_
      rintro e w3 ⟨rfl, hx3⟩
      have HX3 := Lib.hid hx3
      have HZ3 := Lib.hid ((hx3.block (block_lt HZ0r.out)).trans HZ0r.out)
      clear hx3
      go_wp2_with (first | (refine wpList_store_box rfl _ _ _ rfl _ _ _ _ rfl rfl HZ3.out (by rw [HD.out]; rfl) (by rw [HD.out]; exact lm_info) (by rw [HD.out]; simp [lmA, Value.oneCell']) ?_; rintro w5 hb5 hc5; have HB5 := Lib.hid hb5; have HC5 := Lib.hid hc5; clear hb5 hc5))
      have hx := HXW.out
      have hbn := HBN.out
      exact bodyPost_ret (results_box Tryd.results8 _ _ rfl HB5.out Tryd.underlying28 rfl (by rw [HD.out]; exact lm_info)) rfl ⟨rfl, ((((Chg.of_ext (S := fun _ => False) hx).trans HI.out.chg (fun i hi e => by omega)).trans (Chg.of_ext (S := fun _ => False) HX3.out) (fun i hi e => e)).trans HC5.out (fun i hi e => by omega)).ext (fun _ _ e => e)⟩

theorem run_eq8 (d : Nat) (x0 x1 x2 x3 x4 x5 x6 x7 : Int) (W : World) (h : ¬ (x0 = 0 ∧ x1 = 0 ∧ x2 = 0 ∧ x3 = 0 ∧ x4 = 0 ∧ x5 = 0 ∧ x6 = 0 ∧ x7 = 0)) :
    (Op.equalIn (d + 2) 28 (.agg #[.int .i64 x0, .int .i64 x1, .int .i64 x2, .int .i64 x3, .int .i64 x4, .int .i64 x5, .int .i64 x6, .int .i64 x7]) (.agg #[.int .i64 0, .int .i64 0, .int .i64 0, .int .i64 0, .int .i64 0, .int .i64 0, .int .i64 0, .int .i64 0])).run Tryd.prog W = .ok false W := by
  obtain ⟨i, hi⟩ := info_of_underlying Tryd.underlying3
  have hc : Tryd.prog.cellsOf 3 = 1 := by kernel_rfl
  have hp : ∀ (xs : Array Value) (k : Nat) (v : Value), xs[k]? = some v → (part 3 xs k).run Tryd.prog W = .ok v W := fun xs k v h => run_part_plain W (by kernel_rfl) h
  have hq : ∀ a b : Int, (Op.equalIn (d + 1) 3 (.int .i64 a) (.int .i64 b)).run Tryd.prog W = .ok (a == b) W := fun a b => run_equalIn_int (P := Tryd.prog) (w := W) d 3 .i64 .i64 a b Tryd.underlying3
  have st : ∀ (xs ys : Array Value) (k : Nat) (z : Int) (is : List Nat), xs[k]? = some (.int .i64 z) → ys[k]? = some (.int .i64 0) → (Op.eqItems (d + 1) 3 1 xs ys (k :: is)).run Tryd.prog W = if z = 0 then (Op.eqItems (d + 1) 3 1 xs ys is).run Tryd.prog W else .ok false W := fun xs ys k z is h1 h2 => by
    simp only [Op.eqItems, Nat.mul_one, Sem.run_bind, hp xs k _ h1, hp ys k _ h2, Result.andThen_ok, hq]
    by_cases hz : z = 0
    · subst hz; simp
    · simp [hz]
  rw [run_equalIn_array W (d + 1) _ _ Tryd.underlying28 hi, show List.range 8 = [0, 1, 2, 3, 4, 5, 6, 7] from rfl, hc]
  rw [st _ _ 0 x0 _ rfl rfl]
  by_cases h0 : x0 = 0
  · rw [if_pos h0, st _ _ 1 x1 _ rfl rfl]
    by_cases h1 : x1 = 0
    · rw [if_pos h1, st _ _ 2 x2 _ rfl rfl]
      by_cases h2 : x2 = 0
      · rw [if_pos h2, st _ _ 3 x3 _ rfl rfl]
        by_cases h3 : x3 = 0
        · rw [if_pos h3, st _ _ 4 x4 _ rfl rfl]
          by_cases h4 : x4 = 0
          · rw [if_pos h4, st _ _ 5 x5 _ rfl rfl]
            by_cases h5 : x5 = 0
            · rw [if_pos h5, st _ _ 6 x6 _ rfl rfl]
              by_cases h6 : x6 = 0
              · rw [if_pos h6, st _ _ 7 x7 _ rfl rfl]
                by_cases h7 : x7 = 0
                · exact absurd ⟨h0, h1, h2, h3, h4, h5, h6, h7⟩ h
                · rw [if_neg h7]
              · rw [if_neg h6]
            · rw [if_neg h5]
          · rw [if_neg h4]
        · rw [if_neg h3]
      · rw [if_neg h2]
    · rw [if_neg h1]
  · rw [if_neg h0]
theorem run_eq8z (d : Nat) (W : World) :
    (Op.equalIn (d + 2) 28 (.agg #[.int .i64 0, .int .i64 0, .int .i64 0, .int .i64 0, .int .i64 0, .int .i64 0, .int .i64 0, .int .i64 0]) (.agg #[.int .i64 0, .int .i64 0, .int .i64 0, .int .i64 0, .int .i64 0, .int .i64 0, .int .i64 0, .int .i64 0])).run Tryd.prog W = .ok true W := by
  obtain ⟨i, hi⟩ := info_of_underlying Tryd.underlying3
  have hc : Tryd.prog.cellsOf 3 = 1 := by kernel_rfl
  have hp : ∀ (xs : Array Value) (k : Nat) (v : Value), xs[k]? = some v → (part 3 xs k).run Tryd.prog W = .ok v W := fun xs k v h => run_part_plain W (by kernel_rfl) h
  have hq : ∀ a b : Int, (Op.equalIn (d + 1) 3 (.int .i64 a) (.int .i64 b)).run Tryd.prog W = .ok (a == b) W := fun a b => run_equalIn_int (P := Tryd.prog) (w := W) d 3 .i64 .i64 a b Tryd.underlying3
  have st : ∀ (xs ys : Array Value) (k : Nat) (is : List Nat), xs[k]? = some (.int .i64 0) → ys[k]? = some (.int .i64 0) → (Op.eqItems (d + 1) 3 1 xs ys (k :: is)).run Tryd.prog W = (Op.eqItems (d + 1) 3 1 xs ys is).run Tryd.prog W := fun xs ys k is h1 h2 => by
    simp only [Op.eqItems, Nat.mul_one, Sem.run_bind, hp xs k _ h1, hp ys k _ h2, Result.andThen_ok, hq]
    simp
  rw [run_equalIn_array W (d + 1) _ _ Tryd.underlying28 hi, show List.range 8 = [0, 1, 2, 3, 4, 5, 6, 7] from rfl, hc]
  rw [st _ _ 0 _ rfl rfl, st _ _ 1 _ rfl rfl, st _ _ 2 _ rfl rfl, st _ _ 3 _ rfl rfl, st _ _ 4 _ rfl rfl, st _ _ 5 _ rfl rfl, st _ _ 6 _ rfl rfl, st _ _ 7 _ rfl rfl]
  simp [Op.eqItems]
end Go.Proofs.YtipbniaehhoaaaaDoor
