/- PlanEdges: the walk. -/
import Derived.Test.YtpgnkknelaajdaaPle
namespace Go.Proofs.Ytpgnkknelaajdaa
open Go.RowKit Go.Sort Go.Lib

theorem planCheck_bounds {op fn : Int} {ser oth : ByteArray} {fr to wd st off gap tol fill : Int} (h : planCheckB op fn ser oth fr to wd st off gap tol fill = true) :
    (-1152921504606846976 ≤ fr ∧ fr ≤ 1152921504606846976) ∧ (-1152921504606846976 ≤ to ∧ to ≤ 1152921504606846976) := by
  unfold planCheckB checkB withinB at h
  simp only [Bool.and_eq_true, decide_eq_true_eq] at h
  omega

theorem fineB_le {n : Nat} {l : List Ti} (h : fineB n l = true) : n ≤ 4 ∧ ∀ t ∈ l, TiFine t := by
  unfold fineB at h
  simp only [Bool.and_eq_true, decide_eq_true_eq, List.all_eq_true] at h
  exact ⟨h.1, fun t ht => tierOk_fine (h.2 t ht)⟩

set_option maxHeartbeats 4000000 in
set_option maxRecDepth 100000 in
theorem planEdges_not (op fn : Int) (ser oth : ByteArray) (fr to wd st off gap tol fill : Int) (low : Int) (w : World) (a : Option Addr) (n c : Nat) (l : List Ti) (hs : Src w 5 (.slice a n c) n (tis l)) (hn : n ≤ 4398046511104)
    (h : fineB n l = false ∨ low < -1152921504606846976 ∨ 1152921504606846976 < low) :
    Calls Try.prog 4 #[qV op fn ser oth fr to wd st off gap tol fill, .slice a n c, .int .i64 low] w fun e w' => e = .returned (.bool true) ∧ Ext w w' := by
  have HFI := Lib.hid (fun W (hx : Ext w W) => fine_any W a n c l (hs.ext hx) hn)
  clear hs
  unfold qV
  generalize hb : fineB n l = b at *
  cases b
  · clear h
    go_enter Try.func4, Try.ntmps4
    go_wp2_with (first
      | (go_at_call 5; refine (HFI.out _ ((Ext.refl _).alloc _)).mono ?_; rintro e w1 ⟨rfl, hx1⟩; have HX := Lib.hid (((Ext.refl w).alloc _).trans hx1); clear hx1))
    go_ret
    exact ⟨rfl, HX.out⟩
  · have h2 : low < -1152921504606846976 ∨ 1152921504606846976 < low := by rcases h with h | h; (· cases h); exact h
    clear h
    rcases h2 with h2 | h2
    · go_enter Try.func4, Try.ntmps4
      go_wp2_with (first
        | (go_at_call 5; refine (HFI.out _ ((Ext.refl _).alloc _)).mono ?_; rintro e w1 ⟨rfl, hx1⟩; have HX := Lib.hid (((Ext.refl w).alloc _).trans hx1); clear hx1))
      go_ret
      exact ⟨rfl, HX.out⟩
    · have h3 : ¬ low < -1152921504606846976 := by omega
      go_enter Try.func4, Try.ntmps4
      go_wp2_with (first
        | (go_at_call 5; refine (HFI.out _ ((Ext.refl _).alloc _)).mono ?_; rintro e w1 ⟨rfl, hx1⟩; have HX := Lib.hid (((Ext.refl w).alloc _).trans hx1); clear hx1))
      go_ret
      exact ⟨rfl, HX.out⟩

theorem allErr_bad {op fn : Int} {ser oth : ByteArray} {fr to wd st off gap tol fill low : Int} (h : planCheckB op fn ser oth fr to wd st off gap tol fill = false) : allErr op fn ser oth fr to wd st off gap tol fill low = 23 := by
  unfold allErr; rw [if_pos h]

theorem one_best (w : World) : Calls Try.prog 9 #[qV 1 0 ⟨#[97]⟩ ⟨#[]⟩ 0 9 3 3 0 0 0 0, .slice none 0 0, .int .i64 0] w fun e w' => e = .returned (.tuple #[.agg #[.int .i64 (-1), .int .i64 0, .int .i64 0], .int .i64 0]) ∧ Ext w w' :=
  best_ok 1 0 ⟨#[97]⟩ ⟨#[]⟩ 0 9 3 3 0 0 0 0 (by decide +kernel) (by decide +kernel) 0 w none 0 0 [] (.inl ⟨rfl, rfl, rfl⟩) (by omega) (by simp) (by decide +kernel) (by omega) (by omega) (by omega) (by omega) (by omega) (by omega)

set_option maxHeartbeats 4000000 in
set_option maxRecDepth 100000 in
theorem planEdges_bad (op fn : Int) (ser oth : ByteArray) (fr to wd st off gap tol fill : Int) (hse : ser.size ≤ maxLen) (hot : oth.size ≤ maxLen) (low : Int) (w : World) (a : Option Addr) (n c : Nat) (l : List Ti) (hs : Src w 5 (.slice a n c) n (tis l)) (hn : n ≤ 4398046511104)
    (hfi : fineB n l = true) (l1 : -1152921504606846976 ≤ low) (l2 : low ≤ 1152921504606846976) (hck : planCheckB op fn ser oth fr to wd st off gap tol fill = false) :
    Calls Try.prog 4 #[qV op fn ser oth fr to wd st off gap tol fill, .slice a n c, .int .i64 low] w fun e w' => e = .returned (.bool true) ∧ Ext w w' := by
  have HFI := Lib.hid (fun W (hx : Ext w W) => fine_any W a n c l (hs.ext hx) hn)
  rw [hfi] at HFI
  have he := allErr_bad (low := low) hck
  have HA := Lib.hid (fun W => all_bad op fn ser oth fr to wd st off gap tol fill hse hot low W (.slice a n c) (by rw [he]; omega))
  have HB := Lib.hid (fun W => best_bad op fn ser oth fr to wd st off gap tol fill hse hot low W a n c (by rw [he]; omega))
  rw [he] at HA HB
  have HO := Lib.hid one_best
  clear hs he hck hse hot hfi hn
  unfold qV at *
  have n1 : ¬ low < -1152921504606846976 := by omega
  have n2 : ¬ 1152921504606846976 < low := by omega
  have heq := eq_ch
  have hg : Try.prog.eqGuardType Try.prog.depth 37 = false := by kernel_rfl
  go_enter Try.func4, Try.ntmps4
  go_wp2_with fail
  generalize hW : World.alloc _ _ = W
  have HX : Hid (Ext w W) := Lib.hid (by subst hW; exact (Ext.refl w).alloc _)
  have BQ : Hid (qBlk W w.heap.size op fn ser oth fr to wd st off gap tol fill) := Lib.hid (by subst hW; exact heap_alloc_new w _)
  clear hW
  refine (HFI.out W HX.out).mono ?_
  rintro e w1 ⟨rfl, hx1⟩
  have BQ1 : Hid (qBlk w1 w.heap.size op fn ser oth fr to wd st off gap tol fill) := Lib.hid ((hx1.block (block_lt BQ.out)).trans BQ.out)
  have HX1 := Lib.hid (HX.out.trans hx1)
  clear hx1 HX BQ HFI
  have c0 : w1.cell? ⟨w.heap.size, 0, none⟩ = some (.int .i64 op) := by have := cell_of_block BQ1.out 0; simpa using this
  have c1 : w1.cell? ⟨w.heap.size, 1, none⟩ = some (.int .i64 fn) := by have := cell_of_block BQ1.out 1; simpa using this
  have c2 : w1.cell? ⟨w.heap.size, 2, none⟩ = some (.string ser) := by have := cell_of_block BQ1.out 2; simpa using this
  have c3 : w1.cell? ⟨w.heap.size, 3, none⟩ = some (.string oth) := by have := cell_of_block BQ1.out 3; simpa using this
  have c4 : w1.cell? ⟨w.heap.size, 4, none⟩ = some (.int .i64 fr) := by have := cell_of_block BQ1.out 4; simpa using this
  have c5 : w1.cell? ⟨w.heap.size, 5, none⟩ = some (.int .i64 to) := by have := cell_of_block BQ1.out 5; simpa using this
  have c6 : w1.cell? ⟨w.heap.size, 6, none⟩ = some (.int .i64 wd) := by have := cell_of_block BQ1.out 6; simpa using this
  have c7 : w1.cell? ⟨w.heap.size, 7, none⟩ = some (.int .i64 st) := by have := cell_of_block BQ1.out 7; simpa using this
  have c8 : w1.cell? ⟨w.heap.size, 8, none⟩ = some (.int .i64 off) := by have := cell_of_block BQ1.out 8; simpa using this
  have c9 : w1.cell? ⟨w.heap.size, 9, none⟩ = some (.int .i64 gap) := by have := cell_of_block BQ1.out 9; simpa using this
  have c10 : w1.cell? ⟨w.heap.size, 10, none⟩ = some (.int .i64 tol) := by have := cell_of_block BQ1.out 10; simpa using this
  have c11 : w1.cell? ⟨w.heap.size, 11, none⟩ = some (.int .i64 fill) := by have := cell_of_block BQ1.out 11; simpa using this
  go_wp2_with fail
  refine (HA.out w1).mono ?_
  rintro e w2 ⟨rfl, hx2⟩
  clear c0 c1 c2 c3 c4 c5 c6 c7 c8 c9 c10 c11
  have BQ2 : Hid (qBlk w2 w.heap.size op fn ser oth fr to wd st off gap tol fill) := Lib.hid ((hx2.block (block_lt BQ1.out)).trans BQ1.out)
  have HX2 := Lib.hid (HX1.out.trans hx2)
  clear hx2 HX1 BQ1 HA
  have c0 : w2.cell? ⟨w.heap.size, 0, none⟩ = some (.int .i64 op) := by have := cell_of_block BQ2.out 0; simpa using this
  have c1 : w2.cell? ⟨w.heap.size, 1, none⟩ = some (.int .i64 fn) := by have := cell_of_block BQ2.out 1; simpa using this
  have c2 : w2.cell? ⟨w.heap.size, 2, none⟩ = some (.string ser) := by have := cell_of_block BQ2.out 2; simpa using this
  have c3 : w2.cell? ⟨w.heap.size, 3, none⟩ = some (.string oth) := by have := cell_of_block BQ2.out 3; simpa using this
  have c4 : w2.cell? ⟨w.heap.size, 4, none⟩ = some (.int .i64 fr) := by have := cell_of_block BQ2.out 4; simpa using this
  have c5 : w2.cell? ⟨w.heap.size, 5, none⟩ = some (.int .i64 to) := by have := cell_of_block BQ2.out 5; simpa using this
  have c6 : w2.cell? ⟨w.heap.size, 6, none⟩ = some (.int .i64 wd) := by have := cell_of_block BQ2.out 6; simpa using this
  have c7 : w2.cell? ⟨w.heap.size, 7, none⟩ = some (.int .i64 st) := by have := cell_of_block BQ2.out 7; simpa using this
  have c8 : w2.cell? ⟨w.heap.size, 8, none⟩ = some (.int .i64 off) := by have := cell_of_block BQ2.out 8; simpa using this
  have c9 : w2.cell? ⟨w.heap.size, 9, none⟩ = some (.int .i64 gap) := by have := cell_of_block BQ2.out 9; simpa using this
  have c10 : w2.cell? ⟨w.heap.size, 10, none⟩ = some (.int .i64 tol) := by have := cell_of_block BQ2.out 10; simpa using this
  have c11 : w2.cell? ⟨w.heap.size, 11, none⟩ = some (.int .i64 fill) := by have := cell_of_block BQ2.out 11; simpa using this
  go_wp2_with fail
  refine (HB.out w2).mono ?_
  rintro e w3 ⟨rfl, hx3⟩
  clear c0 c1 c2 c3 c4 c5 c6 c7 c8 c9 c10 c11
  have HX3 := Lib.hid (HX2.out.trans hx3)
  clear hx3 HX2 BQ2 HB
  go_wp2_with fail
  have HXA := Lib.hid ((Ext.refl w3).alloc (.cells #[.int .i64 0, .int .i64 0, .int .i64 0] 37 (0, 0)))
  have BXA : Hid (chBlk (w3.alloc (.cells #[.int .i64 0, .int .i64 0, .int .i64 0] 37 (0, 0))) w3.heap.size ⟨0, 0, 0⟩) := Lib.hid (heap_alloc_new w3 _)
  generalize hwa : w3.alloc (.cells #[.int .i64 0, .int .i64 0, .int .i64 0] 37 (0, 0)) = wa at *
  clear hwa
  refine (HO.out wa).mono ?_
  rintro e w4 ⟨rfl, hx4⟩
  have B4 := Lib.hid (ch_ext BXA.out hx4)
  obtain ⟨b0, b1, b2⟩ := ch_cells B4.out
  simp only at b0 b1 b2
  have HX4 := Lib.hid ((HX3.out.trans HXA.out).trans hx4)
  have hlt := World.block_lt_of_cell? w4 _ b0
  clear hx4 HX3 HXA HO
  go_wp2_with fail
  go_ret
  exact ⟨rfl, HX4.out.alloc _⟩

end Go.Proofs.Ytpgnkknelaajdaa
