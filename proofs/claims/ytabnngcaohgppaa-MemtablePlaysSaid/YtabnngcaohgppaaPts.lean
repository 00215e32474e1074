/- Slices of points in memory; merge.rising and merge.Cut. -/
import Derived.Test.YtabnngcaohgppaaApp
namespace Go.Proofs.Ytabnngcaohgppaa
open Go.RowKit Go.Sort Go.Lib

theorem elem_pt : ElemOk Try.prog 41 33 3 24 :=
  ⟨Try.underlying41, by
    obtain ⟨i0, hi, hz0, hz1, hz2⟩ := info_parts (show (Try.prog.info? 33).map (fun i => (i.zero, i.size, i.bytes)) = some (some (.agg #[.int .i64 0, .int .i64 0, .int .i64 0]), 3, 24) from by kernel_rfl)
    exact ⟨i0, _, hi, hz0, hz1, hz2, rfl⟩, by decide⟩
theorem src_pt (w : World) (p : Pt) (fr : Nat × Nat) : Src (w.alloc (.cells #[.int .i64 p.t, .int .i64 p.v, .int .i64 p.s] 33 fr)) 3 (.slice (some ⟨w.heap.size, 0, none⟩) 1 1) 1 (pts [p]) :=
  src_new w #[.int .i64 p.t, .int .i64 p.v, .int .i64 p.s] 33 3 1 fr rfl (pts_one [p])

set_option maxHeartbeats 2000000 in
theorem rising_any (w : World) (a : Option Addr) (n c : Nat) (l : List Pt) (hs : Src w 3 (.slice a n c) n (pts l)) (hn : n ≤ maxLen) :
    Calls Try.prog 37 #[.slice a n c] w fun e w' => e = .returned (.bool (risesB l)) ∧ Ext w w' := by
  have HS := Lib.hid hs
  have hlen := src_len hs; clear hs
  have hn' : n ≤ 9223372036854775807 := hn
  clear hn
  go_enter Try.func37, Try.ntmps37
  go_wp2_with fail
  go_loopw [7] (fun i wr => ∃ k : Nat, k ≤ n ∧ i = .int .i64 k ∧ Hid (Ext w wr) ∧ Hid (∀ (i : Nat) (p q : Pt), i + 1 < k → l[i]? = some p → l[i + 1]? = some q → p.t < q.t)) (fun i _ => n - (intOf i).toNat)
  case atStart => exact ⟨0, by omega, rfl, Lib.hid (Ext.refl _), Lib.hid (fun i p q h => by omega)⟩
  case round =>
    obtain ⟨k, hk, rfl, hx, I⟩ := hrel
    by_cases hlt : k < n
    · obtain ⟨b, off, p, rfl, hp, c0, c1, c2⟩ := pts_src (HS.out.ext hx.out) hlt
      have Hp := Lib.hid hp; clear hp
      have hb := World.block_lt_of_cell? _ _ c0
      rcases Nat.eq_zero_or_pos k with rfl | hk0
      · simp only [Nat.zero_mul, Nat.add_zero] at c0 c1 c2
        go_wp2_with fail
        generalize hW : World.alloc _ _ = W
        have HX : Hid (Ext wr W) := Lib.hid (by subst hW; exact (Ext.refl _).alloc _)
        have e0 : W.cell? ⟨wr.heap.size, 0, none⟩ = some (.int .i64 p.t) := by subst hW; simp [go_sem]
        clear hW c0 c1 c2
        go_quiet (fail)
        go_wp2_with fail
        go_roundw
        case rel => exact ⟨1, by omega, by go_num, Lib.hid ((hx.out.trans HX.out).trans (Ext.drewN _ _)), Lib.hid (fun i p q h => by omega)⟩
        case measure => simp [intOf]; omega
      · obtain ⟨j, rfl⟩ : ∃ j, k = j + 1 := ⟨k - 1, by omega⟩
        obtain ⟨b', off', p', hbb, hp', d0, d1, d2⟩ := pts_src (HS.out.ext hx.out) (show j < n by omega)
        have Hp' := Lib.hid hp'; clear hp'
        simp at hbb
        obtain ⟨rfl, rfl⟩ := hbb
        have hb' := World.block_lt_of_cell? _ _ d0
        go_wp2_with fail
        generalize hW : World.alloc _ _ = W
        have HX : Hid (Ext wr W) := Lib.hid (by subst hW; exact (Ext.refl _).alloc _)
        have e0 : W.cell? ⟨wr.heap.size, 0, none⟩ = some (.int .i64 p.t) := by subst hW; simp [go_sem]
        have e1 : W.cell? ⟨b, off + j * 3, none⟩ = some (.int .i64 p'.t) := (HX.out.cell (p := ⟨b, off + j * 3, none⟩) hb').trans d0
        clear hW c0 c1 c2 d0 d1 d2
        by_cases hle : p.t ≤ p'.t
        · have HF : Hid (risesB l = false) := Lib.hid (by
            rw [← Bool.not_eq_true, risesB_iff]
            intro h; have := h j p' p Hp'.out Hp.out; omega)
          go_quiet (fail)
          go_wp2_with fail
          go_ret
          rw [HF.out]
          exact ⟨rfl, (hx.out.trans HX.out).trans (Ext.drewN _ _)⟩
        · go_quiet (fail)
          go_wp2_with fail
          go_roundw
          case rel =>
            refine ⟨j + 1 + 1, by omega, by go_num, Lib.hid ((hx.out.trans HX.out).trans (Ext.drewN _ _)), Lib.hid (fun i x y h hx hy => ?_)⟩
            by_cases hij : i = j
            · subst hij
              rw [Hp'.out] at hx; rw [Hp.out] at hy
              cases hx; cases hy; omega
            · exact I.out i x y (by omega) hx hy
          case measure => simp [intOf]; omega
    · have HF : Hid (risesB l = true) := Lib.hid (by
        rw [risesB_iff]
        intro i p q hp hq
        exact I.out i p q (by have := (List.getElem?_eq_some_iff.1 hq).1; omega) hp hq)
      go_wp2_with fail
      go_ret
      rw [HF.out]
      exact ⟨rfl, hx.out⟩

end Go.Proofs.Ytabnngcaohgppaa
