/- MemtablePlays: the parts compared. -/
import Derived.Test.YtabnngcaohgppaaMpl
namespace Go.Proofs.Ytabnngcaohgppaa
open Go.RowKit Go.Sort Go.Lib

set_option maxHeartbeats 4000000 in
set_option maxRecDepth 100000 in
theorem parts_same {w : World} {a b : Option Addr} {c d : Nat} {K L : List (ByteArray × Sl)} (hk : Row w 46 2 (.slice a K.length c) K.length (prs K)) (hl : Row w 77 2 (.slice b L.length d) L.length (prs L))
    (ko : ∀ p ∈ K, p.2.Ok w) (lo : ∀ p ∈ L, p.2.Ok w) (hlen : L.length ≤ 100000) (hb : ∀ p ∈ L, p.2.l.length ≤ 1000000) (h : K.map (fun p => (p.1, p.2.l)) = L.map (fun p => (p.1, p.2.l))) :
    Calls Try.prog 16 #[.slice a K.length c, .slice b L.length d] w fun e w' => e = .returned (.bool true) ∧ Ext w w' := by
  have hkl : K.length = L.length := by simpa using congrArg List.length h
  obtain ⟨n, hn⟩ : ∃ n, n = L.length := ⟨_, rfl⟩
  rw [← hn] at hlen
  rw [hkl, ← hn]
  have HN := Lib.hid hn
  have HKN : Hid (K.length = n) := Lib.hid (by rw [hkl, hn])
  have HK : Hid (Row w 46 2 (.slice a K.length c) K.length (prs K)) := Lib.hid hk
  have HL := Lib.hid hl
  have KO := Lib.hid ko
  have LO := Lib.hid lo
  have HB := Lib.hid hb
  have H := Lib.hid h
  clear hk hl ko lo hb h hkl hn
  go_enter Try.func16, Try.ntmps16
  go_wp2_with fail
  go_loopw [5] (fun i wr => ∃ j : Nat, j ≤ n ∧ i = .int .i64 j ∧ Hid (Ext w wr)) (fun i _ => n - (RowKit.intOf i).toNat)
  case atStart => exact ⟨0, by omega, rfl, Lib.hid (Ext.refl _)⟩
  case round =>
    obtain ⟨j, hj, rfl, HX⟩ := hrel
    by_cases hlt : j < n
    · obtain ⟨g, x, rfl, hx, x0, x1⟩ := part_cells (HK.out.ext HX.out) (by rw [HKN.out]; exact hlt)
      obtain ⟨g2, y, rfl, hy, y0, y1⟩ := part_cells (HL.out.ext HX.out) (by rw [← HN.out]; exact hlt)
      have he : x.1 = y.1 ∧ x.2.l = y.2.l := by
        have h1 := congrArg (fun l => l[j]?) H.out
        simp only [List.getElem?_map, hx, hy, Option.map_some, Option.some.injEq, Prod.mk.injEq] at h1
        exact h1
      have HOX := Lib.hid (KO.out x (List.mem_of_getElem? hx)).1
      have HOY := Lib.hid (LO.out y (List.mem_of_getElem? hy)).1
      have HBY := Lib.hid (HB.out y (List.mem_of_getElem? hy))
      have HE := Lib.hid he.2
      have HSA : Hid (∀ (d : Nat) (os : Array Obj), Calls Try.prog 19 #[.slice x.2.a x.2.n x.2.c, .slice y.2.a y.2.n y.2.c] (grow (redrawn wr d) os) fun e w'' => e = .returned (.bool true) ∧ ∃ p : Regrown, w'' = grow (redrawn wr p.d) p.os) := Lib.hid (fun d os => Calls.grown_of (by
        have h1 := same_any (grow (redrawn wr d) os) x.2.a y.2.a x.2.n x.2.c y.2.n y.2.c x.2.l y.2.l ((HOX.out.ext HX.out).ext (Ext.regrown _ _ _)) ((HOY.out.ext HX.out).ext (Ext.regrown _ _ _)) (by rw [← src_len HOX.out, HE.out]; have := HBY.out; omega) (by rw [← src_len HOY.out]; have := HBY.out; omega)
        rw [decide_eq_true HE.out] at h1
        exact h1))
      rw [he.1] at x0
      clear hx hy he
      have r0 := cell_regrown x0
      have r1 := cell_regrown x1
      have r2 := cell_regrown y0
      have r3 := cell_regrown y1
      have hs : (y.1.toList != y.1.toList) = false := by simp
      go_wp2_with fail
      refine wp_region_quiet_below (by kernel_rfl) (by kernel_rfl) ?_
      repeat (go_big_quiet_step (first | (go_at_call 19; exact HSA.out _ _)))
      refine wpQuiet_nil ?_
      intro _ hw'
      obtain ⟨pr, rfl⟩ := hw'
      generalize hW4 : grow _ _ = W4
      have HX4 : Hid (Ext wr W4) := Lib.hid (by subst hW4; exact Ext.regrown _ _ _)
      clear hW4 r0 r1 r2 r3
      go_wp2_with fail
      go_roundw
      case rel => exact ⟨j + 1, by omega, by go_num, Lib.hid (HX.out.trans HX4.out)⟩
      case measure => simp [RowKit.intOf]; omega
    · go_wp2_with fail
      go_ret
      exact ⟨rfl, HX.out⟩
end Go.Proofs.Ytabnngcaohgppaa
