/- The document's disk: Do (Sync, Delete). -/
import Derived.Test.YtcmolfhjkkfedaaRk5
namespace Go.Proofs.Ytcmolfhjkkfedaa
open Go.RowKit Go.Sort Go.Lib

section
variable {S S' : DiskS} {ns : List ByteArray} {name : ByteArray}
theorem onf_bad (h : ns.all nameB = false) : S.onFile ns name S' = (2, S) := by simp [DiskS.onFile, DiskS.doing, doStops, h]
theorem onf_cut (h : ns.all nameB = true) (hl : S.left = 0) : S.onFile ns name S' = (17, S) := by simp [DiskS.onFile, DiskS.doing, doStops, h, hl]
theorem onf_none (h : ns.all nameB = true) (hl : ¬ S.left = 0) (hx : aget S.files name = none) : S.onFile ns name S' = (13, S) := by simp [DiskS.onFile, DiskS.doing, doStops, h, hl, hx]
theorem onf_some {f : FileS} (h : ns.all nameB = true) (hl : ¬ S.left = 0) (hx : aget S.files name = some f) : S.onFile ns name S' = (0, S'.count) := by
  simp only [DiskS.onFile, DiskS.doing, doStops, h, hl, hx, if_false, Bool.true_eq_false, if_true]
end
/-- The row, behind a file is synced. -/
theorem row_setS {w : World} {t : TypeId} {g n c r : Nat} {L : List RF} {x : RF} (h : Row w t 4 (.slice (some ⟨g, 0, none⟩) n c) n (rfs L)) (hx : L[r]? = some x) (la' : Nat) (sy' : Bool) :
    Row ((w.setCell ⟨g, r * 4 + 2, none⟩ (.int .i64 (la' : Int))).setCell ⟨g, r * 4 + 3, none⟩ (.bool sy')) t 4 (.slice (some ⟨g, 0, none⟩) n c) n (rfs (L.set r ⟨x.nm, x.a, x.n, x.c, x.bs, la', sy'⟩)) := by
  obtain ⟨r1, _⟩ := World.ownsRow.stored h (r * 4 + 2) (.int .i64 (la' : Int))
  obtain ⟨r2, _⟩ := World.ownsRow.stored r1 (r * 4 + 3) (.bool sy')
  have e : rfs (L.set r ⟨x.nm, x.a, x.n, x.c, x.bs, la', sy'⟩) = ((rfs L).set (r * 4 + 2) (.int .i64 (la' : Int))).set (r * 4 + 3) (.bool sy') := by
    obtain ⟨e0, e1, e2, e3⟩ := rfs_cells hx
    rw [rfs_set]
    simp only [RF.v]
    have e1' : (rfs L)[r * 4 + 1]? = some (Value.slice x.a x.n x.c) := e1
    rw [set_same e0, set_same e1']
  rw [e]; exact r2
theorem sumR_take_drop {L : List RF} {k : Nat} {x : RF} (h : L[k]? = some x) : sumR (L.take k ++ L.drop (k + 1)) + x.bs.length = sumR L := by
  obtain ⟨hk, e⟩ := List.getElem?_eq_some_iff.1 h
  have e1 : ∀ A B : List RF, sumR (A ++ B) = sumR A + sumR B := fun A B => by unfold sumR; rw [List.map_append, List.sum_append]
  have e2 : L = L.take k ++ x :: L.drop (k + 1) := by rw [← e, ← List.drop_eq_getElem_cons hk, List.take_append_drop]
  have e3 : sumR (x :: L.drop (k + 1)) = x.bs.length + sumR (L.drop (k + 1)) := by simp [sumR]
  have := congrArg sumR e2
  rw [e1, e3] at this
  rw [e1]; omega
theorem rdata_take_drop (L : List RF) (k : Nat) : rdata (L.take k ++ L.drop (k + 1)) = (rdata L).take k ++ (rdata L).drop (k + 1) := by simp [rdata, List.map_take, List.map_drop]
theorem td_mem {L : List RF} {k : Nat} {f : RF} (h : f ∈ L.take k ++ L.drop (k + 1)) : f ∈ L := by
  rcases List.mem_append.1 h with h | h
  · exact List.mem_of_mem_take h
  · exact List.mem_of_mem_drop h
theorem td_len {L : List RF} {k : Nat} : (L.take k ++ L.drop (k + 1)).length ≤ L.length := by simp; omega

set_option maxHeartbeats 16000000 in
set_option maxRecDepth 100000 in
theorem rk_sync {w : World} {rd : Nat} {S : DiskS} {B : List Nat} (ok : S.Ok) (hops : S.ops < 4611686018427387904) (h : RkAt w rd S B) (name other : ByteArray) (hname : name.size ≤ maxLen) :
    Calls Try.prog 9 #[.pointer (some ⟨rd, 0, none⟩), .int .i64 1, .string name, .string other] w (RkCall w rd B (S.sync name)) := by
  obtain ⟨F, room, used, left, ops⟩ := S
  obtain ⟨L, la, lc, h1, h2, h3, rfl⟩ := h
  simp only at h1 h2 h3 hops
  subst h3
  have l0 : -1 ≤ left := ok.left0
  have l1 : left ≤ 9223372036854775807 := ok.left1
  have o0 : 0 ≤ ops := ok.ops0
  have hlenF : L.length = F.length := by have := h2.len; rwa [rdata_len] at this
  have hlen : L.length ≤ 512 := by have : F.length ≤ 512 := ok.few; omega
  obtain ⟨r, hr⟩ : ∃ r, r = (⟨F, room, (sumR L : Nat), left, ops⟩ : DiskS).sync name := ⟨_, rfl⟩
  rw [← hr]
  have HR := Lib.hid hr
  have H := Lib.hid h1
  have HF := Lib.hid h2
  clear hr h1 h2 ok hlenF
  go_enter Try.func9, Try.ntmps9
  go_wp2_with fail
  refine (rk_right name hname _).mono ?_
  rintro e w' ⟨rfl, rfl⟩
  obtain ⟨nb, hnb⟩ : ∃ nb, nb = nameB name := ⟨_, rfl⟩
  rw [← hnb]
  have HNB : Hid ([name].all nameB = nb) := Lib.hid (by simp [hnb])
  clear hnb
  have HAT : Hid (∀ w', Ext w w' → RkEnd w rd (rfoot rd (.slice la L.length lc) L) ⟨F, room, (sumR L : Nat), left, ops⟩ w') := Lib.hid (fun w' hx => RkEnd.same ⟨L, la, lc, H.out, HF.out, rfl, rfl⟩ hx)
  cases nb
  · have HL0 : Hid (r = (2, _)) := Lib.hid (HR.out.trans (onf_bad HNB.out))
    go_wp2_with fail
    go_ret
    rw [HL0.out]
    exact ⟨rfl, HAT.out _ (Ext.refl _)⟩
  · have c1 := H.out.head0.2.1
    by_cases hl : left = 0
    · have hl' := hl
      subst hl'
      have HL0 : Hid (r = (17, _)) := Lib.hid (HR.out.trans (onf_cut HNB.out rfl))
      clear hl
      go_wp2_with fail
      go_ret
      rw [HL0.out]
      exact ⟨rfl, HAT.out _ (Ext.refl _)⟩
    · have HLL : Hid (¬ left = 0) := Lib.hid hl
      go_wp2_with fail
      clear hl
      refine (rk_find H.out (by omega) name).mono ?_
      rintro e w' ⟨kk, rfl, hf, rfl⟩
      have c3 := H.out.lcell.1
      have hz3 := H.out.lcell.2
      rcases hf with ⟨rfl, hno⟩ | ⟨k, x, rfl, hq, hqn⟩
      · have HL0 : Hid (r = (13, _)) := Lib.hid (HR.out.trans (onf_none HNB.out HLL.out (HF.out.none (fun p hp => by
          obtain ⟨f, hf, rfl⟩ := List.mem_map.1 hp
          exact hno f hf))))
        clear hno
        go_wp2_with fail
        go_ret
        rw [HL0.out]
        exact ⟨rfl, HAT.out _ (Ext.refl _)⟩
      · subst hqn
        have hkl : k < L.length := (List.getElem?_eq_some_iff.1 hq).1
        obtain ⟨g, rfl⟩ : ∃ g, la = some ⟨g, 0, none⟩ := by
          obtain ⟨g, _, e, _⟩ := file_cells H.out.row hkl
          exact ⟨g, e⟩
        have cx1 := (H.out.cells hq).2.1
        have hmem : x ∈ L := List.mem_of_getElem? hq
        have hget : aget F x.nm = some x.fs := HF.out.at (rdata_at hq)
        have hxn : x.bs.length = x.n := u8s_src_len (H.out.ok x hmem).src
        have HL0 := Lib.hid (HR.out.trans (onf_some HNB.out HLL.out hget))
        have HGET := Lib.hid hget
        have HXN := Lib.hid hxn
        have HQX := Lib.hid hq
        have HMEM := Lib.hid hmem
        have hr0 : ¬ (k : Int) < 0 := by omega
        clear hxn hq hmem hget
        go_wp2_with fail
        refine wp_region_split_lit [] [0, 1, 2, 3, 4, 5, 6, 7, 8, 9, 10, 11, 12, 13, 14, 15] [16] (by kernel_rfl) (by kernel_rfl) (fun _ _ dd _ _ hh => by cases dd <;> exact hh) ?_
        simp only [pickOps, List.getElem?_cons_succ, List.getElem?_cons_zero]
        refine wpQuiet_nil ?_
        repeat (go_big_quiet_step (fail))
        refine wpQuiet_nil ?_
        intro W hw'
        have HX : Hid (Ext w W) := Lib.hid (by obtain ⟨kk, rfl⟩ := hw'; exact Ext.drewN _ _)
        clear hw' c1 c3 hz3 cx1
        have HD := Lib.hid (H.out.ext HX.out)
        have g2 := HD.out.free (k * 4 + 2)
        obtain ⟨_, _, q2, q3⟩ := HD.out.cells HQX.out
        go_upto_region 10 with fail
        clear q2 g2 q3
        generalize hW2 : World.setCell _ _ _ = W2
        have c3 : W2.cell? ⟨rd, 3, none⟩ = some (.slice (some ⟨g, 0, none⟩) L.length lc) := by
          have hb := ((setCell_chg W g (k * 4 + 2) (.int .i64 (x.n : Int))).block rd (block_lt HD.out.blk) (Ne.symm (HD.out.own g rfl))).trans HD.out.blk
          rw [hW2] at hb
          have := cell_of_block hb 3
          simpa using this
        obtain ⟨g3, q3⟩ : W2.frozen? ⟨g, k * 4 + 3, none⟩ = false ∧ W2.cell? ⟨g, k * 4 + 3, none⟩ = some (.bool x.sy) := by
          have q3 := (HD.out.cells HQX.out).2.2.2
          obtain ⟨_, ⟨e, _⟩ | ⟨g', cap, cur, e, _, hb, _⟩⟩ := HD.out.row
          · simp at e
          · simp only [Value.slice.injEq, Option.some.injEq, Addr.mk.injEq, true_and, and_true] at e
            obtain ⟨rfl, _⟩ := e
            have hb2 := setCell_block hb (i := k * 4 + 2) (.int .i64 (x.n : Int))
            rw [hW2] at hb2
            refine ⟨free_of_block hb2 _, ?_⟩
            rw [cell_of_block hb] at q3
            rw [cell_of_block hb2, Array.getElem?_setIfInBounds_ne (by omega)]
            exact q3
        have HW2 := Lib.hid hW2
        clear hW2
        go_wp2_with fail
        have hup := HD.out.upd k ⟨x.nm, x.a, x.n, x.c, x.bs, x.n, true⟩ ((setCell_chg W g (k * 4 + 2) (.int .i64 (x.n : Int))).trans (setCell_chg _ g (k * 4 + 3) (.bool true)) (fun _ _ e => e)) (row_setS HD.out.row HQX.out x.n true) ⟨(HD.out.ok x HMEM.out).src, (HD.out.ok x HMEM.out).own, (HD.out.ok x HMEM.out).cap⟩
        rw [HW2.out] at hup
        clear c3 q3 g3 HW2
        generalize World.setCell _ _ _ = W5 at hup ⊢
        obtain ⟨la', lc', R4, C4, O4⟩ := hup.pre HX.out
        have HR5 := Lib.hid R4
        have HC5 := Lib.hid C4
        have HO5 := Lib.hid O4
        clear hup R4 C4 O4
        go_wp2_with fail
        refine (rk_done HR5.out o0 hops l0 l1).mono ?_
        rintro e w6 ⟨rfl, R6, C6⟩
        have HR6 := Lib.hid R6
        have HC6 := Lib.hid C6
        clear R6 C6
        go_wp2_with fail
        go_ret
        rw [HL0.out]
        have hsy : (⟨F, room, (sumR L : Nat), left, ops⟩ : DiskS).synced x.nm = ⟨aput F x.nm ⟨x.bs, x.n, true⟩, room, (sumR L : Nat), left, ops⟩ := by
          unfold DiskS.synced
          simp only [HGET.out, RF.fs, HXN.out]
        rw [hsy]
        refine ⟨rfl, ?_⟩
        refine RkTo.end' (L' := L.set k ⟨x.nm, x.a, x.n, x.c, x.bs, x.n, true⟩) H.out ⟨la', lc', HR6.out, HC5.out.trans HC6.out (fun _ _ e => .inl e), HO5.out⟩ ?_ ?_ (fun f hf b hb => ?_)
        · rw [rdata_set]
          exact HF.out.set (s := x.nm) (f0 := x.fs) (rdata_at HQX.out)
        · show ((sumR L : Nat) : Int) = _
          have := sumR_set HQX.out ⟨x.nm, x.a, x.n, x.c, x.bs, x.n, true⟩
          simp only at this
          omega
        · rcases List.mem_or_eq_of_mem_set hf with hf | rfl
          · exact .inl ⟨f, hf, hb⟩
          · exact .inl ⟨x, HMEM.out, hb⟩

set_option maxHeartbeats 16000000 in
set_option maxRecDepth 100000 in
theorem rk_delete {w : World} {rd : Nat} {S : DiskS} {B : List Nat} (ok : S.Ok) (hops : S.ops < 4611686018427387904) (h : RkAt w rd S B) (name other : ByteArray) (hname : name.size ≤ maxLen) :
    Calls Try.prog 9 #[.pointer (some ⟨rd, 0, none⟩), .int .i64 3, .string name, .string other] w (RkCall w rd B (S.delete name)) := by
  obtain ⟨F, room, used, left, ops⟩ := S
  obtain ⟨L, la, lc, h1, h2, h3, rfl⟩ := h
  simp only at h1 h2 h3 hops
  subst h3
  have l0 : -1 ≤ left := ok.left0
  have l1 : left ≤ 9223372036854775807 := ok.left1
  have o0 : 0 ≤ ops := ok.ops0
  have hlenF : L.length = F.length := by have := h2.len; rwa [rdata_len] at this
  have hlen : L.length ≤ 512 := by have : F.length ≤ 512 := ok.few; omega
  obtain ⟨r, hr⟩ : ∃ r, r = (⟨F, room, (sumR L : Nat), left, ops⟩ : DiskS).delete name := ⟨_, rfl⟩
  rw [← hr]
  have HR := Lib.hid hr
  have H := Lib.hid h1
  have HF := Lib.hid h2
  clear hr h1 h2 ok hlenF
  go_enter Try.func9, Try.ntmps9
  go_wp2_with fail
  refine (rk_right name hname _).mono ?_
  rintro e w' ⟨rfl, rfl⟩
  obtain ⟨nb, hnb⟩ : ∃ nb, nb = nameB name := ⟨_, rfl⟩
  rw [← hnb]
  have HNB : Hid ([name].all nameB = nb) := Lib.hid (by simp [hnb])
  clear hnb
  have HAT : Hid (∀ w', Ext w w' → RkEnd w rd (rfoot rd (.slice la L.length lc) L) ⟨F, room, (sumR L : Nat), left, ops⟩ w') := Lib.hid (fun w' hx => RkEnd.same ⟨L, la, lc, H.out, HF.out, rfl, rfl⟩ hx)
  cases nb
  · have HL0 : Hid (r = (2, _)) := Lib.hid (HR.out.trans (onf_bad HNB.out))
    go_wp2_with fail
    go_ret
    rw [HL0.out]
    exact ⟨rfl, HAT.out _ (Ext.refl _)⟩
  · have c1 := H.out.head0.2.1
    by_cases hl : left = 0
    · have hl' := hl
      subst hl'
      have HL0 : Hid (r = (17, _)) := Lib.hid (HR.out.trans (onf_cut HNB.out rfl))
      clear hl
      go_wp2_with fail
      go_ret
      rw [HL0.out]
      exact ⟨rfl, HAT.out _ (Ext.refl _)⟩
    · have HLL : Hid (¬ left = 0) := Lib.hid hl
      go_wp2_with fail
      clear hl c1
      refine (rk_find H.out (by omega) name).mono ?_
      rintro e w' ⟨kk, rfl, hf, rfl⟩
      rcases hf with ⟨rfl, hno⟩ | ⟨k, x, rfl, hq, hqn⟩
      · have HL0 : Hid (r = (13, _)) := Lib.hid (HR.out.trans (onf_none HNB.out HLL.out (HF.out.none (fun p hp => by
          obtain ⟨f, hf, rfl⟩ := List.mem_map.1 hp
          exact hno f hf))))
        clear hno
        go_wp2_with fail
        go_ret
        rw [HL0.out]
        exact ⟨rfl, HAT.out _ (Ext.refl _)⟩
      · subst hqn
        have hkl : k < L.length := (List.getElem?_eq_some_iff.1 hq).1
        have hget : aget F x.nm = some x.fs := HF.out.at (rdata_at hq)
        have HL0 := Lib.hid (HR.out.trans (onf_some HNB.out HLL.out hget))
        have HGET := Lib.hid hget
        have HQX := Lib.hid hq
        have hr0 : ¬ (k : Int) < 0 := by omega
        clear hq hget
        go_wp2_with fail
        refine (rk_take H.out (by omega) k hkl).mono ?_
        rintro e w5 ⟨rfl, hup⟩
        obtain ⟨la', lc', R4, C4, O4⟩ := hup
        have HR5 := Lib.hid R4
        have HC5 := Lib.hid C4
        have HO5 := Lib.hid O4
        clear R4 C4 O4
        go_wp2_with fail
        refine (rk_done HR5.out o0 hops l0 l1).mono ?_
        rintro e w6 ⟨rfl, R6, C6⟩
        have HR6 := Lib.hid R6
        have HC6 := Lib.hid C6
        clear R6 C6
        go_wp2_with fail
        go_ret
        rw [HL0.out]
        have hsy : (⟨F, room, (sumR L : Nat), left, ops⟩ : DiskS).drop x.nm = ⟨adel F x.nm, room, (sumR L : Int) - (x.bs.length : Nat), left, ops⟩ := by
          unfold DiskS.drop
          simp only [HGET.out, RF.fs]
        rw [hsy]
        refine ⟨rfl, ?_⟩
        refine RkTo.end' (L' := L.take k ++ L.drop (k + 1)) H.out ⟨la', lc', HR6.out, HC5.out.trans HC6.out (fun _ _ e => .inl e), HO5.out⟩ ?_ ?_ (fun f hf b hb => ?_)
        · rw [rdata_take_drop]
          exact HF.out.erase (s := x.nm) (f0 := x.fs) (rdata_at HQX.out)
        · show (sumR L : Int) - (x.bs.length : Nat) = _
          have := sumR_take_drop HQX.out
          omega
        · exact .inl ⟨f, td_mem hf, hb⟩
end Go.Proofs.Ytcmolfhjkkfedaa
