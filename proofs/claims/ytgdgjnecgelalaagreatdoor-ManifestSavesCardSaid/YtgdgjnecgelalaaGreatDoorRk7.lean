/- The document's disk: Do (Sync, Delete). -/
import Derived.Test.YtgdgjnecgelalaaGreatDoorRk5
import Derived.Test.YtgdgjnecgelalaaGreatDoorBox
namespace Go.Proofs.YtgdgjnecgelalaaGreatDoor
open Go.RowKit Go.Sort Go.Lib

section
variable {S S' : DiskS} {ns : List ByteArray} {name : ByteArray}
theorem onf_bad (h : ns.all nameB = false) : S.onFile ns name S' = (2, S) := by simp [DiskS.onFile, DiskS.doing, doStops, h]
theorem onf_cut (h : ns.all nameB = true) (hl : S.left = 0) : S.onFile ns name S' = (17, S) := by simp [DiskS.onFile, DiskS.doing, doStops, h, hl]
theorem onf_none (h : ns.all nameB = true) (hl : ¬ S.left = 0) (hx : aget S.files name = none) : S.onFile ns name S' = (13, S) := by simp [DiskS.onFile, DiskS.doing, doStops, h, hl, hx]
theorem onf_some {f : FileS} (h : ns.all nameB = true) (hl : ¬ S.left = 0) (hx : aget S.files name = some f) : S.onFile ns name S' = (0, S'.count) := by
  simp only [DiskS.onFile, DiskS.doing, doStops, h, hl, hx, if_false, Bool.true_eq_false, if_true]
end
/-- The row, behind a file is synced. -/
theorem row_setS {w : World} {t : TypeId} {g n c r : Nat} {L : List RF} {x : RF} (h : Row w t 4 (.slice (some ⟨g, 0, none⟩) n c) n (rfs L)) (hx : L[r]? = some x) (la' : Nat) (sy' : Bool) :
    Row ((w.setCell ⟨g, r * 4 + 2, none⟩ (.int .i64 (la' : Int))).setCell ⟨g, r * 4 + 3, none⟩ (.bool sy')) t 4 (.slice (some ⟨g, 0, none⟩) n c) n (rfs (L.set r ⟨x.nm, x.a, x.n, x.c, x.bs, la', sy'⟩)) := by
  obtain ⟨r1, _⟩ := World.ownsRow.stored h (r * 4 + 2) (.int .i64 (la' : Int))
  obtain ⟨r2, _⟩ := World.ownsRow.stored r1 (r * 4 + 3) (.bool sy')
  have e : rfs (L.set r ⟨x.nm, x.a, x.n, x.c, x.bs, la', sy'⟩) = ((rfs L).set (r * 4 + 2) (.int .i64 (la' : Int))).set (r * 4 + 3) (.bool sy') := by
    obtain ⟨e0, e1, e2, e3⟩ := rfs_cells hx
    rw [rfs_set]
    simp only [RF.v]
    have e1' : (rfs L)[r * 4 + 1]? = some (Value.slice x.a x.n x.c) := e1
    rw [set_same e0, set_same e1']
  rw [e]; exact r2
theorem sumR_take_drop {L : List RF} {k : Nat} {x : RF} (h : L[k]? = some x) : sumR (L.take k ++ L.drop (k + 1)) + x.bs.length = sumR L := by
  obtain ⟨hk, e⟩ := List.getElem?_eq_some_iff.1 h
  have e1 : ∀ A B : List RF, sumR (A ++ B) = sumR A + sumR B := fun A B => by unfold sumR; rw [List.map_append, List.sum_append]
  have e2 : L = L.take k ++ x :: L.drop (k + 1) := by rw [← e, ← List.drop_eq_getElem_cons hk, List.take_append_drop]
  have e3 : sumR (x :: L.drop (k + 1)) = x.bs.length + sumR (L.drop (k + 1)) := by simp [sumR]
  have := congrArg sumR e2
  rw [e1, e3] at this
  rw [e1]; omega
theorem rdata_take_drop (L : List RF) (k : Nat) : rdata (L.take k ++ L.drop (k + 1)) = (rdata L).take k ++ (rdata L).drop (k + 1) := by simp [rdata, List.map_take, List.map_drop]
theorem td_mem {L : List RF} {k : Nat} {f : RF} (h : f ∈ L.take k ++ L.drop (k + 1)) : f ∈ L := by
  rcases List.mem_append.1 h with h | h
  · exact List.mem_of_mem_take h
  · exact List.mem_of_mem_drop h
theorem td_len {L : List RF} {k : Nat} : (L.take k ++ L.drop (k + 1)).length ≤ L.length := by simp; omega

set_option maxHeartbeats 16000000 in
set_option maxRecDepth 100000 in
theorem rk_sync {w : World} {rd : Nat} {S : DiskS} {B : List Nat} (ok : S.Ok) (hops : S.ops < 4611686018427387904) (h : RkAt w rd S B) (name other : ByteArray) (hname : name.size ≤ maxLen) :
    Calls Tryz.prog 35 #[.pointer (some ⟨rd, 0, none⟩), .int .i64 1, .string name, .string other] w (RkCall w rd B (S.sync name)) := by
  obtain ⟨F, room, used, left, ops⟩ := S
  obtain ⟨L, la, lc, h1, h2, h3, rfl⟩ := h
  simp only at h1 h2 h3 hops
  subst h3
  have l0 : -1 ≤ left := ok.left0
  have l1 : left ≤ 9223372036854775807 := ok.left1
  have o0 : 0 ≤ ops := ok.ops0
  have hlenF : L.length = F.length := by have := h2.len; rwa [rdata_len] at this
  have hlen : L.length ≤ 512 := by have : F.length ≤ 512 := ok.few; omega
  obtain ⟨r, hr⟩ : ∃ r, r = (⟨F, room, (sumR L : Nat), left, ops⟩ : DiskS).sync name := ⟨_, rfl⟩
  rw [← hr]
  have HR := Lib.hid hr
  have H := Lib.hid h1
  have HF := Lib.hid h2
  clear hr h1 h2 ok hlenF
  go_enter Tryz.func35, Tryz.ntmps35
  go_wp2_with fail
  refine (rk_right name hname _).mono ?_
  rintro e w' ⟨rfl, rfl⟩
  obtain ⟨nb, hnb⟩ : ∃ nb, nb = nameB name := ⟨_, rfl⟩
  rw [← hnb]
  have HNB : Hid ([name].all nameB = nb) := Lib.hid (by simp [hnb])
  clear hnb
  have HAT : Hid (∀ w', Ext w w' → RkEnd w rd (rfoot rd (.slice la L.length lc) L) ⟨F, room, (sumR L : Nat), left, ops⟩ w') := Lib.hid (fun w' hx => RkEnd.same ⟨L, la, lc, H.out, HF.out, rfl, rfl⟩ hx)
  cases nb
  · have HL0 : Hid (r = (2, _)) := Lib.hid (HR.out.trans (onf_bad HNB.out))
    go_wp2_with fail
    go_ret
    rw [HL0.out]
    exact ⟨rfl, HAT.out _ (Ext.refl _)⟩
  · have c1 := H.out.head0.2.1
    by_cases hl : left = 0
    · have hl' := hl
      subst hl'
      have HL0 : Hid (r = (17, _)) := Lib.hid (HR.out.trans (onf_cut HNB.out rfl))
      clear hl
      go_wp2_with fail
      go_ret
      rw [HL0.out]
      exact ⟨rfl, HAT.out _ (Ext.refl _)⟩
    · have HLL : Hid (¬ left = 0) := Lib.hid hl
      go_wp2_with fail
      clear hl
      refine (rk_find H.out (by omega) name).mono ?_
      rintro e w' ⟨kk, rfl, hf, rfl⟩
      have c3 := H.out.lcell.1
      have hz3 := H.out.lcell.2
      rcases hf with ⟨rfl, hno⟩ | ⟨k, x, rfl, hq, hqn⟩
      · have HL0 : Hid (r = (13, _)) := Lib.hid (HR.out.trans (onf_none HNB.out HLL.out (HF.out.none (fun p hp => by
          obtain ⟨f, hf, rfl⟩ := List.mem_map.1 hp
          exact hno f hf))))
        clear hno
        go_wp2_with fail
        go_ret
        rw [HL0.out]
        exact ⟨rfl, HAT.out _ (Ext.refl _)⟩
      · subst hqn
        have hkl : k < L.length := (List.getElem?_eq_some_iff.1 hq).1
        obtain ⟨g, rfl⟩ : ∃ g, la = some ⟨g, 0, none⟩ := by
          obtain ⟨g, _, e, _⟩ := file_cells H.out.row hkl
          exact ⟨g, e⟩
        have cx1 := (H.out.cells hq).2.1
        have hmem : x ∈ L := List.mem_of_getElem? hq
        have hget : aget F x.nm = some x.fs := HF.out.at (rdata_at hq)
        have hxn : x.bs.length = x.n := u8s_src_len (H.out.ok x hmem).src
        have HL0 := Lib.hid (HR.out.trans (onf_some HNB.out HLL.out hget))
        have HGET := Lib.hid hget
        have HXN := Lib.hid hxn
        have HQX := Lib.hid hq
        have HMEM := Lib.hid hmem
        have hr0 : ¬ (k : Int) < 0 := by omega
        clear hxn hq hmem hget
        go_wp2_with fail
        refine wp_region_split_lit [] [0, 1, 2, 3, 4, 5, 6, 7, 8, 9, 10, 11, 12, 13, 14, 15] [16] (by kernel_rfl) (by kernel_rfl) (fun _ _ dd _ _ hh => by cases dd <;> exact hh) ?_
        simp only [pickOps, List.getElem?_cons_succ, List.getElem?_cons_zero]
        refine wpQuiet_nil ?_
        repeat (go_big_quiet_step (fail))
        refine wpQuiet_nil ?_
        intro W hw'
        have HX : Hid (Ext w W) := Lib.hid (by obtain ⟨kk, rfl⟩ := hw'; exact Ext.drewN _ _)
        clear hw' c1 c3 hz3 cx1
        have HD := Lib.hid (H.out.ext HX.out)
        have g2 := HD.out.free (k * 4 + 2)
        obtain ⟨_, _, q2, q3⟩ := HD.out.cells HQX.out
        go_upto_region 10 with fail
        clear q2 g2 q3
        generalize hW2 : World.setCell _ _ _ = W2
        have c3 : W2.cell? ⟨rd, 3, none⟩ = some (.slice (some ⟨g, 0, none⟩) L.length lc) := by
          have hb := ((setCell_chg W g (k * 4 + 2) (.int .i64 (x.n : Int))).block rd (block_lt HD.out.blk) (Ne.symm (HD.out.own g rfl))).trans HD.out.blk
          rw [hW2] at hb
          have := cell_of_block hb 3
          simpa using this
        obtain ⟨g3, q3⟩ : W2.frozen? ⟨g, k * 4 + 3, none⟩ = false ∧ W2.cell? ⟨g, k * 4 + 3, none⟩ = some (.bool x.sy) := by
          have q3 := (HD.out.cells HQX.out).2.2.2
          obtain ⟨_, ⟨e, _⟩ | ⟨g', cap, cur, e, _, hb, _⟩⟩ := HD.out.row
          · simp at e
          · simp only [Value.slice.injEq, Option.some.injEq, Addr.mk.injEq, true_and, and_true] at e
            obtain ⟨rfl, _⟩ := e
            have hb2 := setCell_block hb (i := k * 4 + 2) (.int .i64 (x.n : Int))
            rw [hW2] at hb2
            refine ⟨free_of_block hb2 _, ?_⟩
            rw [cell_of_block hb] at q3
            rw [cell_of_block hb2, Array.getElem?_setIfInBounds_ne (by omega)]
            exact q3
        have HW2 := Lib.hid hW2
        clear hW2
        go_wp2_with fail
        have hup := HD.out.upd k ⟨x.nm, x.a, x.n, x.c, x.bs, x.n, true⟩ ((setCell_chg W g (k * 4 + 2) (.int .i64 (x.n : Int))).trans (setCell_chg _ g (k * 4 + 3) (.bool true)) (fun _ _ e => e)) (row_setS HD.out.row HQX.out x.n true) ⟨(HD.out.ok x HMEM.out).src, (HD.out.ok x HMEM.out).own, (HD.out.ok x HMEM.out).cap⟩
        rw [HW2.out] at hup
        clear c3 q3 g3 HW2
        generalize World.setCell _ _ _ = W5 at hup ⊢
        obtain ⟨la', lc', R4, C4, O4⟩ := hup.pre HX.out
        have HR5 := Lib.hid R4
        have HC5 := Lib.hid C4
        have HO5 := Lib.hid O4
        clear hup R4 C4 O4
        go_wp2_with fail
        refine (rk_done HR5.out o0 hops l0 l1).mono ?_
        rintro e w6 ⟨rfl, R6, C6⟩
        have HR6 := Lib.hid R6
        have HC6 := Lib.hid C6
        clear R6 C6
        go_wp2_with fail
        go_ret
        rw [HL0.out]
        have hsy : (⟨F, room, (sumR L : Nat), left, ops⟩ : DiskS).synced x.nm = ⟨aput F x.nm ⟨x.bs, x.n, true⟩, room, (sumR L : Nat), left, ops⟩ := by
          unfold DiskS.synced
          simp only [HGET.out, RF.fs, HXN.out]
        rw [hsy]
        refine ⟨rfl, ?_⟩
        refine RkTo.end' (L' := L.set k ⟨x.nm, x.a, x.n, x.c, x.bs, x.n, true⟩) H.out ⟨la', lc', HR6.out, HC5.out.trans HC6.out (fun _ _ e => .inl e), HO5.out⟩ ?_ ?_ (fun f hf b hb => ?_)
        · rw [rdata_set]
          exact HF.out.set (s := x.nm) (f0 := x.fs) (rdata_at HQX.out)
        · show ((sumR L : Nat) : Int) = _
          have := sumR_set HQX.out ⟨x.nm, x.a, x.n, x.c, x.bs, x.n, true⟩
          simp only at this
          omega
        · rcases List.mem_or_eq_of_mem_set hf with hf | rfl
          · exact .inl ⟨f, hf, hb⟩
          · exact .inl ⟨x, HMEM.out, hb⟩

set_option maxHeartbeats 16000000 in
set_option maxRecDepth 100000 in
theorem rk_delete {w : World} {rd : Nat} {S : DiskS} {B : List Nat} (ok : S.Ok) (hops : S.ops < 4611686018427387904) (h : RkAt w rd S B) (name other : ByteArray) (hname : name.size ≤ maxLen) :
    Calls Tryz.prog 35 #[.pointer (some ⟨rd, 0, none⟩), .int .i64 3, .string name, .string other] w (RkCall w rd B (S.delete name)) := by
  obtain ⟨F, room, used, left, ops⟩ := S
  obtain ⟨L, la, lc, h1, h2, h3, rfl⟩ := h
  simp only at h1 h2 h3 hops
  subst h3
  have l0 : -1 ≤ left := ok.left0
  have l1 : left ≤ 9223372036854775807 := ok.left1
  have o0 : 0 ≤ ops := ok.ops0
  have hlenF : L.length = F.length := by have := h2.len; rwa [rdata_len] at this
  have hlen : L.length ≤ 512 := by have : F.length ≤ 512 := ok.few; omega
  obtain ⟨r, hr⟩ : ∃ r, r = (⟨F, room, (sumR L : Nat), left, ops⟩ : DiskS).delete name := ⟨_, rfl⟩
  rw [← hr]
  have HR := Lib.hid hr
  have H := Lib.hid h1
  have HF := Lib.hid h2
  clear hr h1 h2 ok hlenF
  go_enter Tryz.func35, Tryz.ntmps35
  go_wp2_with fail
  refine (rk_right name hname _).mono ?_
  rintro e w' ⟨rfl, rfl⟩
  obtain ⟨nb, hnb⟩ : ∃ nb, nb = nameB name := ⟨_, rfl⟩
  rw [← hnb]
  have HNB : Hid ([name].all nameB = nb) := Lib.hid (by simp [hnb])
  clear hnb
  have HAT : Hid (∀ w', Ext w w' → RkEnd w rd (rfoot rd (.slice la L.length lc) L) ⟨F, room, (sumR L : Nat), left, ops⟩ w') := Lib.hid (fun w' hx => RkEnd.same ⟨L, la, lc, H.out, HF.out, rfl, rfl⟩ hx)
  cases nb
  · have HL0 : Hid (r = (2, _)) := Lib.hid (HR.out.trans (onf_bad HNB.out))
    go_wp2_with fail
    go_ret
    rw [HL0.out]
    exact ⟨rfl, HAT.out _ (Ext.refl _)⟩
  · have c1 := H.out.head0.2.1
    by_cases hl : left = 0
    · have hl' := hl
      subst hl'
      have HL0 : Hid (r = (17, _)) := Lib.hid (HR.out.trans (onf_cut HNB.out rfl))
      clear hl
      go_wp2_with fail
      go_ret
      rw [HL0.out]
      exact ⟨rfl, HAT.out _ (Ext.refl _)⟩
    · have HLL : Hid (¬ left = 0) := Lib.hid hl
      go_wp2_with fail
      clear hl c1
      refine (rk_find H.out (by omega) name).mono ?_
      rintro e w' ⟨kk, rfl, hf, rfl⟩
      rcases hf with ⟨rfl, hno⟩ | ⟨k, x, rfl, hq, hqn⟩
      · have HL0 : Hid (r = (13, _)) := Lib.hid (HR.out.trans (onf_none HNB.out HLL.out (HF.out.none (fun p hp => by
          obtain ⟨f, hf, rfl⟩ := List.mem_map.1 hp
          exact hno f hf))))
        clear hno
        go_wp2_with fail
        go_ret
        rw [HL0.out]
        exact ⟨rfl, HAT.out _ (Ext.refl _)⟩
      · subst hqn
        have hkl : k < L.length := (List.getElem?_eq_some_iff.1 hq).1
        have hget : aget F x.nm = some x.fs := HF.out.at (rdata_at hq)
        have HL0 := Lib.hid (HR.out.trans (onf_some HNB.out HLL.out hget))
        have HGET := Lib.hid hget
        have HQX := Lib.hid hq
        have hr0 : ¬ (k : Int) < 0 := by omega
        clear hq hget
        go_wp2_with fail
        refine (rk_take H.out (by omega) k hkl).mono ?_
        rintro e w5 ⟨rfl, hup⟩
        obtain ⟨la', lc', R4, C4, O4⟩ := hup
        have HR5 := Lib.hid R4
        have HC5 := Lib.hid C4
        have HO5 := Lib.hid O4
        clear R4 C4 O4
        go_wp2_with fail
        refine (rk_done HR5.out o0 hops l0 l1).mono ?_
        rintro e w6 ⟨rfl, R6, C6⟩
        have HR6 := Lib.hid R6
        have HC6 := Lib.hid C6
        clear R6 C6
        go_wp2_with fail
        go_ret
        rw [HL0.out]
        have hsy : (⟨F, room, (sumR L : Nat), left, ops⟩ : DiskS).drop x.nm = ⟨adel F x.nm, room, (sumR L : Int) - (x.bs.length : Nat), left, ops⟩ := by
          unfold DiskS.drop
          simp only [HGET.out, RF.fs]
        rw [hsy]
        refine ⟨rfl, ?_⟩
        refine RkTo.end' (L' := L.take k ++ L.drop (k + 1)) H.out ⟨la', lc', HR6.out, HC5.out.trans HC6.out (fun _ _ e => .inl e), HO5.out⟩ ?_ ?_ (fun f hf b hb => ?_)
        · rw [rdata_take_drop]
          exact HF.out.erase (s := x.nm) (f0 := x.fs) (rdata_at HQX.out)
        · show (sumR L : Int) - (x.bs.length : Nat) = _
          have := sumR_take_drop HQX.out
          omega
        · exact .inl ⟨f, td_mem hf, hb⟩
end Go.Proofs.YtgdgjnecgelalaaGreatDoor

/-! The document's disk: Do (Rename). -/

namespace Go.Proofs.YtgdgjnecgelalaaGreatDoor
open Go.RowKit Go.Sort Go.Lib

theorem adel_comm {α β : Type} [DecidableEq α] : ∀ (F : List (α × β)) (a b : α), adel (adel F a) b = adel (adel F b) a
  | [], a, b => rfl
  | p :: F, a, b => by
    obtain ⟨s, v⟩ := p
    have ih := adel_comm F a b
    by_cases ha : a = s <;> by_cases hb : b = s
    · subst ha; subst hb; rfl
    · subst ha; simp [adel, hb]
    · subst hb; simp [adel, ha]
    · simp [adel, ha, hb, ih]

theorem RkTo.after {w w1 w2 : World} {rd : Nat} {V V1 : Value} {room left ops : Int} {L : List RF} (C : Chg (RkT rd V) w w1) (O : ∀ g, V1.ownBlock = some g → V.ownBlock = some g ∨ w.heap.size ≤ g) (h : RkTo w1 rd V1 room left ops L w2) : RkTo w rd V room left ops L w2 := by
  obtain ⟨la', lc', r1, r2, r3⟩ := h
  refine ⟨la', lc', r1, C.trans r2 (fun i hi e => ?_), fun g hg => ?_⟩
  · rcases e with e | e
    · exact .inl e
    · rcases O i e with e | e
      · exact .inr e
      · omega
  · rcases r3 g hg with e | e
    · exact O g e
    · exact .inr (Nat.le_trans C.size e)
/-- What is left of the disk, and the file that is put. -/
structure RenP (F : Fs) (L L2 : List RF) (x : RF) (other : ByteArray) (used used2 : Int) : Prop where
  sort : SortF (rdata L2) (adel (adel F x.nm) other)
  sum : (sumR L2 : Int) + (x.bs.length : Nat) + (used - used2) = used
  mem : ∀ f ∈ L2, f ∈ L
  len : L2.length ≤ L.length

set_option maxHeartbeats 16000000 in
set_option maxRecDepth 100000 in
theorem rk_rename {w : World} {rd : Nat} {S : DiskS} {B : List Nat} (ok : S.Ok) (hops : S.ops < 4611686018427387904) (h : RkAt w rd S B) (name other : ByteArray) (hname : name.size ≤ maxLen) (hother : other.size ≤ maxLen) :
    Calls Tryz.prog 35 #[.pointer (some ⟨rd, 0, none⟩), .int .i64 2, .string name, .string other] w (RkCall w rd B (S.rename name other)) := by
  obtain ⟨F, room, used, left, ops⟩ := S
  obtain ⟨L, la, lc, h1, h2, h3, rfl⟩ := h
  simp only at h1 h2 h3 hops
  subst h3
  have l0 : -1 ≤ left := ok.left0
  have l1 : left ≤ 9223372036854775807 := ok.left1
  have o0 : 0 ≤ ops := ok.ops0
  have hlenF : L.length = F.length := by have := h2.len; rwa [rdata_len] at this
  have hlen : L.length ≤ 512 := by have : F.length ≤ 512 := ok.few; omega
  obtain ⟨r, hr⟩ : ∃ r, r = (⟨F, room, (sumR L : Nat), left, ops⟩ : DiskS).rename name other := ⟨_, rfl⟩
  rw [← hr]
  have HR := Lib.hid hr
  have H := Lib.hid h1
  have HF := Lib.hid h2
  clear hr h1 h2 ok hlenF
  go_enter Tryz.func35, Tryz.ntmps35
  go_wp2_with fail
  refine (rk_right name hname _).mono ?_
  rintro e w' ⟨rfl, rfl⟩
  obtain ⟨nb, hnb⟩ : ∃ nb, nb = nameB name := ⟨_, rfl⟩
  rw [← hnb]
  have HNB := Lib.hid hnb
  clear hnb
  have HAT : Hid (∀ w', Ext w w' → RkEnd w rd (rfoot rd (.slice la L.length lc) L) ⟨F, room, (sumR L : Nat), left, ops⟩ w') := Lib.hid (fun w' hx => RkEnd.same ⟨L, la, lc, H.out, HF.out, rfl, rfl⟩ hx)
  cases nb
  · have HL0 : Hid (r = (2, _)) := Lib.hid (HR.out.trans (onf_bad (by simp [← HNB.out])))
    go_wp2_with fail
    go_ret
    rw [HL0.out]
    exact ⟨rfl, HAT.out _ (Ext.refl _)⟩
  · go_wp2_with fail
    refine (rk_right other hother _).mono ?_
    rintro e w' ⟨rfl, rfl⟩
    obtain ⟨mb, hmb⟩ : ∃ mb, mb = nameB other := ⟨_, rfl⟩
    rw [← hmb]
    have HNA : Hid ([name, other].all nameB = mb) := Lib.hid (by simp [← HNB.out, hmb])
    clear hmb HNB
    cases mb
    · have HL0 : Hid (r = (2, _)) := Lib.hid (HR.out.trans (onf_bad HNA.out))
      go_wp2_with fail
      go_ret
      rw [HL0.out]
      exact ⟨rfl, HAT.out _ (Ext.refl _)⟩
    · have c1 := H.out.head0.2.1
      by_cases hl : left = 0
      · have hl' := hl
        subst hl'
        have HL0 : Hid (r = (17, _)) := Lib.hid (HR.out.trans (onf_cut HNA.out rfl))
        clear hl
        go_wp2_with fail
        go_ret
        rw [HL0.out]
        exact ⟨rfl, HAT.out _ (Ext.refl _)⟩
      · have HLL : Hid (¬ left = 0) := Lib.hid hl
        go_wp2_with fail
        clear hl c1
        refine (rk_find H.out (by omega) name).mono ?_
        rintro e w' ⟨kk, rfl, hf, rfl⟩
        rcases hf with ⟨rfl, hno⟩ | ⟨k, x, rfl, hq, hqn⟩
        · have HL0 : Hid (r = (13, _)) := Lib.hid (HR.out.trans (onf_none HNA.out HLL.out (HF.out.none (fun p hp => by
            obtain ⟨f, hf, rfl⟩ := List.mem_map.1 hp
            exact hno f hf))))
          clear hno
          go_wp2_with fail
          go_ret
          rw [HL0.out]
          exact ⟨rfl, HAT.out _ (Ext.refl _)⟩
        · subst hqn
          have hkl : k < L.length := (List.getElem?_eq_some_iff.1 hq).1
          have hget : aget F x.nm = some x.fs := HF.out.at (rdata_at hq)
          have HL0 := Lib.hid (HR.out.trans (onf_some HNA.out HLL.out hget))
          have HGET := Lib.hid hget
          have HQX := Lib.hid hq
          have HMEM := Lib.hid (List.mem_of_getElem? hq)
          have hr0 : ¬ (k : Int) < 0 := by omega
          obtain ⟨g, rfl⟩ : ∃ g, la = some ⟨g, 0, none⟩ := by
            obtain ⟨g, _, e, _⟩ := file_cells H.out.row hkl
            exact ⟨g, e⟩
          clear hq hget
          by_cases hno : x.nm = other
          · have he : (x.nm.toList == other.toList) = true := by rw [rk_str_eq]; simpa using hno
            have he2 : (x.nm.toList != other.toList) = false := by simp [bne, he]
            have HNO := Lib.hid hno
            clear hno
            go_wp2_with fail
            refine (rk_done H.out o0 hops l0 l1).mono ?_
            rintro e w6 ⟨rfl, R6, C6⟩
            have HR6 := Lib.hid R6
            have HC6 := Lib.hid C6
            clear R6 C6
            go_wp2_with fail
            go_ret
            rw [HL0.out]
            have hsy : (⟨F, room, (sumR L : Nat), left, ops⟩ : DiskS).renamed x.nm other = ⟨F, room, (sumR L : Nat), left, ops⟩ := by
              unfold DiskS.renamed
              rw [if_pos HNO.out]
            rw [hsy]
            exact ⟨rfl, RkTo.end' (L' := L) H.out ⟨_, lc, HR6.out, HC6.out.mono (fun _ _ e => .inl e), fun _ h => .inl h⟩ HF.out rfl (fun f hf b hb => .inl ⟨f, hf, hb⟩)⟩
          · have he : (x.nm.toList == other.toList) = false := by rw [rk_str_eq]; simpa using hno
            have he2 : (x.nm.toList != other.toList) = true := by simp [bne, he]
            have HNO := Lib.hid hno
            have c3 := H.out.lcell.1
            obtain ⟨cx0, cx1, cx2, cx3⟩ := H.out.cells HQX.out
            clear hno
            go_upto_region 13 with fail
            clear c3 cx0 cx1 cx2 cx3
            generalize hW : World.alloc _ _ = W
            obtain ⟨xb, hxb⟩ : ∃ xb, xb = w.heap.size := ⟨_, rfl⟩
            have HX : Hid (Ext w W) := Lib.hid (by rw [← hW]; exact (Ext.refl _).alloc _)
            have HB : Hid (W.heap[xb]? = some (.cells #[.string x.nm, .slice x.a x.n x.c, .int .i64 (x.la : Int), .bool x.sy] 91 (0, 0))) := Lib.hid (by rw [← hW, hxb]; exact heap_alloc_new w _)
            have HXB := Lib.hid hxb
            rw [← hxb]
            clear hW hxb
            have c0 : W.cell? ⟨xb, 0, none⟩ = some (.string x.nm) := by have := cell_of_block HB.out 0; simpa using this
            have z0 := free_of_block HB.out 0
            go_upto_region 14 with fail
            have HB2 : Hid ((W.setCell ⟨xb, 0, none⟩ (.string other)).heap[xb]? = some (.cells #[.string other, .slice x.a x.n x.c, .int .i64 (x.la : Int), .bool x.sy] 91 (0, 0))) := Lib.hid (by rw [setCell_block HB.out]; rfl)
            clear c0 z0
            generalize hW2 : World.setCell _ _ _ = W2 at *
            have HX2 : Hid (Ext w W2) := Lib.hid (by rw [← hW2]; exact HX.out.setCell (Nat.le_of_eq HXB.out.symm) _)
            clear hW2 HB HX
            have HD := Lib.hid (H.out.ext HX2.out)
            go_wp2_with fail
            refine (rk_take HD.out (by omega) k hkl).mono ?_
            rintro e w3 ⟨rfl, hup⟩
            obtain ⟨la3, lc3, R3, C3, O3⟩ := hup
            have HR3 := Lib.hid R3
            have HC3 : Hid (Chg (RkT rd (.slice (some ⟨g, 0, none⟩) L.length lc)) w w3) := Lib.hid ((Chg.of_ext (S := RkT rd (.slice (some ⟨g, 0, none⟩) L.length lc)) HX2.out).trans C3 (fun _ _ e => e))
            have HO3 : Hid (∀ b, (Value.slice la3 (L.take k ++ L.drop (k + 1)).length lc3).ownBlock = some b → ((Value.slice (some ⟨g, 0, none⟩) L.length lc).ownBlock = some b ∨ w.heap.size ≤ b) ∧ b ≠ xb) := Lib.hid (fun b hb => by
              have h1 := HX2.out.size
              have h2 := block_lt HB2.out
              have h3 := HXB.out
              rcases O3 b hb with e | e
              · exact ⟨.inl e, by have := H.out.row.lt e; omega⟩
              · exact ⟨.inr (by omega), by omega⟩)
            have HS3 : Hid (SortF (rdata (L.take k ++ L.drop (k + 1))) (adel F x.nm)) := Lib.hid (by rw [rdata_take_drop]; exact HF.out.erase (s := x.nm) (f0 := x.fs) (rdata_at HQX.out))
            have HB3 : Hid (w3.heap[xb]? = some (.cells #[.string other, .slice x.a x.n x.c, .int .i64 (x.la : Int), .bool x.sy] 91 (0, 0))) := Lib.hid ((C3.block xb (block_lt HB2.out) (by
              have := HXB.out
              rintro (e | e)
              · have := block_lt H.out.blk; omega
              · have := H.out.row.lt e; omega)).trans HB2.out)
            have hl3 : (L.take k ++ L.drop (k + 1)).length ≤ 512 := Nat.le_trans td_len hlen
            clear R3 C3 O3
            go_wp2_with fail
            refine (rk_find HR3.out (by omega) other).mono ?_
            rintro e w' ⟨jj, rfl, hf, rfl⟩
            have HN3 : Hid (((adel F x.nm).map (·.1)).Nodup) := Lib.hid (HF.out.nodupF.sublist ((adel_sub F x.nm).map _))
            have hsum3 := sumR_take_drop HQX.out
            rcases hf with ⟨rfl, hno3⟩ | ⟨j, y, rfl, hq3, hqn3⟩
            case' inl =>
              have hng : aget (adel F x.nm) other = none := HS3.out.none (fun p hp => by
                obtain ⟨f, hf, rfl⟩ := List.mem_map.1 hp
                exact hno3 f hf)
              have HDR : Hid ((⟨F, room, (sumR L : Nat), left, ops⟩ : DiskS).drop other = ⟨adel F other, room, (sumR L : Nat), left, ops⟩) := Lib.hid (by
                have h1 : aget F other = none := by rw [← aget_adel_other (m := F) (Ne.symm HNO.out)]; exact hng
                unfold DiskS.drop
                simp only [h1]
                rw [adel_none h1])
              have HP4 : Hid (RenP F L (L.take k ++ L.drop (k + 1)) x other (sumR L : Nat) (sumR L : Nat)) := Lib.hid ⟨by rw [adel_none hng]; exact HS3.out, by omega, fun f hf => td_mem hf, td_len⟩
              obtain ⟨u2, hu2⟩ : ∃ u2 : Int, u2 = (sumR L : Nat) := ⟨_, rfl⟩
              have HDR : Hid ((⟨F, room, (sumR L : Nat), left, ops⟩ : DiskS).drop other = ⟨adel F other, room, u2, left, ops⟩) := by rw [hu2]; exact HDR
              have HP4 : Hid (RenP F L (L.take k ++ L.drop (k + 1)) x other (sumR L : Nat) u2) := by rw [hu2]; exact HP4
              obtain ⟨L4, hL4⟩ : ∃ L4, L4 = L.take k ++ L.drop (k + 1) := ⟨_, rfl⟩
              obtain ⟨la4, hla4⟩ : ∃ la4, la4 = la3 := ⟨_, rfl⟩
              obtain ⟨lc4, hlc4⟩ : ∃ lc4, lc4 = lc3 := ⟨_, rfl⟩
              obtain ⟨w4, hw4⟩ : ∃ w4, w4 = w3 := ⟨_, rfl⟩
              have HR4 : Hid (RkRaw w4 rd room left ops L4 la4 lc4) := Lib.hid (by rw [hL4, hla4, hlc4, hw4]; exact HR3.out)
              have HC4 : Hid (Chg (RkT rd (.slice (some ⟨g, 0, none⟩) L.length lc)) w w4) := Lib.hid (by rw [hw4]; exact HC3.out)
              have HO4 : Hid (∀ b, (Value.slice la4 L4.length lc4).ownBlock = some b → ((Value.slice (some ⟨g, 0, none⟩) L.length lc).ownBlock = some b ∨ w.heap.size ≤ b) ∧ b ≠ xb) := Lib.hid (by rw [hL4, hla4, hlc4]; exact HO3.out)
              have HB4 : Hid (w4.heap[xb]? = some (.cells #[.string other, .slice x.a x.n x.c, .int .i64 (x.la : Int), .bool x.sy] 91 (0, 0))) := Lib.hid (by rw [hw4]; exact HB3.out)
              rw [← hL4] at HP4
              rw [← hw4]
              clear hno3 hng hsum3 hu2 hL4 hla4 hlc4 hw4 HR3 HC3 HO3 HB3
            case' inr =>
              have hjl : j < (L.take k ++ L.drop (k + 1)).length := (List.getElem?_eq_some_iff.1 hq3).1
              have hjr : (0 : Int) ≤ (j : Int) := by omega
              have hgt : aget (adel F x.nm) other = some y.fs := by rw [← hqn3]; exact HS3.out.at (rdata_at hq3)
              have HDR : Hid ((⟨F, room, (sumR L : Nat), left, ops⟩ : DiskS).drop other = ⟨adel F other, room, (sumR L : Int) - (y.bs.length : Nat), left, ops⟩) := Lib.hid (by
                have h1 : aget F other = some y.fs := by rw [← aget_adel_other (m := F) (Ne.symm HNO.out)]; exact hgt
                unfold DiskS.drop
                simp only [h1, RF.fs])
              have hsum4 := sumR_take_drop hq3
              have HP4 : Hid (RenP F L ((L.take k ++ L.drop (k + 1)).take j ++ (L.take k ++ L.drop (k + 1)).drop (j + 1)) x other (sumR L : Nat) ((sumR L : Int) - (y.bs.length : Nat))) := Lib.hid ⟨by
                rw [rdata_take_drop]; exact HS3.out.erase (s := other) (f0 := y.fs) (by rw [← hqn3]; exact rdata_at hq3), by omega, fun f hf => td_mem (td_mem hf), Nat.le_trans td_len td_len⟩
              obtain ⟨u2, hu2⟩ : ∃ u2 : Int, u2 = (sumR L : Int) - (y.bs.length : Nat) := ⟨_, rfl⟩
              rw [← hu2] at HDR HP4
              clear hq3 hqn3 hgt hsum3 hsum4 hu2
              go_wp2_with fail
              refine (rk_take HR3.out (by omega) j hjl).mono ?_
              rintro e w4 ⟨rfl, la4, lc4, R4, C4, O4⟩
              have HR4 := Lib.hid R4
              have HC4 : Hid (Chg (RkT rd (.slice (some ⟨g, 0, none⟩) L.length lc)) w w4) := Lib.hid (HC3.out.trans C4 (fun i hi e => by
                rcases e with e | e
                · exact .inl e
                · rcases (HO3.out i e).1 with e | e
                  · exact .inr e
                  · omega))
              have HO4 : Hid (∀ b, (Value.slice la4 ((L.take k ++ L.drop (k + 1)).take j ++ (L.take k ++ L.drop (k + 1)).drop (j + 1)).length lc4).ownBlock = some b → ((Value.slice (some ⟨g, 0, none⟩) L.length lc).ownBlock = some b ∨ w.heap.size ≤ b) ∧ b ≠ xb) := Lib.hid (fun b hb => by
                have h1 := HC3.out.size
                have h2 := block_lt HB3.out
                rcases O4 b hb with e | e
                · exact HO3.out b e
                · exact ⟨.inr (by omega), by omega⟩)
              have HB4 : Hid (w4.heap[xb]? = some (.cells #[.string other, .slice x.a x.n x.c, .int .i64 (x.la : Int), .bool x.sy] 91 (0, 0))) := Lib.hid ((C4.block xb (block_lt HB3.out) (by
                have := HXB.out
                rintro (e | e)
                · have := block_lt H.out.blk; omega
                · exact (HO3.out _ e).2 rfl)).trans HB3.out)
              obtain ⟨L4, hL4⟩ : ∃ L4, L4 = (L.take k ++ L.drop (k + 1)).take j ++ (L.take k ++ L.drop (k + 1)).drop (j + 1) := ⟨_, rfl⟩
              rw [← hL4] at HR4 HP4 HO4
              clear R4 C4 O4 hL4 HR3 HC3 HO3 HB3
            all_goals
              have hl4 : L4.length ≤ 512 := Nat.le_trans HP4.out.len hlen
              have q0 : w4.cell? ⟨xb, 0, none⟩ = some (.string other) := by have := cell_of_block HB4.out 0; simpa using this
              have q1 : w4.cell? ⟨xb, 1, none⟩ = some (.slice x.a x.n x.c) := by have := cell_of_block HB4.out 1; simpa using this
              have q2 : w4.cell? ⟨xb, 2, none⟩ = some (.int .i64 (x.la : Int)) := by have := cell_of_block HB4.out 2; simpa using this
              have q3 : w4.cell? ⟨xb, 3, none⟩ = some (.bool x.sy) := by have := cell_of_block HB4.out 3; simpa using this
              have HFX : Hid (FOk w4 (RkT rd (.slice la4 L4.length lc4)) ⟨other, x.a, x.n, x.c, x.bs, x.la, x.sy⟩) := Lib.hid ⟨(H.out.ok x HMEM.out).src.chg HC4.out (fun b hb => ((H.out.ok x HMEM.out).own b hb).1), fun b hb => by
                have h1 := (H.out.ok x HMEM.out).own b hb
                refine ⟨?_, Nat.lt_of_lt_of_le h1.2 HC4.out.size⟩
                rintro (e | e)
                · exact h1.1 (.inl e)
                · rcases (HO4.out b e).1 with e | e
                  · exact h1.1 (.inr e)
                  · omega, (H.out.ok x HMEM.out).cap⟩
              go_wp2_with fail
              refine (rk_put HR4.out (by omega) ⟨other, x.a, x.n, x.c, x.bs, x.la, x.sy⟩ HFX.out).mono ?_
              clear q0 q1 q2 q3
              rintro e w5 ⟨rfl, L', hPF, hTO⟩
              have HPF := Lib.hid hPF
              obtain ⟨la5, lc5, R5, C5, O5⟩ := RkTo.after HC4.out (fun b hb => (HO4.out b hb).1) hTO
              have HR5 := Lib.hid R5
              have HC5 := Lib.hid C5
              have HO5 := Lib.hid O5
              clear hPF hTO R5 C5 O5
              go_wp2_with fail
              refine (rk_done HR5.out o0 hops l0 l1).mono ?_
              rintro e w6 ⟨rfl, R6, C6⟩
              have HR6 := Lib.hid R6
              have HC6 := Lib.hid C6
              clear R6 C6
              go_wp2_with fail
              go_ret
              rw [HL0.out]
              have hsy : (⟨F, room, (sumR L : Nat), left, ops⟩ : DiskS).renamed x.nm other = ⟨aput (adel (adel F x.nm) other) other x.fs, room, u2, left, ops⟩ := by
                unfold DiskS.renamed
                rw [if_neg HNO.out]
                simp only [HGET.out, HDR.out]
                rw [adel_comm F x.nm other]
              rw [hsy]
              refine ⟨rfl, ?_⟩
              obtain ⟨s1, s2, s3, s4⟩ := HPF.out.sortF HP4.out.sort (aget_adel_same HN3.out other)
              refine RkTo.end' (L' := L') H.out ⟨la5, lc5, HR6.out, HC5.out.trans HC6.out (fun _ _ e => .inl e), HO5.out⟩ s1 ?_ (fun f hf b hb => ?_)
              · show u2 = _
                have := HP4.out.sum
                rw [s2]; simp only [Int.natCast_add]; omega
              · rcases s4 f hf with hf | rfl
                · exact .inl ⟨f, HP4.out.mem f hf, hb⟩
                · exact .inl ⟨x, HMEM.out, hb⟩
end Go.Proofs.YtgdgjnecgelalaaGreatDoor
