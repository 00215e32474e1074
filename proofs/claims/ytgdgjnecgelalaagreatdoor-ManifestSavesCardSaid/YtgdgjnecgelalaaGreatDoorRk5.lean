/- The document's disk: Append. -/
import Derived.Test.YtgdgjnecgelalaaGreatDoorRk4
namespace Go.Proofs.YtgdgjnecgelalaaGreatDoor
open Go.RowKit Go.Sort Go.Lib

section
variable {S : DiskS} {name : ByteArray} {bs : List UInt8}
theorem app_bad (h : nameB name = false) : S.append name bs = (2, S) := by simp [DiskS.append, DiskS.doing, doStops, h]
theorem app_cut (h : nameB name = true) (hl : S.left = 0) : S.append name bs = (17, S) := by simp [DiskS.append, DiskS.doing, doStops, h, hl]
theorem app_full (h : nameB name = true) (hl : ¬ S.left = 0) (hf : S.room - S.used < (bs.length : Int)) : S.append name bs = (15, S) := by simp [DiskS.append, DiskS.doing, doStops, DiskS.put, h, hl, hf]
theorem app_many (h : nameB name = true) (hl : ¬ S.left = 0) (hf : ¬ S.room - S.used < (bs.length : Int)) (hx : aget S.files name = none) (hm : 512 ≤ S.files.length ∨ 1048576 < bs.length) : S.append name bs = (3, S) := by
  simp [DiskS.append, DiskS.doing, doStops, DiskS.put, h, hl, hf, hx, hm]
theorem app_new (h : nameB name = true) (hl : ¬ S.left = 0) (hf : ¬ S.room - S.used < (bs.length : Int)) (hx : aget S.files name = none) (hm : ¬ (512 ≤ S.files.length ∨ 1048576 < bs.length)) :
    S.append name bs = (0, ({ S with files := aput S.files name ⟨bs, 0, false⟩, used := S.used + bs.length } : DiskS).count) := by
  simp only [DiskS.append, DiskS.doing, doStops, DiskS.put, List.all_cons, h, hl, hf, hx, hm, List.all_nil, Bool.and_true, if_false, Bool.true_eq_false, if_true]
theorem app_big {f : FileS} (h : nameB name = true) (hl : ¬ S.left = 0) (hf : ¬ S.room - S.used < (bs.length : Int)) (hx : aget S.files name = some f) (hm : 1048576 < bs.length + f.bytes.length) : S.append name bs = (3, S) := by
  simp [DiskS.append, DiskS.doing, doStops, DiskS.put, h, hl, hf, hx, hm]
theorem app_old {f : FileS} (h : nameB name = true) (hl : ¬ S.left = 0) (hf : ¬ S.room - S.used < (bs.length : Int)) (hx : aget S.files name = some f) (hm : ¬ 1048576 < bs.length + f.bytes.length) :
    S.append name bs = (0, ({ S with files := aput S.files name { f with bytes := f.bytes ++ bs }, used := S.used + bs.length } : DiskS).count) := by
  simp only [DiskS.append, DiskS.doing, doStops, DiskS.put, List.all_cons, h, hl, hf, hx, hm, List.all_nil, Bool.and_true, if_false, Bool.true_eq_false, if_true]
end

theorem rk_used' {w : World} {rd : Nat} {room left ops : Int} {L : List RF} {la : Option Addr} {lc : Nat} (h : RkRaw w rd room left ops L la lc) (hs : sumR L ≤ 1073741824) (hL : L.length ≤ 1000000) {u : Nat} (hu : u = sumR L) :
    ∀ w', Ext w w' → Calls Tryz.prog 15 #[.pointer (some ⟨rd, 0, none⟩)] w' fun e w2 => e = .returned (.int .i64 (u : Nat)) ∧ w2 = w' := fun w' hx =>
  (rk_used (h.ext hx) hs hL).mono (by rintro e w2 ⟨rfl, rfl⟩; exact ⟨by rw [hu], rfl⟩)
theorem RkRaw.head0 {w : World} {rd : Nat} {room left ops : Int} {L : List RF} {la : Option Addr} {lc : Nat} (h : RkRaw w rd room left ops L la lc) : w.cell? ⟨rd, 0, none⟩ = some (.int .i64 room) ∧ w.cell? ⟨rd, 1, none⟩ = some (.int .i64 left) ∧ w.cell? ⟨rd, 2, none⟩ = some (.int .i64 ops) :=
  ⟨by have := cell_of_block h.blk 0; simpa using this, by have := cell_of_block h.blk 1; simpa using this, by have := cell_of_block h.blk 2; simpa using this⟩
theorem rfiles_sum {L : List RF} {x : RF} (h : x ∈ L) : x.bs.length ≤ sumR L := by
  unfold sumR
  induction L with
  | nil => cases h
  | cons y L ih =>
    rcases List.mem_cons.1 h with rfl | h
    · simp
    · have := ih h; simp; omega

set_option maxHeartbeats 16000000 in
set_option maxRecDepth 100000 in
theorem rk_append {w : World} {rd : Nat} {S : DiskS} {B : List Nat} (ok : S.Ok) (hops : S.ops < 4611686018427387904) (h : RkAt w rd S B) (name : ByteArray) (hname : name.size ≤ maxLen) (a : Option Addr) (n c : Nat) (bs : List UInt8) (hs : Src w 1 (.slice a n c) n (u8s bs)) (hn : n ≤ 1000000000000) :
    Calls Tryz.prog 36 #[.pointer (some ⟨rd, 0, none⟩), .string name, .slice a n c] w (RkCall w rd B (S.append name bs)) := by
  obtain ⟨F, room, used, left, ops⟩ := S
  obtain ⟨L, la, lc, h1, h2, h3, rfl⟩ := h
  simp only at h1 h2 h3 hops
  subst h3
  have r0 : 0 ≤ room := ok.room0
  have r1 : room ≤ 1073741824 := ok.room1
  have u1 : (sumR L : Int) ≤ room := ok.used1
  have l0 : -1 ≤ left := ok.left0
  have l1 : left ≤ 9223372036854775807 := ok.left1
  have o0 : 0 ≤ ops := ok.ops0
  have hlenF : L.length = F.length := by have := h2.len; rwa [rdata_len] at this
  have hlen : L.length ≤ 512 := by have : F.length ≤ 512 := ok.few; omega
  have hbs := u8s_src_len hs
  have HSM : Hid (∀ x ∈ L, x.bs.length ≤ 1048576) := Lib.hid (fun x hx => by
    have hm : (x.nm, x.fs) ∈ F := h2.perm.subset (List.mem_map.2 ⟨x, hx, rfl⟩)
    exact ok.small _ hm)
  obtain ⟨r, hr⟩ : ∃ r, r = (⟨F, room, (sumR L : Nat), left, ops⟩ : DiskS).append name bs := ⟨_, rfl⟩
  rw [← hr]
  obtain ⟨u, hu⟩ : ∃ u, u = sumR L := ⟨_, rfl⟩
  have hu1 : (u : Int) ≤ room := by rw [hu]; exact u1
  rw [← hu] at hr
  have HR := Lib.hid hr
  have HU := Lib.hid hu
  have H := Lib.hid h1
  have HF := Lib.hid h2
  have HS := Lib.hid hs
  have HBS := Lib.hid hbs
  have HLF := Lib.hid hlenF
  clear hr hu h1 h2 hs ok hbs u1 hlenF
  go_enter Tryz.func36, Tryz.ntmps36
  go_wp2_with fail
  refine (rk_right name hname _).mono ?_
  rintro e w' ⟨rfl, rfl⟩
  obtain ⟨nb, hnb⟩ : ∃ nb, nb = nameB name := ⟨_, rfl⟩
  rw [← hnb]
  have HNB := Lib.hid hnb
  clear hnb
  have HAT : Hid (∀ w', Ext w w' → RkEnd w rd (rfoot rd (.slice la L.length lc) L) ⟨F, room, (u : Nat), left, ops⟩ w') := Lib.hid (fun w' hx => by
    rw [HU.out]
    exact RkEnd.same ⟨L, la, lc, H.out, HF.out, rfl, rfl⟩ hx)
  cases nb
  · go_wp2_with fail
    go_ret
    rw [HR.out, app_bad HNB.out.symm]
    exact ⟨rfl, HAT.out _ (Ext.refl _)⟩
  · have c1 := H.out.head0.2.1
    by_cases hl : left = 0
    · have hl' := hl
      subst hl'
      have HL0 : Hid (r = (17, _)) := Lib.hid (HR.out.trans (app_cut HNB.out.symm rfl))
      clear hl
      go_wp2_with fail
      go_ret
      rw [HL0.out]
      exact ⟨rfl, HAT.out _ (Ext.refl _)⟩
    · go_wp2_with fail
      have c0 := H.out.head0.1
      have hw1 : IntKind.i64.wrap (room - (u : Int)) = room - (u : Int) := IntWalk.i64_in _ (by omega)
      have HQ := Lib.hid (rk_used' H.out (by have := HU.out; omega) (by omega) HU.out)
      go_big_quiet ((go_at_call 15; exact Calls.quiet_of_same (HQ.out _ (by first | exact Ext.refl _ | exact Ext.drewN _ _ | exact (Ext.refl _).drew))))
      clear c0 c1 hw1 HQ
      generalize hW : World.drewN w _ = W
      have HX : Hid (Ext w W) := Lib.hid (by rw [← hW]; exact Ext.drewN _ _)
      clear hW
      by_cases hroom : room - (u : Int) < (n : Int)
      · have HL0 : Hid (r = (15, _)) := Lib.hid (HR.out.trans (app_full HNB.out.symm hl (by rw [HBS.out]; exact hroom)))
        go_wp2_with fail
        go_ret
        rw [HL0.out]
        exact ⟨rfl, HAT.out _ HX.out⟩
      · have HROOM : Hid (¬ room - (u : Int) < (bs.length : Int)) := Lib.hid (by rw [HBS.out]; exact hroom)
        have HLL := Lib.hid hl
        clear hl
        go_wp2_with fail
        clear hroom
        have HD := Lib.hid (H.out.ext HX.out)
        refine (rk_find HD.out (by omega) name).mono ?_
        rintro e w' ⟨kk, rfl, hf, rfl⟩
        have c3 := HD.out.lcell.1
        have hz3 := HD.out.lcell.2
        rcases hf with ⟨rfl, hno⟩ | ⟨k, x, rfl, hq, hqn⟩
        · have HNO : Hid (aget F name = none) := Lib.hid (HF.out.none (fun p hp => by
            obtain ⟨f, hf, rfl⟩ := List.mem_map.1 hp
            exact hno f hf))
          clear hno
          by_cases h5 : 512 ≤ L.length
          · have HL0 : Hid (r = (3, _)) := Lib.hid (HR.out.trans (app_many HNB.out.symm HLL.out (Int.not_lt.2 HROOM.out) HNO.out (.inl (by have := HLF.out; show 512 ≤ F.length; omega))))
            go_wp2_with fail
            go_ret
            rw [HL0.out]
            exact ⟨rfl, HAT.out _ HX.out⟩
          · by_cases h6 : 1048576 < n
            · have HL0 : Hid (r = (3, _)) := Lib.hid (HR.out.trans (app_many HNB.out.symm HLL.out (Int.not_lt.2 HROOM.out) HNO.out (.inr (by have := HBS.out; omega))))
              go_wp2_with fail
              go_ret
              rw [HL0.out]
              exact ⟨rfl, HAT.out _ HX.out⟩
            · have HL0 := Lib.hid (HR.out.trans (app_new HNB.out.symm HLL.out (Int.not_lt.2 HROOM.out) HNO.out (by have := HBS.out; have := HLF.out; rintro (e | e); simp only at e; omega; omega)))
              go_wp2_with (at_builtin; go_must (refine wpList_append_to (n := 0) (m := n) byt_elem rfl _ _ rfl (v := .slice _ _ _) rfl rfl (row_made (heap_alloc_new _ _) 1) ((HS.out.ext HX.out).ext ((Ext.refl _).alloc _)) (by unfold maxLen; omega) (by omega) ?_; intro v2 w3 happ); simp only [Nat.zero_add, List.nil_append] at happ ⊢; obtain ⟨va2, vc2, rfl⟩ := happ.row.shape; have HAP := Lib.hid happ; clear happ)
              have HX3 : Hid (Ext w w3) := Lib.hid (((Chg.of_ext (S := fun _ => False) (HX.out.alloc _)).trans HAP.out.chg (fun i hi e => by
                have e2 : W.heap.size = i := Option.some.inj e
                have := HX.out.size
                omega)).ext (fun _ _ => id))
              have HO3 : Hid (∀ g, (Value.slice va2 n vc2).ownBlock = some g → w.heap.size ≤ g ∧ g < w3.heap.size) := Lib.hid (fun g hg => by
                have h1 := HX.out.size
                refine ⟨?_, HAP.out.row.lt hg⟩
                rcases HAP.out.loc with e | e
                · rw [e] at hg; have e2 : W.heap.size = g := Option.some.inj hg; omega
                · rw [e] at hg; simp at hg; omega)
              have HFX : Hid (FOk w3 (RkT rd (.slice la L.length lc)) ⟨name, va2, n, vc2, bs, 0, false⟩) := Lib.hid ⟨HAP.out.row.src (u8s_one _), fun g hg => ⟨by
                have h1 := (HO3.out g hg).1
                rintro (e | e)
                · have := block_lt H.out.blk; omega
                · have := H.out.row.lt e; omega, (HO3.out g hg).2⟩, row_cap HAP.out.row⟩
              have hput : Calls Tryz.prog 62 #[.pointer (some ⟨rd, 0, none⟩), .agg #[.string name, .slice va2 n vc2, .int .i64 0, .bool false]] w3 _ := rk_put (H.out.ext HX3.out) (by omega) ⟨name, va2, n, vc2, bs, 0, false⟩ HFX.out
              refine hput.mono ?_
              clear hput
              rintro e w4 ⟨rfl, L', hPF, hTO⟩
              have HPF := Lib.hid hPF
              obtain ⟨la', lc', R4, C4, O4⟩ := hTO.pre HX3.out
              have HR4 := Lib.hid R4
              have HC4 := Lib.hid C4
              have HO4 := Lib.hid O4
              clear hPF hTO R4 C4 O4 c3 hz3
              go_wp2_with fail
              refine (rk_done HR4.out o0 hops l0 l1).mono ?_
              rintro e w5 ⟨rfl, R5, C5⟩
              have HR5 := Lib.hid R5
              have HC5 := Lib.hid C5
              clear R5 C5
              go_wp2_with fail
              go_ret
              rw [HL0.out]
              refine ⟨rfl, ?_⟩
              obtain ⟨s1, s2, s3, s4⟩ := HPF.out.sortF HF.out HNO.out
              refine RkTo.end' (L' := L') H.out ⟨la', lc', HR5.out, HC4.out.trans HC5.out (fun _ _ e => .inl e), HO4.out⟩ s1 ?_ (fun f hf g hg => ?_)
              · show ((u : Nat) : Int) + (bs.length : Nat) = _
                rw [s2, HU.out]; simp
              · rcases s4 f hf with hf | rfl
                · exact .inl ⟨f, hf, hg⟩
                · exact .inr (HO3.out g hg).1
        · subst hqn
          have hkl : k < L.length := (List.getElem?_eq_some_iff.1 hq).1
          obtain ⟨g, rfl⟩ : ∃ g, la = some ⟨g, 0, none⟩ := by
            obtain ⟨g, _, e, _⟩ := file_cells HD.out.row hkl
            exact ⟨g, e⟩
          have cx1 := (HD.out.cells hq).2.1
          have hmem : x ∈ L := List.mem_of_getElem? hq
          have HGET : Hid (aget F x.nm = some x.fs) := Lib.hid (HF.out.at (rdata_at hq))
          have hxn : x.bs.length = x.n := u8s_src_len (HD.out.ok x hmem).src
          have hxs : x.n ≤ 1048576 := by have := HSM.out x hmem; omega
          have HXN := Lib.hid hxn
          have HQX := Lib.hid hq
          have HMEM := Lib.hid hmem
          have hr0 : ¬ (k : Int) < 0 := by omega
          have hr1 : (0 : Int) ≤ (k : Int) := by omega
          clear hxn hq hmem
          by_cases h5 : (1048576 : Int) - (x.n : Int) < (n : Int)
          · have HL0 : Hid (r = (3, _)) := Lib.hid (HR.out.trans (app_big HNB.out.symm HLL.out (Int.not_lt.2 HROOM.out) HGET.out (by have := HBS.out; have := HXN.out; simp only [RF.fs]; omega)))
            go_wp2_with fail
            go_ret
            rw [HL0.out]
            exact ⟨rfl, HAT.out _ HX.out⟩
          · have HL0 := Lib.hid (HR.out.trans (app_old HNB.out.symm HLL.out (Int.not_lt.2 HROOM.out) HGET.out (by have := HBS.out; have := HXN.out; simp only [RF.fs]; omega)))
            have h6 : ¬ 1048576 < n := by omega
            have hz5 : ¬ (1048576 : Int) < (n : Int) := by omega
            go_wp2_with fail
            have hnx : x.n + n ≤ 1048576 := by omega
            have f0 := cell_turned (T := fun _ => false) c3 rfl
            have f1 := cell_turned (T := fun _ => false) cx1 rfl
            clear c3 hz3 cx1 hr0 hr1 h5 h6 hz5
            refine wp_region_plan 19 (fun w' => ∃ p : Turned, w' = turned W (fun _ => false) p.d p.f p.os) (.reads [0, 1, 2, 3, 4, 6, 7, 8, 9, 10, 11, 12, 13, 15] (.one 5 (.one 14 (.one 16 (.reads [17, 18] (.one 19 .done)))))) (by kernel_rfl) (by kernel_rfl) (fun _ _ dd _ _ hh => by cases dd <;> exact hh) ?_ ?_
            · exact turned_of_ext (Ext.drewN W 1)
            refine wpPlan_reads ?_
            simp only [pickOps, List.getElem?_cons_succ, List.getElem?_cons_zero]
            repeat (go_big_quiet_step (fail))
            refine wpQuiet_nil ?_
            clear f0 f1
            refine wpPlan_one ?_
            simp only [pickOps, List.getElem?_cons_succ, List.getElem?_cons_zero]
            go_wp2_with fail
            refine thenX_mk (turned_of_ext (((Ext.refl W).alloc _).drew)) (wpPlan_one ?_)
            generalize hW2 : World.drew (World.alloc _ _) = W2
            have HX2 : Hid (Ext W W2) := Lib.hid (by subst hW2; exact ((Ext.refl W).alloc _).drew)
            have HB2 : Hid (W2.heap[W.heap.size]? = some (.cells #[] 5 (0, 0))) := Lib.hid (by subst hW2; exact heap_alloc_new W _)
            clear hW2
            simp only [pickOps, List.getElem?_cons_succ, List.getElem?_cons_zero]
            refine wpList_append_to (n := 0) (m := x.n) byt_elem rfl (.tmp 77) (.tmp 85) rfl rfl rfl (row_made HB2.out 1) (((HD.out.ok x HMEM.out).src.ext HX2.out)) (by unfold maxLen; omega) (by omega) ?_
            intro v3 w3 happ
            simp only [Nat.zero_add, List.nil_append] at happ ⊢
            obtain ⟨va3, vc3, rfl⟩ := happ.row.shape
            have HR3 := Lib.hid happ.row
            have HX3 : Hid (Ext W w3) := Lib.hid (((Chg.of_ext HX2.out).trans happ.chg (fun _ _ e => e)).ext (fun i hi e => by
              have e2 : W.heap.size = i := Option.some.inj e
              omega))
            have HO3 : Hid (∀ g, (Value.slice va3 x.n vc3).ownBlock = some g → W.heap.size ≤ g) := Lib.hid (fun g hg => by
              have h1 := HX2.out.size
              rcases happ.loc with e | e
              · rw [e] at hg; have e2 : W.heap.size = g := Option.some.inj hg; omega
              · rw [e] at hg; simp at hg; omega)
            clear happ
            go_wp2_with fail
            refine thenX_mk (turned_of_ext HX3.out) (wpPlan_one ?_)
            simp only [pickOps, List.getElem?_cons_succ, List.getElem?_cons_zero]
            refine wpList_append_to (n := x.n) (m := n) byt_elem rfl (.tmp 86) (.tmp 87) rfl rfl rfl HR3.out ((HS.out.ext HX.out).ext HX3.out) (by unfold maxLen; omega) (by omega) ?_
            intro v4 w4 happ
            obtain ⟨va4, vc4, rfl⟩ := happ.row.shape
            have HR4 := Lib.hid happ.row
            have HX4 : Hid (Ext W w4) := Lib.hid (((Chg.of_ext HX3.out).trans happ.chg (fun _ _ e => e)).ext (fun i hi e => by have := HO3.out _ e; omega))
            have HO4 : Hid (∀ g, (Value.slice va4 (x.n + n) vc4).ownBlock = some g → W.heap.size ≤ g) := Lib.hid (fun g hg => by
              have h1 := HX3.out.size
              rcases happ.loc with e | e
              · rw [e] at hg; exact HO3.out _ hg
              · rw [e] at hg; simp at hg; omega)
            clear happ
            go_wp2_with fail
            refine thenX_mk (turned_of_ext HX4.out) (wpPlan_reads ?_)
            simp only [pickOps, List.getElem?_cons_succ, List.getElem?_cons_zero]
            repeat (go_big_quiet_step (fail))
            refine wpQuiet_nil ?_
            refine wpPlan_one ?_
            have HD4 := Lib.hid (HD.out.ext HX4.out)
            obtain ⟨_, g0, _, _⟩ := HD4.out.cells HQX.out
            have g1 := HD4.out.free (k * 4 + 1)
            simp only [pickOps, List.getElem?_cons_succ, List.getElem?_cons_zero]
            go_wp2_with fail
            refine thenX_last (wpPlan_done ?_)
            have HFX : Hid (FOk w4 (RkT rd (.slice (some ⟨g, 0, none⟩) L.length lc)) ⟨x.nm, va4, x.n + n, vc4, x.bs ++ bs, x.la, x.sy⟩) := Lib.hid ⟨by have := HR4.out.src (fun u hu => by rw [← u8s_append] at hu; exact u8s_one _ u hu); rw [← u8s_append] at this; exact this, fun b hb => ⟨by
              have h1 := HO4.out b hb
              rintro (e | e)
              · have := block_lt HD.out.blk; omega
              · have := HD.out.row.lt e; omega, HR4.out.lt hb⟩, row_cap HR4.out⟩
            have hup := HD4.out.upd k _ (setCell_chg _ g (k * 4 + 1) (.slice va4 (x.n + n) vc4)) (row_setB HD4.out.row HQX.out va4 (x.n + n) vc4 (x.bs ++ bs)) HFX.out
            clear g0 g1
            generalize World.setCell _ _ _ = W5 at hup ⊢
            obtain ⟨la', lc', R4, C4, O4⟩ := hup.pre (HX.out.trans HX4.out)
            have HR5 := Lib.hid R4
            have HC5 := Lib.hid C4
            have HO5 := Lib.hid O4
            clear hup R4 C4 O4
            go_wp2_with fail
            refine (rk_done HR5.out o0 hops l0 l1).mono ?_
            rintro e w6 ⟨rfl, R6, C6⟩
            have HR6 := Lib.hid R6
            have HC6 := Lib.hid C6
            clear R6 C6
            go_wp2_with fail
            go_ret
            rw [HL0.out]
            refine ⟨rfl, ?_⟩
            refine RkTo.end' (L' := L.set k ⟨x.nm, va4, x.n + n, vc4, x.bs ++ bs, x.la, x.sy⟩) H.out ⟨la', lc', HR6.out, HC5.out.trans HC6.out (fun _ _ e => .inl e), HO5.out⟩ ?_ ?_ (fun f hf b hb => ?_)
            · rw [rdata_set]
              exact HF.out.set (s := x.nm) (f0 := x.fs) (rdata_at HQX.out)
            · show ((u : Nat) : Int) + (bs.length : Nat) = _
              have := sumR_set HQX.out ⟨x.nm, va4, x.n + n, vc4, x.bs ++ bs, x.la, x.sy⟩
              simp only [List.length_append] at this
              rw [HU.out]; omega
            · rcases List.mem_or_eq_of_mem_set hf with hf | rfl
              · exact .inl ⟨f, hf, hb⟩
              · exact .inr (Nat.le_trans HX.out.size (HO4.out b hb))
end Go.Proofs.YtgdgjnecgelalaaGreatDoor
