/- The document's disk: Crash. -/
import Derived.Test.YtcmolfhjkkfedaaRk8
import Derived.Test.YtcmolfhjkkfedaaZin
import Derived.Test.YtcmolfhjkkfedaaDiskC
namespace Go.Proofs.Ytcmolfhjkkfedaa
open Go.RowKit Go.Sort Go.Lib

/-- The disk that is found, of the first files. -/
structure RkCr (w : World) (dn : Nat) (S : DiskS) (keep : List Int) (k : Nat) (O : List RF) (oa : Option Addr) (oc : Nat) (wr : World) : Prop where
  raw : RkRaw wr dn S.room (-1) 0 O oa oc
  data : rdata O = crashTo S keep k
  dn : w.heap.size ≤ dn
  own : ∀ g, (Value.slice oa O.length oc).ownBlock = some g → w.heap.size ≤ g
  files : ∀ f ∈ O, ∀ g, f.v.ownBlock = some g → w.heap.size ≤ g
  ext : Ext w wr

theorem rk_u8 : ∀ W, (sizeOf 5).run Try.prog W = .ok 1 W := fun _ => by kernel_rfl
theorem keepN_no {keep : List Int} {i : Nat} {f : FileS} (h : ∀ z, keep[i]? = some z → ¬ 0 < z) : keepN keep i f = f.lasts := by
  unfold keepN
  have : keep.getD i 0 ≤ 0 := by
    rw [List.getD_eq_getElem?_getD]
    cases hz : keep[i]? with
    | none => simp
    | some z => have := h z hz; simp; omega
  omega
theorem keepN_min {keep : List Int} {i : Nat} {f : FileS} {z : Int} (h : keep[i]? = some z) (hz : 0 < z) (hl : f.lasts ≤ f.bytes.length) : (keepN keep i f : Int) = f.lasts + min z ((f.bytes.length : Int) - f.lasts) := by
  unfold keepN
  rw [List.getD_eq_getElem?_getD, h]
  simp only [Option.getD_some]
  omega
/-- How many bytes are found: the ways. -/
def KWays (W : World) (a : Option Addr) (n k : Nat) (xn xl N : Nat) : Prop :=
  (∃ b6 o6 z, a = some ⟨b6, o6, none⟩ ∧ k < n ∧ W.cell? ⟨b6, o6 + k, none⟩ = some (.int .i64 z) ∧ 0 < z ∧ z < (xn : Int) - (xl : Int) ∧ (xl : Int) + z = (N : Int)) ∨
  (∃ b6 o6 z, a = some ⟨b6, o6, none⟩ ∧ k < n ∧ W.cell? ⟨b6, o6 + k, none⟩ = some (.int .i64 z) ∧ 0 < z ∧ ¬ z < (xn : Int) - (xl : Int) ∧ (xl : Int) + ((xn : Int) - (xl : Int)) = (N : Int)) ∨
  (∃ b6 o6 z, a = some ⟨b6, o6, none⟩ ∧ k < n ∧ W.cell? ⟨b6, o6 + k, none⟩ = some (.int .i64 z) ∧ ¬ 0 < z ∧ N = xl) ∨ (¬ k < n ∧ N = xl)
theorem kways {W : World} {a : Option Addr} {n c k : Nat} {keep : List Int} {f : FileS} (hk : Src W 1 (.slice a n c) n (zints keep)) (hl : f.lasts ≤ f.bytes.length) : KWays W a n k f.bytes.length f.lasts (keepN keep k f) := by
  by_cases hkn : k < n
  · obtain ⟨b6, o6, z, rfl, hz, c6⟩ := zints_src hk hkn
    by_cases hzp : 0 < z
    · have hNe := keepN_min (f := f) hz hzp hl
      by_cases hlt : z < (f.bytes.length : Int) - (f.lasts : Int)
      · exact .inl ⟨b6, o6, z, rfl, hkn, c6, hzp, hlt, by omega⟩
      · exact .inr (.inl ⟨b6, o6, z, rfl, hkn, c6, hzp, hlt, by omega⟩)
    · exact .inr (.inr (.inl ⟨b6, o6, z, rfl, hkn, c6, hzp, keepN_no (fun z' hz' => by rw [hz] at hz'; cases hz'; exact hzp)⟩))
  · refine .inr (.inr (.inr ⟨hkn, keepN_no (fun z' hz' => ?_)⟩))
    have := (List.getElem?_eq_some_iff.1 hz').1
    have := zints_src_len hk
    omega
theorem RkCr.end' {w : World} {dn : Nat} {S : DiskS} {keep : List Int} {L : List RF} {O : List RF} {oa : Option Addr} {oc : Nat} {wr : World} (h : RkCr w dn S keep L.length O oa oc wr) (ok : S.Ok) (hF : SortF (rdata L) S.files) :
    ∃ B', RkAt wr dn (S.crash keep) B' ∧ Ext w wr ∧ ∀ b ∈ B', w.heap.size ≤ b := by
  have hlen : (S.list ⟨#[]⟩).length = L.length := by rw [← hF.listAll]; simp [rdata]
  have hd : rdata O = crashTo S keep (S.list ⟨#[]⟩).length := by rw [hlen]; exact h.data
  refine ⟨_, ⟨O, oa, oc, h.raw, ?_, ?_, rfl⟩, h.ext, fun b hb => ?_⟩
  · show SortF (rdata O) (crashTo S keep (S.list ⟨#[]⟩).length)
    rw [hd]
    refine ⟨List.Perm.refl _, ?_⟩
    have hsub := crashTo_names S keep (S.list ⟨#[]⟩).length
    rw [List.take_length] at hsub
    have hs : (S.list ⟨#[]⟩).Pairwise fun a b => bl a < bl b := by rw [← hF.listAll]; exact hF.sort
    exact hs.sublist hsub
  · show (sumF (crashTo S keep (S.list ⟨#[]⟩).length) : Int) = _
    rw [← hd, sumR_data]
  · rcases rfoot_cases hb with rfl | hb | ⟨f, hf, hb⟩
    · exact h.dn
    · exact h.own b hb
    · exact h.files f hf b hb

set_option maxHeartbeats 16000000 in
set_option maxRecDepth 100000 in
theorem rk_crash {w : World} {rd : Nat} {S : DiskS} {B : List Nat} (ok : S.Ok) (h : RkAt w rd S B) (a : Option Addr) (n c : Nat) (keep : List Int) (hk : Src w 1 (.slice a n c) n (zints keep)) (hn : n ≤ 9223372036854775807) :
    Calls Try.prog 14 #[.pointer (some ⟨rd, 0, none⟩), .slice a n c] w fun e w' => ∃ dn B', e = .returned (.pointer (some ⟨dn, 0, none⟩)) ∧ RkAt w' dn (S.crash keep) B' ∧ Ext w w' ∧ ∀ b ∈ B', w.heap.size ≤ b := by
  obtain ⟨L, la, lc, h1, h2, h3, rfl⟩ := h
  have hlen : L.length ≤ 512 := by have := ok.few; have := h2.len; rw [rdata_len] at this; omega
  have HSM : Hid (∀ x ∈ L, x.bs.length ≤ 1048576 ∧ x.la ≤ x.bs.length) := Lib.hid (fun x hx => by
    have hm : (x.nm, x.fs) ∈ S.files := h2.perm.subset (List.mem_map.2 ⟨x, hx, rfl⟩)
    exact ⟨ok.small _ hm, ok.lasts _ hm⟩)
  have H := Lib.hid h1
  have HF := Lib.hid h2
  have HO := Lib.hid ok
  have HK := Lib.hid hk
  have HKL := Lib.hid (zints_src_len hk)
  clear h1 h2 h3 ok hk
  have c0 := H.out.head0.1
  go_enter Try.func14, Try.ntmps14
  go_wp2_with fail
  clear c0
  generalize hW : World.alloc _ _ = W0
  obtain ⟨dn, hdn⟩ : ∃ dn, dn = w.heap.size := ⟨_, rfl⟩
  have HI0 : Hid (RkCr w dn S keep 0 [] none 0 W0) := Lib.hid (by
    rw [hdn, ← hW]
    exact ⟨⟨heap_alloc_new w _, Row.nil _ _ _, by simp, fun g hg => by simp [Value.ownBlock] at hg⟩, rfl, Nat.le_refl _, fun g hg => by simp [Value.ownBlock] at hg, by simp, (Ext.refl _).alloc _⟩)
  rw [← hdn]
  clear hW hdn
  go_loopw [6, 7, 8, 9] (fun s6 s7 s8 s9 wr => ∃ (k : Nat) (O : List RF) (oa : Option Addr) (oc : Nat), k ≤ L.length ∧ s6 = .int .i64 k ∧ O.length ≤ k ∧ Hid (RkCr w dn S keep k O oa oc wr)) (fun s6 _ _ _ _ => L.length - (RowKit.intOf s6).toNat)
  case atStart => exact ⟨0, [], none, 0, by omega, rfl, by simp, HI0⟩
  case round =>
    clear HI0
    obtain ⟨k, O, oa, oc, hk, rfl, hOk, HI⟩ := hrel
    have HD := Lib.hid (H.out.ext HI.out.ext)
    have c3 := HD.out.lcell.1
    by_cases hkl : k < L.length
    · obtain ⟨x, hq⟩ : ∃ x, L[k]? = some x := ⟨_, List.getElem?_eq_getElem hkl⟩
      obtain ⟨g, rfl⟩ : ∃ g, la = some ⟨g, 0, none⟩ := by
        obtain ⟨g, _, e, _⟩ := file_cells HD.out.row hkl
        exact ⟨g, e⟩
      obtain ⟨cx0, cx1, cx2, cx3⟩ := HD.out.cells hq
      have hmem : x ∈ L := List.mem_of_getElem? hq
      have HMEM := Lib.hid hmem
      obtain ⟨hxs, hxl⟩ := HSM.out x hmem
      have hxn : x.bs.length = x.n := u8s_src_len (H.out.ok x hmem).src
      have HXN := Lib.hid hxn
      have HC : Hid (crashTo S keep (k + 1) = crashTo S keep k ++ found x.nm (keepF keep k x.fs)) := Lib.hid (by rw [crashTo, HF.out.crashStep keep (rdata_at hq)])
      rw [hxn] at hxs hxl
      clear hq hmem hxn
      go_upto_region 6 with fail
      generalize hW : World.alloc _ _ = W
      obtain ⟨xb, hxb⟩ : ∃ xb, xb = wr.heap.size := ⟨_, rfl⟩
      have HX : Hid (Ext wr W) := Lib.hid (by rw [← hW]; exact (Ext.refl _).alloc _)
      have HB : Hid (W.heap[xb]? = some (.cells #[.string x.nm, .slice x.a x.n x.c, .int .i64 (x.la : Int), .bool x.sy] 68 (0, 0))) := Lib.hid (by rw [← hW, hxb]; exact heap_alloc_new wr _)
      have HXB := Lib.hid hxb
      rw [← hxb]
      clear hW hxb c3 cx0 cx1 cx2 cx3
      have q0 : W.cell? ⟨xb, 0, none⟩ = some (.string x.nm) := by have := cell_of_block HB.out 0; simpa using this
      have q1 : W.cell? ⟨xb, 1, none⟩ = some (.slice x.a x.n x.c) := by have := cell_of_block HB.out 1; simpa using this
      have q2 : W.cell? ⟨xb, 2, none⟩ = some (.int .i64 (x.la : Int)) := by have := cell_of_block HB.out 2; simpa using this
      have q3 : W.cell? ⟨xb, 3, none⟩ = some (.bool x.sy) := by have := cell_of_block HB.out 3; simpa using this
      obtain ⟨N, hN⟩ : ∃ N, N = keepN keep k x.fs := ⟨_, rfl⟩
      have hNl : N ≤ x.n := by rw [hN]; have := keepN_le keep k (f := x.fs) (by simp only [RF.fs]; rw [HXN.out]; exact hxl); simp only [RF.fs] at this; rw [HXN.out] at this; exact this
      have HN := Lib.hid hN
      clear hN
      have hways : KWays W a n k x.n x.la N := by
        have := kways (W := W) (k := k) (f := x.fs) (HK.out.ext (HI.out.ext.trans HX.out)) (by simp only [RF.fs]; rw [HXN.out]; exact hxl)
        rw [← HN.out] at this
        simp only [RF.fs] at this
        rw [HXN.out] at this
        exact this
      have hxlN : x.la ≤ N := by rw [HN.out]; unfold keepN; exact Nat.le_add_right _ _
      obtain ⟨xl, hxl2⟩ : ∃ xl, xl = x.la := ⟨_, rfl⟩
      obtain ⟨sy, hsy⟩ : ∃ sy, sy = x.sy := ⟨_, rfl⟩
      rw [← hxl2] at hways hxl hxlN q2
      rw [← hsy] at q3
      have HXL := Lib.hid hxl2
      have HSY := Lib.hid hsy
      clear hxl2 hsy
      have hcase : (0 < N) ∨ (¬ 0 < N ∧ sy = true) ∨ (¬ 0 < N ∧ sy = false) := by
        by_cases h : 0 < N
        · exact .inl h
        · cases sy
          · exact .inr (.inr ⟨h, rfl⟩)
          · exact .inr (.inl ⟨h, rfl⟩)
      have HKF : Hid ((0 < N ∨ sy = true → keepF keep k x.fs = some ⟨x.bs.take N, N, true⟩) ∧ (¬ 0 < N ∧ sy = false → keepF keep k x.fs = none)) := Lib.hid ⟨fun h => by
          rw [HN.out]
          exact keepF_some (h.imp (fun h => by rw [← HN.out]; exact h) (fun h => by rw [← h, HSY.out]; rfl)), fun h => by
          unfold keepF
          rw [if_neg]
          rintro (h1 | h1)
          · rw [← HN.out] at h1; exact h.1 h1
          · have : sy = true := by rw [HSY.out]; exact h1
            rw [this] at h; cases h.2⟩
      obtain ⟨sy0, hsy0⟩ : ∃ sy0, sy0 = sy := ⟨_, rfl⟩
      rw [← hsy0] at HKF
      have HSY0 := Lib.hid hsy0
      clear hsy0 HSY
      go_upto_region 7 with fail
      rcases hcase with hg | ⟨hg, rfl⟩ | ⟨hg, rfl⟩
      case' inl => have hz1 : ((N : Int) == 0) = false := by simp; omega
      case' inr.inl => have hz1 : ((N : Int) == 0) = true := by simp; omega
      case' inr.inr => have hz1 : ((N : Int) == 0) = true := by simp; omega
      all_goals
        rcases hways with ⟨b6, o6, z, rfl, hkn, c6, hzp, hlt, hNz⟩ | ⟨b6, o6, z, rfl, hkn, c6, hzp, hlt, hNz⟩ | ⟨b6, o6, z, rfl, hkn, c6, hzp, hNz⟩ | ⟨hkn, hNz⟩
      all_goals
        first
          | (have hlt1 : z < (x.n : Int) - (xl : Int) := hlt
             have HNZ := Lib.hid hNz
             clear hNz hlt1
             go_upto_region 11 with fail
             have hNz := HNZ.out
             go_upto_region 12 with fail
             clear hNz
             go_wp2_with fail)
          | (have hlt1 : ¬ z < (x.n : Int) - (xl : Int) := hlt
             clear hlt1
             go_wp2_with fail)
          | (replace hNz := congrArg (Nat.cast (R := Int)) hNz.symm
             rw [hNz]
             go_wp2_with fail
             clear hNz)
      iterate 4
       · go_roundw
         case rel => exact ⟨k + 1, O, oa, oc, by omega, by go_num, by omega, Lib.hid ⟨HI.out.raw.ext HX.out, by rw [HC.out, HKF.out.2 ⟨hg, HSY0.out⟩, found, List.append_nil]; exact HI.out.data, HI.out.dn, HI.out.own, HI.out.files, HI.out.ext.trans HX.out⟩⟩
         case measure => simp [RowKit.intOf]; omega
      all_goals
        have hor : 0 < N ∨ sy0 = true := by first | exact .inl hg | exact .inr HSY0.out
        have HKS := Lib.hid (HKF.out.1 hor)
        have HDN := Lib.hid (HI.out.raw.ext HX.out)
        obtain ⟨T, hT, t1, _, _⟩ := T_row HDN.out (Ext.refl _)
        have t2 : T xb = false := by rw [hT]; simp; intro e; have := HI.out.raw.row.lt e; have := HXB.out; omega
        have HT := Lib.hid hT
        have HCAP := (H.out.ok x HMEM.out).cap
        have HSRC : Hid (Src W 1 (.slice (cutT 1 x.a x.c 0) N x.c) N (u8s (x.bs.take N))) := Lib.hid (by
          have := src_cutT (l := 0) (h := N) ((H.out.ok x HMEM.out).src.ext (HI.out.ext.trans HX.out)) (by omega) hNl HCAP (by decide)
          simp only [Nat.mul_one, Nat.sub_zero, List.drop_zero, Nat.zero_mul] at this
          rw [show u8s (x.bs.take N) = (u8s x.bs).take N by unfold u8s; rw [List.map_take]]
          exact this)
        have hs2 := run_cutAt_hi (P := Try.prog) Try.underlying30 rk_u8 x.a x.n x.c N (by omega)
        have f0 := cell_turned (T := T) HDN.out.lcell.1 t1
        have f1 := cell_turned (T := T) q0 t2
        have f2 := cell_turned (T := T) q1 t2
        clear hT q0 q1 q2 q3
        refine wp_region_plan 19 (fun w' => ∃ p : Turned, w' = turned W T p.d p.f p.os) (.reads [0, 1, 2, 3, 4, 5, 6, 8, 9, 10, 11, 13] (.one 7 (.one 12 (.reads [14] (.one 15 (.one 16 (.reads [17, 18] (.one 19 .done)))))))) (by kernel_rfl) (by kernel_rfl) (fun _ _ dd _ _ hh => by cases dd <;> exact hh) ?_ ?_
        · exact turned_of_ext (Ext.drewN W 1)
        refine wpPlan_reads ?_
        simp only [pickOps, List.getElem?_cons_succ, List.getElem?_cons_zero]
        iterate 10 (go_big_quiet_step (fail))
        refine wpQuiet_slice rfl 30 (.tmp 79) none (some (.tmp 80)) rfl _ _ _ _ hs2 rfl rfl rfl ?_
        simp only [Act.put, List.setIfInBounds_toArray, List.set_cons_succ, List.set_cons_zero]
        go_big_quiet_step (fail)
        refine wpQuiet_nil ?_
        clear f0 f1 f2 hs2
        generalize cutT 1 x.a x.c 0 = xa at *
        refine wpPlan_one ?_
        simp only [pickOps, List.getElem?_cons_succ, List.getElem?_cons_zero]
        go_wp2_with fail
        refine thenX_mk (turned_of_ext (((Ext.refl W).alloc _).drew)) (wpPlan_one ?_)
        simp only [pickOps, List.getElem?_cons_succ, List.getElem?_cons_zero]
        refine wpList_append_to (n := 0) (m := N) byt_elem rfl (.tmp 77) (.tmp 81) rfl rfl rfl (row_made (W := (W.alloc (.cells #[] 5 (0, 0))).drew) (heap_alloc_new W _) 1) (HSRC.out.ext (((Ext.refl W).alloc _).drew)) (by unfold maxLen; omega) (by omega) ?_
        intro v3 w3 happ
        simp only [Nat.zero_add, List.nil_append] at happ ⊢
        obtain ⟨a3, c3, rfl⟩ := happ.row.shape
        have HX3 : Hid (Ext W w3) := Lib.hid (((Chg.of_ext (S := fun _ => False) ((Ext.refl W).alloc (.cells #[] 5 (0, 0))).drew).trans happ.chg (fun i hi e => by
          have e2 : W.heap.size = i := Option.some.inj e
          omega)).ext (fun _ _ => id))
        have HO3 : Hid (∀ g, (Value.slice a3 N c3).ownBlock = some g → W.heap.size ≤ g) := Lib.hid (fun g hg => by
          rcases happ.loc with e | e
          · rw [e] at hg; have e2 : W.heap.size = g := Option.some.inj hg; omega
          · rw [e] at hg; simp at hg; omega)
        have HROW3 := Lib.hid happ.row
        clear happ
        go_wp2_with fail
        refine thenX_mk (turned_of_ext HX3.out) (wpPlan_reads ?_)
        simp only [pickOps, List.getElem?_cons_succ, List.getElem?_cons_zero, Act.put, List.setIfInBounds_toArray, List.set_cons_succ, List.set_cons_zero]
        repeat (go_big_quiet_step (fail))
        refine wpQuiet_nil ?_
        refine wpPlan_one ?_
        simp only [pickOps, List.getElem?_cons_succ, List.getElem?_cons_zero]
        go_wp2_with fail
        refine thenX_mk (turned_of_ext (HX3.out.alloc _)) (wpPlan_one ?_)
        simp only [pickOps, List.getElem?_cons_succ, List.getElem?_cons_zero]
        generalize hW5 : World.alloc w3 _ = W5
        have HX5 : Hid (Ext W W5) := Lib.hid (by rw [← hW5]; exact HX3.out.alloc _)
        have HB5 : Hid (W5.heap[w3.heap.size]? = some (.cells #[.string x.nm, .slice a3 N c3, .int .i64 (N : Int), .bool true] 68 (0, 0))) := Lib.hid (by rw [← hW5]; exact heap_alloc_new _ _)
        have HROW5 : Hid (Row W5 5 1 (.slice a3 N c3) N (u8s (x.bs.take N))) := Lib.hid (HROW3.out.ext (by rw [← hW5]; exact (Ext.refl _).alloc _))
        clear hW5 HROW3 HX3
        have HR5 := Lib.hid (HDN.out.ext HX5.out)
        have HFX : Hid (FOk W5 (RkT dn (.slice oa O.length oc)) ⟨x.nm, a3, N, c3, x.bs.take N, N, true⟩) := Lib.hid ⟨HROW5.out.src (u8s_one _), fun g hg => ⟨by
          have h1 := HO3.out g hg
          rintro (e | e)
          · have := block_lt HDN.out.blk; omega
          · have := HDN.out.row.lt e; omega, HROW5.out.lt hg⟩, row_cap HROW5.out⟩
        refine wpList_append_to (n := O.length) (m := 1) elem_file rfl (.tmp 74) (.tmp 85) rfl (v := .slice oa O.length oc) rfl rfl HR5.out.row (src_file (x := ⟨x.nm, a3, N, c3, x.bs.take N, N, true⟩) HB5.out) (by unfold maxLen; omega) (by omega) ?_
        intro v6 w6 happ
        obtain ⟨va6, vc6, rfl⟩ := happ.row.shape
        obtain ⟨P1, P2, P3⟩ := HR5.out.push HFX.out happ
        have HTT : Hid (∃ p : Turned, w6 = turned W T p.d p.f p.os) := Lib.hid (turned_of_chg ((Chg.of_ext HX5.out).trans happ.chg (fun i hi e => by rw [HT.out]; simpa using e)))
        have hb3 : w6.heap[dn]? = some (.cells #[.int .i64 S.room, .int .i64 (-1), .int .i64 0, .slice oa O.length oc] 43 (0, 0)) := (happ.chg.block dn (block_lt HR5.out.blk) (fun e => HDN.out.own dn e rfl)).trans HR5.out.blk
        have g0 : w6.cell? ⟨dn, 3, none⟩ = some (.slice oa O.length oc) := by have := cell_of_block hb3 3; simpa using this
        have g1 : w6.frozen? ⟨dn, 3, none⟩ = false := free_of_block hb3 3
        have HP1 := Lib.hid P1
        have HP2 := Lib.hid P2
        have HP3 := Lib.hid P3
        clear happ hb3 P1 P2 P3
        go_wp2_with fail
        refine thenX_mk HTT.out (wpPlan_reads ?_)
        simp only [pickOps, List.getElem?_cons_succ, List.getElem?_cons_zero]
        repeat (go_big_quiet_step (fail))
        refine wpQuiet_nil ?_
        refine wpPlan_one ?_
        simp only [pickOps, List.getElem?_cons_succ, List.getElem?_cons_zero]
        go_wp2_with fail
        refine thenX_last (wpPlan_done ?_)
        clear g0 g1 HTT
        go_wp2_with fail
        go_roundw
        case rel => exact ⟨k + 1, O ++ [⟨x.nm, a3, N, c3, x.bs.take N, N, true⟩], va6, vc6, by omega, by go_num, by simp; omega, Lib.hid ⟨by simpa using HP1.out, by
          have e : rdata (O ++ [⟨x.nm, a3, N, c3, x.bs.take N, N, true⟩]) = rdata O ++ [(x.nm, ⟨x.bs.take N, N, true⟩)] := by simp [rdata, RF.fs]
          rw [e, HC.out, HKS.out, HI.out.data]; rfl, HI.out.dn, fun g hg => by
            have hg2 : (Value.slice va6 (O.length + 1) vc6).ownBlock = some g := by rw [List.length_append] at hg; exact hg
            rcases HP3.out g hg2 with e | e
            · exact HI.out.own g e
            · have := HX5.out.size; have := (HI.out.ext.trans HX.out).size; omega, fun f hf g hg => by
            rcases List.mem_append.1 hf with hf | hf
            · exact HI.out.files f hf g hg
            · simp only [List.mem_singleton] at hf; subst hf
              have := HO3.out g hg; have := (HI.out.ext.trans HX.out).size; omega,
          ((Chg.of_ext (S := RkT dn (.slice oa O.length oc)) (HI.out.ext.trans (HX.out.trans HX5.out))).trans HP2.out (fun _ _ e => e)).ext (fun i hi e => by
            rcases e with e | e
            · have := HI.out.dn; omega
            · have := HI.out.own i e; omega)⟩⟩
        case measure => simp [RowKit.intOf]; omega
    · have hkL : k = L.length := by omega
      have HKL2 := Lib.hid hkL
      clear hkL
      go_wp2_with fail
      go_ret
      have := HI.out
      rw [HKL2.out] at this
      obtain ⟨B', h1, h2, h3⟩ := this.end' HO.out HF.out
      exact ⟨dn, B', rfl, h1, h2, h3⟩
end Go.Proofs.Ytcmolfhjkkfedaa
