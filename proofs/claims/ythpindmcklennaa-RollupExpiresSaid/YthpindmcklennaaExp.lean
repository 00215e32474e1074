/- rollup: Expire, Find of one part. -/
import Derived.Test.YthpindmcklennaaRol
namespace Go.Proofs.Ythpindmcklennaa
open Go.RowKit Go.Lib Go.Sort

/-- A list of just one part. -/
structure PartAt (w : World) (pa : Addr) (name : ByteArray) (ba : Option Addr) (n bc : Nat) (B : List Bk) : Prop where
  spot : pa.spot = none
  c0 : w.cell? ⟨pa.block, pa.off, none⟩ = some (.string name)
  c1 : w.cell? ⟨pa.block, pa.off + 1, none⟩ = some (.slice ba n bc)
  src : Src w 13 (.slice ba n bc) n (bks B)
theorem PartAt.ext {w w' : World} {pa : Addr} {name : ByteArray} {ba : Option Addr} {n bc : Nat} {B : List Bk} (h : PartAt w pa name ba n bc B) (hx : Ext w w') : PartAt w' pa name ba n bc B :=
  ⟨h.spot, (hx.cell (World.block_lt_of_cell? w _ h.c0)).trans h.c0, (hx.cell (World.block_lt_of_cell? w _ h.c1)).trans h.c1, h.src.ext hx⟩

theorem elem_rpt : ElemOk Try.prog 47 46 2 40 :=
  ⟨Try.underlying47, by
    obtain ⟨i0, hi, hz0, hz1, hz2⟩ := info_parts (show (Try.prog.info? 46).map (fun i => (i.zero, i.size, i.bytes)) = some (some (.agg #[.string ⟨#[]⟩, .slice none 0 0]), 2, 40) from by kernel_rfl)
    exact ⟨i0, _, hi, hz0, hz1, hz2, rfl⟩, by decide⟩

/-- The cells of a bucket, as an array. -/
theorem bkc_info (b : Bk) : (Try.prog.info? 39).map (·.size) = some (bkc b).length := by
  rw [bkc_len]; kernel_rfl
theorem bkc_all (b : Bk) : (bkc b).toArray.all (·.oneCell') = true := by
  rw [Array.all_eq_true_iff_forall_mem]
  intro v hv
  exact bkc_one b v (by simpa using hv)

/-- What expires not. -/
def expP (from' : Int) (b : Bk) : Bool := decide (from' < b.hi)
theorem filter_take {P : Bk → Bool} {B : List Bk} {k : Nat} {b : Bk} (h : B[k]? = some b) : (B.take (k + 1)).filter P = (B.take k).filter P ++ (if P b then [b] else []) := by
  rw [List.take_add_one, h, List.filter_append]
  simp [List.filter_cons]

def expPost (w : World) (from' : Int) (name : ByteArray) (B : List Bk) (e : Ending) (w' : World) : Prop :=
  Ext w w' ∧ ((B.filter (expP from') = [] ∧ e = .returned (.slice none 0 0)) ∨
    (B.filter (expP from') ≠ [] ∧ ∃ pa pc ba bc, e = .returned (.slice (some pa) 1 pc) ∧ PartAt w' pa name ba (B.filter (expP from')).length bc (B.filter (expP from'))))

set_option maxHeartbeats 600000 in
set_option maxRecDepth 100000 in
theorem expire_any (w : World) (pa : Addr) (pc : Nat) (name : ByteArray) (ba : Option Addr) (n bc : Nat) (B : List Bk) (from' : Int) (hp : PartAt w pa name ba n bc B) (hn : n ≤ 100000) :
    Calls Try.prog 11 #[.slice (some pa) 1 pc, .int .i64 from'] w (expPost w from' name B) := by
  obtain ⟨pb, po, psp⟩ := pa
  have hsp := hp.spot
  simp only at hsp
  subst hsp
  have HPA := Lib.hid hp
  have HLN := Lib.hid (enc_src_len bkc_len (by decide) hp.src)
  clear hp
  have HP : Hid (∀ e w', expPost w from' name B e w' = (Ext w w' ∧ ((B.filter (expP from') = [] ∧ e = .returned (.slice none 0 0)) ∨ (B.filter (expP from') ≠ [] ∧ ∃ pa pc ba bc, e = .returned (.slice (some pa) 1 pc) ∧ PartAt w' pa name ba (B.filter (expP from')).length bc (B.filter (expP from')))))) := Lib.hid (fun _ _ => rfl)
  go_enter Try.func11, Try.ntmps11
  go_wp2_with fail
  go_loopw [5, 13] (fun s5 s13 wr => ∃ k : Nat, k ≤ 1 ∧ s13 = .int .i64 k ∧ ∃ va m vc, s5 = .slice va m vc ∧ Hid (Ext w wr ∧ (k = 0 → va = none ∧ m = 0 ∧ vc = 0) ∧ (k = 1 → expPost w from' name B (.returned (.slice va m vc)) wr))) (fun _ i _ => 1 - (RowKit.intOf i).toNat)
  case atStart => exact ⟨0, by omega, rfl, none, 0, 0, rfl, Lib.hid ⟨Ext.refl _, fun _ => ⟨rfl, rfl, rfl⟩, fun h => by omega⟩⟩
  case round =>
    obtain ⟨k, hk, rfl, va, m, vc, rfl, HI⟩ := hrel
    rcases Nat.lt_or_ge k 1 with hk1 | hk1
    · obtain rfl : k = 0 := by omega
      obtain ⟨rfl, rfl, rfl⟩ := HI.out.2.1 rfl
      have c0 := (HPA.out.ext HI.out.1).c0
      have c1 := (HPA.out.ext HI.out.1).c1
      simp only at c0 c1
      go_wp2_with fail
      have HX5 : Hid (Ext w (wr.alloc (.cells #[.string name, .slice ba n bc] 46 (0, 0)))) := Lib.hid (HI.out.1.alloc _)
      have HB5 := Lib.hid (heap_alloc_new wr (.cells #[.string name, .slice ba n bc] 46 (0, 0)))
      obtain ⟨bx, hbx⟩ : ∃ bx, bx = wr.heap.size := ⟨_, rfl⟩
      rw [← hbx] at HB5 ⊢
      clear hbx c0 c1
      generalize wr.alloc (.cells #[.string name, .slice ba n bc] 46 (0, 0)) = w5 at *
      go_loopw [8, 20] (fun s8 s20 wz => ∃ (j m vc : Nat) (va : Option Addr), j ≤ n ∧ s20 = .int .i64 j ∧ s8 = .slice va m vc ∧ m ≤ n ∧ Hid (MadeTo w5 39 13 (.slice va m vc) m (bks ((B.take j).filter (expP from'))) wz ∧ ((B.take j).filter (expP from')).length = m)) (fun _ i _ => n - (RowKit.intOf i).toNat)
      case atStart => exact ⟨0, 0, 0, none, by omega, rfl, rfl, by omega, Lib.hid ⟨⟨Row.nil _ _ _, fun g hg => by simp [Value.ownBlock] at hg, Ext.refl _⟩, rfl⟩⟩
      case round =>
        obtain ⟨j, m, vc, va, hj, rfl, rfl, hmn, HM⟩ := hrel
        by_cases hjn : j < n
        · obtain ⟨b, so, bk, rfl, hbk, hrg⟩ := enc_src bkc_len (by decide) (HPA.out.src.ext (HX5.out.trans HM.out.1.ext)) hjn
          have HRG := Lib.hid hrg
          have HBK := Lib.hid hbk
          have HFT := Lib.hid (filter_take (P := expP from') hbk)
          have hmj : m ≤ j := by
            have h1 := HM.out.2
            have h2 := List.length_filter_le (expP from') (B.take j)
            rw [List.length_take] at h2
            omega
          clear hrg hbk
          obtain ⟨lo, hi, an, asu, mn, mx, ⟨ft, fv, fs⟩, ⟨lt, lv, ls⟩⟩ := bk
          obtain ⟨sh, hsh⟩ : ∃ x, x = asu / 18446744073709551616 := ⟨_, rfl⟩
          obtain ⟨sl, hsl⟩ : ∃ x, x = asu % 18446744073709551616 := ⟨_, rfl⟩
          have HBC : Hid (bkc ⟨lo, hi, an, asu, mn, mx, ⟨ft, fv, fs⟩, ⟨lt, lv, ls⟩⟩ = [.int .i64 lo, .int .i64 hi, .int .i64 an, .int .i64 sh, .int .u64 sl, .int .i64 mn, .int .i64 mx, .int .i64 ft, .int .i64 fv, .int .i64 fs, .int .i64 lt, .int .i64 lv, .int .i64 ls]) := Lib.hid (by rw [hsh, hsl]; rfl)
          rw [HBC.out] at HRG
          clear hsh hsl
          have HIN : Hid ((Try.prog.info? 39).map (·.size) = some 13) := Lib.hid (by kernel_rfl)
          have HAL : Hid (([.int .i64 lo, .int .i64 hi, .int .i64 an, .int .i64 sh, .int .u64 sl, .int .i64 mn, .int .i64 mx, .int .i64 ft, .int .i64 fv, .int .i64 fs, .int .i64 lt, .int .i64 lv, .int .i64 ls] : List Value).toArray.all (·.oneCell') = true) := Lib.hid (by simp [Value.oneCell'])
          by_cases hb : from' < hi
          case' pos =>
            have HE : Hid ((B.take (j + 1)).filter (expP from') = (B.take j).filter (expP from') ++ [⟨lo, hi, an, asu, mn, mx, ⟨ft, fv, fs⟩, ⟨lt, lv, ls⟩⟩]) := Lib.hid (by rw [HFT.out]; simp [expP, hb])
          case' neg =>
            have HE : Hid ((B.take (j + 1)).filter (expP from') = (B.take j).filter (expP from')) := Lib.hid (by rw [HFT.out]; simp [expP, hb])
          all_goals
            go_wp2_with (first | (refine wpList_load_mid rfl _ _ rfl b (so + j * 13) rfl [.int .i64 lo, .int .i64 hi, .int .i64 an, .int .i64 sh, .int .u64 sl, .int .i64 mn, .int .i64 mx, .int .i64 ft, .int .i64 fv, .int .i64 fs, .int .i64 lt, .int .i64 lv, .int .i64 ls] _ HRG.out Try.underlying39 rfl HIN.out ?_) | (refine wpList_store_box rfl _ _ _ rfl _ _ _ _ rfl rfl (heap_alloc_new wr _) rfl HIN.out HAL.out ?_; rintro w6 hb6 hc6; have k1 : w6.cell? ⟨wr.heap.size, 1, none⟩ = some (.int .i64 hi) := (by have := cell_of_block hb6 1; simpa using this); have HB6 := Lib.hid hb6; have HX6 : Hid (Ext wr w6) := Lib.hid (((Chg.of_ext ((Ext.refl wr).alloc _)).trans hc6 (fun _ _ e => e)).ext (fun i hi e => by omega)); clear hb6 hc6) | (refine wpList_load_box rfl _ _ rfl _ _ _ _ _ rfl HB6.out Try.underlying39 rfl HIN.out ?_) | (refine wpList_append_start elem_bk rfl _ _ rfl rfl rfl (Start.row ((HM.out.1.row.ext HX6.out).alloc _) HM.out.1.own) ((HM.out.1.ext.trans HX6.out).alloc _) (enc_one (p := (⟨lo, hi, an, asu, mn, mx, ⟨ft, fv, fs⟩, ⟨lt, lv, ls⟩⟩ : Bk)) (enc := bkc) (heap_alloc_new w6 _) HBC.out rfl (bkc_one _)) (by omega) (by unfold maxLen; omega) (by omega) ?_; rintro v' w9 ha; obtain ⟨va', vc', rfl⟩ := ha.row.shape; have HA := Lib.hid ha; clear ha))
          · refine ⟨⟨j + 1, m, vc, va, by omega, by go_num, rfl, by omega, Lib.hid ⟨?_, ?_⟩⟩, ?_⟩
            · rw [HE.out]; exact ⟨HM.out.1.row.ext HX6.out, HM.out.1.own, HM.out.1.ext.trans HX6.out⟩
            · rw [HE.out]; exact HM.out.2
            · simp [RowKit.intOf]; omega
          · refine ⟨⟨j + 1, m + 1, vc', va', by omega, by go_num, rfl, by omega, Lib.hid ⟨?_, ?_⟩⟩, ?_⟩
            · rw [HE.out, bks_append]; exact HA.out
            · rw [HE.out, List.length_append, HM.out.2]; rfl
            · simp [RowKit.intOf]; omega
        · have HKN : Hid (B.take j = B) := Lib.hid (by rw [List.take_of_length_le (by have := HLN.out; omega)])
          rw [HKN.out] at HM
          have HRP := Lib.hid HB5.out
          have s0 : wr.cell? ⟨bx, 0, none⟩ = some (.string name) := by have := cell_of_block ((HM.out.1.ext.block (block_lt HB5.out)).trans HB5.out) 0; simpa using this
          rcases Nat.eq_zero_or_pos m with hm0 | hm0
          case' inl =>
            go_wp2_with fail
            refine ⟨⟨1, by omega, rfl, none, 0, 0, rfl, Lib.hid ⟨HX5.out.trans HM.out.1.ext, fun h => by omega, fun _ => ?_⟩⟩, by simp [RowKit.intOf]⟩
            rw [HP.out]
            exact ⟨HX5.out.trans HM.out.1.ext, .inl ⟨List.length_eq_zero_iff.1 (by rw [HM.out.2, hm0]), rfl⟩⟩
          case' inr =>
            have HNE : Hid (B.filter (expP from') ≠ []) := Lib.hid (fun h => by have h1 := HM.out.2; rw [h] at h1; simp at h1; omega)
            go_wp2_with (first | (refine wpList_append_start elem_rpt rfl _ _ rfl rfl rfl (Start.row (w0 := wr) (v := .slice none 0 0) (Row.nil _ _ _) (fun g hg => by simp [Value.ownBlock] at hg)) ((Ext.refl wr).alloc _) (src_new wr #[.string name, .slice va m vc] 46 2 1 (0, 0) rfl (by simp [Value.oneCell'])) (by omega) (by unfold maxLen; omega) (by omega) ?_; rintro v' w9 ha; obtain ⟨va', vc', rfl⟩ := ha.row.shape; have HA := Lib.hid ha; clear ha))
            have hxx := HX5.out.trans (HM.out.1.ext.trans HA.out.ext)
            refine ⟨⟨1, by omega, rfl, va', 1, vc', rfl, Lib.hid ⟨hxx, fun h => by omega, fun _ => ?_⟩⟩, by simp [RowKit.intOf]⟩
            rw [HP.out]
            have hrow := HA.out.row
            obtain ⟨_, ⟨e, h⟩ | ⟨g, cap, cur, e, _, hb, _⟩⟩ := id hrow
            · cases e
            · cases e
              have hsrc := hrow.src (by simp [Value.oneCell'])
              rcases hsrc with ⟨e, _⟩ | ⟨ad, c', e, _, hc, _⟩
              · cases e
              · cases e
                have q0 := hc 0 (.string name) rfl
                have q1 := hc 1 (.slice va m vc) rfl
                rw [Go.WideShapes.add_plain] at q0 q1
                refine ⟨hxx, .inr ⟨HNE.out, ⟨g, 0, none⟩, _, va, vc, rfl, rfl, q0, ?_, ?_⟩⟩
                · rw [HM.out.2]; exact q1
                · rw [HM.out.2]; exact (HM.out.1.row.ext HA.out.ext).src (bks_one _)
    · obtain rfl : k = 1 := by omega
      go_wp2_with fail
      go_ret
      exact HI.out.2.2 (by simp)
end Go.Proofs.Ythpindmcklennaa
