/- tidemillref18.Save: the walk. -/
import Derived.Test.YtgdgjnecgelalaaGreatDoorSvx
import Derived.Test.YtgdgjnecgelalaaGreatDoorMr2
import Derived.Test.YtgdgjnecgelalaaGreatDoorDip
import Derived.Test.YtgdgjnecgelalaaGreatDoorOsl
import Derived.Test.YtgdgjnecgelalaaGreatDoorMr5
import Derived.Test.YtgdgjnecgelalaaGreatDoorDiskC0
import Derived.Test.YtgdgjnecgelalaaGreatDoorMap
import Derived.WalkKit
import Derived.WalkSpells
import Derived.Test.YtgdgjnecgelalaaGreatDoorProg
namespace Go.Proofs.YtgdgjnecgelalaaGreatDoor
open Go.RowKit Go.Sort Go.Lib

/-- What stands in memory while a state is saved on the document's disk. -/
structure RvAt (w : World) (d : Nat) (B : List Nat) (v : Value) (l : List UInt8) (k : Nat) (S : DiskS) (wi : World) : Prop where
  disk : ∃ Bi, RkAt wi d S Bi ∧ (∀ b ∈ Bi, b ∈ B ∨ w.heap.size ≤ b) ∧ ∀ g, v.ownBlock = some g → g ∉ Bi
  chg : Chg (· ∈ B) w wi
  src : Src wi 1 v l.length (u8s l)
  inv : DInv S k
  own : ∀ g, v.ownBlock = some g → g < wi.heap.size
section
variable {w wi w' : World} {d k : Nat} {B : List Nat} {v : Value} {l : List UInt8} {S S' : DiskS}
theorem RvAt.call {Bi : List Nat} (h : RvAt w d B v l k S wi) (hd : RkAt wi d S Bi ∧ (∀ b ∈ Bi, b ∈ B ∨ w.heap.size ≤ b) ∧ ∀ g, v.ownBlock = some g → g ∉ Bi) (ht : RkEnd wi d Bi S' w') (hi : DInv S' (k + 1)) : RvAt w d B v l (k + 1) S' w' := by
  obtain ⟨h1, h2, h3⟩ := hd
  obtain ⟨B', k1, k2, k3⟩ := ht
  refine ⟨⟨B', k1, fun b hb => ?_, fun g hg hb => ?_⟩, h.chg.trans k2 (fun i hi e => ?_), h.src.chg k2 (fun g hg => h3 g hg), hi, fun g hg => ?_⟩
  · rcases k3 b hb with e | e
    · exact h2 b e
    · exact .inr (by have := h.chg.size; omega)
  · rcases k3 g hb with e | e
    · exact h3 g hg e
    · have := h.own g hg; omega
  · rcases h2 i e with e | e
    · exact e
    · omega
  · have := h.own g hg
    have := k2.size
    omega
theorem RvAt.end' (h : RvAt w d B v l k S wi) : RkEnd w d B S wi := by
  obtain ⟨Bi, h1, h2, _⟩ := h.disk
  exact ⟨Bi, h1, h.chg, h2⟩
theorem RvAt.ext' (h : RvAt w d B v l k S wi) (hx : Ext wi w') : RvAt w d B v l k S w' := by
  obtain ⟨Bi, h1, h2, h3⟩ := h.disk
  exact ⟨⟨Bi, h1.ext hx, h2, h3⟩, h.chg.trans (Chg.of_ext (S := fun _ => False) hx) (fun _ _ e => e.elim), h.src.ext hx, h.inv, fun g hg => by have := h.own g hg; have := hx.size; omega⟩
end

set_option maxHeartbeats 8000000 in
set_option maxRecDepth 100000 in
theorem ref18Save_any {w : World} {d k : Nat} {S : DiskS} {B : List Nat} (hk : k ≤ 900000) (inv : DInv S k) (h : RkAt w d S B) (s : Sta) (fa ta : Option Addr) (fn fc tn tc : Nat) (hs : StIn w s fa fn fc ta tn tc) :
    Calls Tryz.prog 11 #[.pointer (some ⟨d, 0, none⟩), .agg (staC s fa fn fc ta tn tc)] w (RkCall w d B (saveS S s)) := by
  have HD := Lib.hid h
  have HI := Lib.hid inv
  have HBY := Lib.hid (fun W hx => ref18Bytes_any W s fa ta fn fc tn tc (hs.ext hx))
  have HSV : Hid (saveS S s = if staR s = true then thenS (thenS (thenS (saveA S) (fun S => S.append fN (sealL 7 (staP s)))) (fun S => S.sync fN)) (fun S => S.rename fN fM) else (2, S)) := Lib.hid rfl
  obtain ⟨R, hR⟩ : ∃ R, R = saveS S s := ⟨_, rfl⟩
  rw [← hR] at HSV ⊢
  have HOK := Lib.hid hs.ok
  obtain ⟨x, r, q, ⟨mb, mt, mg⟩, fl, ti⟩ := s
  clear hs inv hR h
  go_enter Tryz.func11, Tryz.ntmps11
  go_wp2_with fail
  generalize hW : w.alloc _ = W
  have HX : Hid (Ext w W) := Lib.hid (by rw [← hW]; exact (Ext.refl w).alloc _)
  clear hW
  refine (HBY.out W HX.out).mono ?_
  rintro e w2 hby
  clear HBY
  unfold BytesTo at hby
  cases hR : staR ⟨x, r, q, ⟨mb, mt, mg⟩, fl, ti⟩ with
  | false =>
    rw [hR, if_neg (by simp)] at hby
    obtain ⟨rfl, hx⟩ := hby
    have HRR : Hid (R = (2, S)) := Lib.hid (by rw [HSV.out, hR, if_neg (by simp)])
    have HX2 := Lib.hid (HX.out.trans hx)
    clear hx hR HSV
    go_wp2_with fail
    go_ret
    rw [HRR.out]
    exact ⟨rfl, RkEnd.same HD.out HX2.out⟩
  | true =>
    rw [hR, if_pos rfl] at hby
    obtain ⟨a, c, rfl, hm⟩ := hby
    have HRR := Lib.hid (HSV.out.trans (if_pos hR))
    have HSL := Lib.hid (seal_few hR HOK.out)
    have hsv : RvAt w d B (.slice a (sealL 7 (staP ⟨x, r, q, ⟨mb, mt, mg⟩, fl, ti⟩)).length c) (sealL 7 (staP ⟨x, r, q, ⟨mb, mt, mg⟩, fl, ti⟩)) k S w2 :=
      ⟨⟨B, HD.out.ext (HX.out.trans hm.ext), fun b hb => .inl hb, fun g hg hb => by have := HD.out.lt _ hb; have := hm.own g hg; have := HX.out.size; omega⟩, Chg.of_ext (HX.out.trans hm.ext), hm.row.src (u8s_one _), HI.out, fun g hg => hm.row.lt hg⟩
    have HS0 := Lib.hid hsv
    clear hm hR HSV hsv
    generalize sealL 7 (staP ⟨x, r, q, ⟨mb, mt, mg⟩, fl, ti⟩) = bl at *
    go_wp2_with fail
    obtain ⟨z, hz, HRD, HA⟩ : ∃ z : Int, (z = 0 ∨ z = 13) ∧ Hid (Calls Tryz.prog 34 #[.pointer (some ⟨d, 0, none⟩), .string fN] w2 (RdTo w2 z)) ∧ Hid (saveA S = if z = 0 then S.delete fN else (0, S)) := by
      obtain ⟨Bi, hd, _⟩ := HS0.out.disk
      cases hn : aget S.files fN with
      | none =>
        refine ⟨13, .inr rfl, Lib.hid ((rk_read HI.out.ok hd fN).mono fun e w' he => ?_), Lib.hid ?_⟩
        · unfold RkReadPost at he
          rw [hn] at he
          obtain ⟨rfl, rfl⟩ := he
          exact ⟨_, rfl, Ext.refl _⟩
        · unfold saveA
          rw [hn]
          rfl
      | some f =>
        refine ⟨0, .inl rfl, Lib.hid ((rk_read HI.out.ok hd fN).mono fun e w' he => ?_), Lib.hid ?_⟩
        · unfold RkReadPost at he
          rw [hn] at he
          obtain ⟨v, rfl, hn⟩ := he
          exact ⟨v, rfl, hn.2.2⟩
        · unfold saveA
          rw [hn]
          rfl
    refine HRD.out.mono ?_
    rintro e w3 ⟨v3, rfl, hx⟩
    have HS1 := Lib.hid (HS0.out.ext' hx)
    clear hx HRD HS0
    go_upto_if 21 with fail
    go_cut [6] (fun _ wx => Hid ((saveA S).1 = 0) ∧ Hid (RvAt w d B (.slice a bl.length c) bl (k + 1) (saveA S).2 wx))
    case first =>
      rcases hz with rfl | rfl
      · have HA0 : Hid (saveA S = S.delete fN) := Lib.hid (by rw [HA.out, if_pos rfl])
        obtain ⟨Bi, hd⟩ := HS1.out.disk
        have HDB := Lib.hid hd
        have HCC := Lib.hid (rk_delete HI.out.ok (by have := HI.out.ops; omega) hd.1 fN ⟨#[]⟩ (by decide))
        have HII := Lib.hid (HI.out.delete fN)
        clear hd HA
        rw [HA0.out] at HRR
        generalize S.delete fN = D at *
        obtain ⟨y, Sy⟩ := D
        go_wp2_with fail
        refine HCC.out.mono ?_
        rintro e w' ⟨rfl, ht⟩
        have HZ := Lib.hid (HS1.out.call HDB.out ht HII.out)
        clear ht
        by_cases hy : y = 0
        · subst hy
          go_wp2_with fail
          go_meet
          case rel => rw [HA0.out]; exact ⟨Lib.hid rfl, HZ⟩
        · have hye : (y == 0) = false := by simp [hy]
          have hyn : (y != 0) = true := by simp [hy]
          have HRX : Hid (R = (y, Sy)) := Lib.hid (by rw [HRR.out]; simp [thenS, hy])
          clear hy
          go_wp2_with fail
          go_ret
          rw [HRX.out]
          exact ⟨rfl, HZ.out.end'⟩
      · have HA0 : Hid (saveA S = (0, S)) := Lib.hid (by rw [HA.out, if_neg (by decide)])
        have HZ : Hid (RvAt w d B (.slice a bl.length c) bl (k + 1) S w3) := Lib.hid (by have h := HS1.out; exact ⟨h.disk, h.chg, h.src, h.inv.mono (by omega), h.own⟩)
        go_wp2_with fail
        go_meet
        case rel => rw [HA0.out]; exact ⟨Lib.hid rfl, HZ⟩
    case rest =>
      obtain ⟨HA0, HZ1⟩ := hcut
      obtain ⟨P, hP⟩ : ∃ P, P = saveA S := ⟨_, rfl⟩
      rw [← hP] at HA0 HZ1 HRR
      clear hP HA HS1
      obtain ⟨p1, S1⟩ := P
      obtain rfl : p1 = 0 := HA0.out
      have HRR2 : Hid (R = thenS (thenS (S1.append fN bl) (fun S => S.sync fN)) (fun S => S.rename fN fM)) := Lib.hid HRR.out
      clear HRR HA0
      have HRR := HRR2
      clear HRR2
      obtain ⟨Bi, hd⟩ := HZ1.out.disk
      have hi : DInv S1 (k + 1) := HZ1.out.inv
      have HDB := Lib.hid hd
      have HCC := Lib.hid (rk_append hi.ok (by have := hi.ops; omega) hd.1 fN (by decide) a bl.length c bl HZ1.out.src (by have := HSL.out; omega))
      have HII := Lib.hid (hi.append fN bl)
      clear hd hi
      generalize S1.append fN bl = T1 at *
      go_wp2_with fail
      refine HCC.out.mono ?_
      rintro e w5 ⟨rfl, ht⟩
      have HZ2 := Lib.hid (HZ1.out.call HDB.out ht HII.out)
      clear ht HZ1 HDB HCC HII
      go_upto_if 31 with fail
      go_cut [6] (fun s6 wx => ∃ T : Int × DiskS, s6 = .int .i64 T.1 ∧ Hid (T = thenS T1 (fun S => S.sync fN)) ∧ Hid (RvAt w d B (.slice a bl.length c) bl (k + 3) T.2 wx))
      case first =>
        clear HRR
        obtain ⟨y, Sy⟩ := T1
        by_cases hy : y = 0
        · subst hy
          obtain ⟨Bi, hd⟩ := HZ2.out.disk
          have hi : DInv Sy (k + 2) := HZ2.out.inv
          have HDB := Lib.hid hd
          have HCC := Lib.hid (rk_sync hi.ok (by have := hi.ops; omega) hd.1 fN ⟨#[]⟩ (by decide))
          have HII := Lib.hid (hi.sync fN)
          have HT : Hid (thenS (0, Sy) (fun S => S.sync fN) = Sy.sync fN) := Lib.hid (by unfold thenS; rw [if_pos rfl])
          clear hd hi
          go_wp2_with fail
          refine HCC.out.mono ?_
          rintro e w' ⟨rfl, ht⟩
          have HZ := Lib.hid (HZ2.out.call HDB.out ht HII.out)
          clear ht
          go_wp2_with fail
          go_meet
          case rel => exact ⟨Sy.sync fN, rfl, Lib.hid HT.out.symm, HZ⟩
        · have hye : (y == 0) = false := by simp [hy]
          have HT : Hid (thenS (y, Sy) (fun S => S.sync fN) = (y, Sy)) := Lib.hid (by unfold thenS; rw [if_neg hy])
          have HZ : Hid (RvAt w d B (.slice a bl.length c) bl (k + 3) Sy w5) := Lib.hid (by have h := HZ2.out; exact ⟨h.disk, h.chg, h.src, h.inv.mono (by omega), h.own⟩)
          clear hy
          go_wp2_with fail
          go_meet
          case rel => exact ⟨(y, Sy), rfl, Lib.hid HT.out.symm, HZ⟩
      case rest =>
        obtain ⟨T2, rfl, HT2, HZ3⟩ := hcut
        rw [← HT2.out] at HRR
        clear HZ2 HT2
        go_upto_if 35 with fail
        go_cut [6] (fun s6 wx => ∃ T : Int × DiskS, s6 = .int .i64 T.1 ∧ Hid (T = thenS T2 (fun S => S.rename fN fM)) ∧ Hid (RvAt w d B (.slice a bl.length c) bl (k + 4) T.2 wx))
        case first =>
          clear HRR
          obtain ⟨y, Sy⟩ := T2
          by_cases hy : y = 0
          · subst hy
            obtain ⟨Bi, hd⟩ := HZ3.out.disk
            have hi : DInv Sy (k + 3) := HZ3.out.inv
            have HDB := Lib.hid hd
            have HCC := Lib.hid (rk_rename hi.ok (by have := hi.ops; omega) hd.1 fN fM (by decide) (by decide))
            have HII := Lib.hid (hi.rename fN fM)
            have HT : Hid (thenS (0, Sy) (fun S => S.rename fN fM) = Sy.rename fN fM) := Lib.hid (by unfold thenS; rw [if_pos rfl])
            clear hd hi
            go_wp2_with fail
            refine HCC.out.mono ?_
            rintro e w' ⟨rfl, ht⟩
            have HZ := Lib.hid (HZ3.out.call HDB.out ht HII.out)
            clear ht
            go_wp2_with fail
            go_meet
            case rel => exact ⟨Sy.rename fN fM, rfl, Lib.hid HT.out.symm, HZ⟩
          · have hye : (y == 0) = false := by simp [hy]
            have HT : Hid (thenS (y, Sy) (fun S => S.rename fN fM) = (y, Sy)) := Lib.hid (by unfold thenS; rw [if_neg hy])
            have HZ : Hid (RvAt w d B (.slice a bl.length c) bl (k + 4) Sy wc) := Lib.hid (by have h := HZ3.out; exact ⟨h.disk, h.chg, h.src, h.inv.mono (by omega), h.own⟩)
            clear hy
            go_wp2_with fail
            go_meet
            case rel => exact ⟨(y, Sy), rfl, Lib.hid HT.out.symm, HZ⟩
        case rest =>
          obtain ⟨T3, rfl, HT3, HZ4⟩ := hcut
          rw [← HT3.out] at HRR
          clear HZ3 HT3
          go_wp2_with fail
          go_ret
          rw [HRR.out]
          exact ⟨rfl, HZ4.out.end'⟩
end Go.Proofs.YtgdgjnecgelalaaGreatDoor

/-! tidemillref18.Load: the walk. -/

namespace Go.Proofs.YtgdgjnecgelalaaGreatDoor
open Go.RowKit Go.Sort Go.Lib

theorem rzero_no_text {w : World} {g : Nat} (h : w.heap[g]? = some (.cells #[.int .i64 0, .int .i64 0, .int .i64 0, .bool false, .int .i64 0, .int .i64 0, .slice none 0 0, .slice none 0 0] 47 (0, 0))) : ∀ o s, w.cell? ⟨g, o, none⟩ ≠ some (.string s) := by
  intro o s e
  rw [cell_of_block h] at e
  rcases o with _ | _ | _ | _ | _ | _ | _ | _ | o <;> simp at e
set_option maxHeartbeats 8000000 in
set_option maxRecDepth 100000 in
theorem ref18Load_any {w : World} {d : Nat} {S : DiskS} {B : List Nat} (ok : S.Ok) (h : RkAt w d S B) (hg : HasET w) :
    Calls Tryz.prog 17 #[.pointer (some ⟨d, 0, none⟩)] w (LoadPost w (loadS S)) := by
  have HG := Lib.hid hg
  have HD := Lib.hid h
  clear h hg
  obtain ⟨L, hL⟩ : ∃ L, L = loadS S := ⟨_, rfl⟩
  rw [← hL]
  cases hn : aget S.files fM with
  | none =>
    have HR : Hid (L = (staZ, false, 0)) := Lib.hid (by rw [hL]; unfold loadS; rw [hn])
    have HRD : Hid (∀ W, Ext w W → Calls Tryz.prog 34 #[.pointer (some ⟨d, 0, none⟩), .string fM] W fun e w' => e = .returned (.tuple #[.slice none 0 0, .int .i64 13]) ∧ W = w') := Lib.hid (fun W hx => (rk_read ok (HD.out.ext hx) fM).mono fun e w' he => by unfold RkReadPost at he; rw [hn] at he; exact he)
    clear hn hL
    go_enter Tryz.func17, Tryz.ntmps17
    go_upto_region 1 with fail
    generalize hW : w.alloc _ = W
    obtain ⟨g, hgg⟩ : ∃ g, g = w.heap.size := ⟨_, rfl⟩
    rw [← hgg]
    have HX : Hid (Ext w W) := Lib.hid (by rw [← hW]; exact (Ext.refl w).alloc _)
    have HB : Hid (W.heap[g]? = some (.cells #[.int .i64 0, .int .i64 0, .int .i64 0, .bool false, .int .i64 0, .int .i64 0, .slice none 0 0, .slice none 0 0] 47 (0, 0))) := Lib.hid (by rw [← hW, hgg]; exact heap_alloc_new w _)
    have HGG := Lib.hid hgg
    clear hW hgg
    go_wp2_with fail
    refine (HRD.out W HX.out).mono ?_
    rintro e w1 ⟨rfl, rfl⟩
    go_wp2_with (first | (refine wpList_store_box rfl _ _ _ rfl _ _ _ _ rfl rfl HB.out rfl rsta_info (by simp [Value.oneCell']) ?_; rintro wx hbx hcx; have HBX := Lib.hid hbx; have HCX := Lib.hid hcx; clear hbx hcx))
    refine bodyPost_ret (results_box_tmp2 Tryz.results17 _ _ rfl HBX.out Tryz.underlying47 rfl rsta_info) rfl ?_
    rw [HR.out]
    exact LoadPost.zero rfl (HX.out.stored HCX.out (by have := HGG.out; omega))
  | some f =>
    have HR : Hid (L = loadO (staRd f.bytes)) := Lib.hid (by rw [hL]; unfold loadS; rw [hn])
    have hsm : f.bytes.length ≤ 1048576 := ok.small _ (aget_mem hn)
    have HRD : Hid (∀ W, Ext w W → Calls Tryz.prog 34 #[.pointer (some ⟨d, 0, none⟩), .string fM] W (ReadPost W f.bytes)) := Lib.hid (fun W hx => (rk_read ok (HD.out.ext hx) fM).mono fun e w' he => by unfold RkReadPost at he; rw [hn] at he; exact he)
    clear hn hL ok
    go_enter Tryz.func17, Tryz.ntmps17
    go_upto_region 1 with fail
    generalize hW : w.alloc _ = W
    obtain ⟨g, hgg⟩ : ∃ g, g = w.heap.size := ⟨_, rfl⟩
    rw [← hgg]
    have HX : Hid (Ext w W) := Lib.hid (by rw [← hW]; exact (Ext.refl w).alloc _)
    have HB : Hid (W.heap[g]? = some (.cells #[.int .i64 0, .int .i64 0, .int .i64 0, .bool false, .int .i64 0, .int .i64 0, .slice none 0 0, .slice none 0 0] 47 (0, 0))) := Lib.hid (by rw [← hW, hgg]; exact heap_alloc_new w _)
    have HGG := Lib.hid hgg
    clear hW hgg
    go_wp2_with fail
    refine (HRD.out W HX.out).mono ?_
    rintro e w1 ⟨v1, rfl, hrow, hown, hx⟩
    obtain ⟨a, c, rfl⟩ := hrow.shape
    have HX1 := Lib.hid (HX.out.trans hx)
    have HB1 := Lib.hid (hx.keep HB.out)
    have HSL : Hid (SlB w1 a f.bytes.length c f.bytes) := Lib.hid ⟨hrow.src (u8s_one _), bufRow_le hrow, by omega⟩
    clear hrow hown hx HX HB HRD
    generalize f.bytes = bl at *
    go_wp2_with fail
    refine (ref18Read_any w1 a bl.length c bl HSL.out (by omega) (HG.out.ext HX1.out)).mono ?_
    rw [refRd_alike]
    rintro e w2 ⟨fa, fn, fc, ta, tn, tc, rfl, hx, hin⟩
    have HX2 := Lib.hid (HX1.out.trans hx)
    have HB2 := Lib.hid (hx.keep HB1.out)
    have HIN := Lib.hid hin
    clear hx hin HX1 HB1
    replace HR : Hid (L = ((staRd bl).getD staZ, (staRd bl).isSome, if (staRd bl).isSome = true then 0 else 24)) := Lib.hid (by rw [HR.out]; cases staRd bl <;> rfl)
    obtain ⟨Z, hZ⟩ : ∃ Z, Z = (staRd bl).getD staZ := ⟨_, rfl⟩
    obtain ⟨I, hI⟩ : ∃ I, I = (staRd bl).isSome := ⟨_, rfl⟩
    have HZ0 : Hid ((staRd bl).isSome = false → (staRd bl).getD staZ = staZ) := Lib.hid (fun h => by cases hs : staRd bl with | none => rfl | some s => rw [hs] at h; cases h)
    rw [← hZ, ← hI] at HR HZ0
    rw [← hZ] at HIN
    rw [← hZ, ← hI]
    clear hZ hI
    obtain ⟨x, r, q, ⟨mb, mt, mg⟩, fl, ti⟩ := Z
    cases I
    · have hz := HZ0.out rfl
      rw [hz] at HR
      clear hz HZ0
      go_upto_region 5 with fail
      generalize hW : w2.alloc _ = w3
      obtain ⟨t, ht⟩ : ∃ t, t = w2.heap.size := ⟨_, rfl⟩
      rw [← ht]
      have hx3 : Ext w2 w3 := by rw [← hW]; exact (Ext.refl w2).alloc _
      have hbt : w3.heap[t]? = some (.cells #[.int .i64 x, .int .i64 r, .int .i64 q, .bool mb, .int .i64 mt, .int .i64 mg, .slice fa fn fc, .slice ta tn tc] 47 (0, 0)) := by rw [← hW, ht]; exact heap_alloc_new w2 _
      have HB3 := Lib.hid (hx3.keep HB2.out)
      have HX3 := Lib.hid (HX2.out.trans hx3)
      clear hW ht hx3 hbt
      go_wp2_with (first | (refine wpList_store_box rfl _ _ _ rfl _ _ _ _ rfl rfl HB3.out rfl rsta_info (by simp [Value.oneCell']) ?_; rintro wx hbx hcx; have HBX := Lib.hid hbx; have HCX := Lib.hid hcx; clear hbx hcx))
      refine bodyPost_ret (results_box_tmp2 Tryz.results17 _ _ rfl HBX.out Tryz.underlying47 rfl rsta_info) rfl ?_
      rw [HR.out]
      exact LoadPost.zero rfl (HX3.out.stored HCX.out (by have := HGG.out; omega))
    · clear HZ0
      go_upto_region 5 with fail
      generalize hW : w2.alloc _ = w3
      obtain ⟨t, ht⟩ : ∃ t, t = w2.heap.size := ⟨_, rfl⟩
      rw [← ht]
      have hx3 : Ext w2 w3 := by rw [← hW]; exact (Ext.refl w2).alloc _
      have hbt : w3.heap[t]? = some (.cells #[.int .i64 x, .int .i64 r, .int .i64 q, .bool mb, .int .i64 mt, .int .i64 mg, .slice fa fn fc, .slice ta tn tc] 47 (0, 0)) := by rw [← hW, ht]; exact heap_alloc_new w2 _
      have HB3 := Lib.hid (hx3.keep HB2.out)
      have HX3 := Lib.hid (HX2.out.trans hx3)
      have HI3 := Lib.hid (HIN.out.ext hx3)
      have c0 := cell_of_block hbt 0
      have c1 := cell_of_block hbt 1
      have c2 := cell_of_block hbt 2
      have c3 := cell_of_block hbt 3
      have c4 := cell_of_block hbt 4
      have c5 := cell_of_block hbt 5
      have c6 := cell_of_block hbt 6
      have c7 := cell_of_block hbt 7
      clear hW ht hx3 hbt
      go_wp2_with (first | (refine wpList_store_box rfl _ _ _ rfl _ _ _ _ rfl rfl HB3.out rfl rsta_info (by simp [Value.oneCell']) ?_; rintro wx hbx hcx; have HBX := Lib.hid hbx; have HCX := Lib.hid hcx; clear hbx hcx))
      refine bodyPost_ret (results_box_tmp2 Tryz.results17 _ _ rfl HBX.out Tryz.underlying47 rfl rsta_info) rfl ?_
      rw [HR.out]
      have hxx : Ext w wx := HX3.out.stored HCX.out (by have := HGG.out; omega)
      have hno := rzero_no_text HB3.out
      exact ⟨fa, fn, fc, ta, tn, tc, rfl, hxx, ⟨HI3.out.fl.chg0 HCX.out (fls_apart HI3.out.fl hno), HI3.out.ti.chg0 HCX.out (trs_apart HI3.out.ti hno), HI3.out.ok, HI3.out.fn63, HI3.out.tn63⟩⟩
end Go.Proofs.YtgdgjnecgelalaaGreatDoor

/-! Both disks side by side (as in XDpl, without its law). -/

namespace Go.Proofs.YtgdgjnecgelalaaGreatDoor
open Go.RowKit Go.Sort Go.Lib

/-- Both disks. -/
structure PlI (w : World) (d rd : Nat) (S S' : DiskS) (B BR : List Nat) (wr : World) : Prop where
  x : DiskAt wr d S B
  y : RkAt wr rd S' BR
  ap : ∀ b ∈ B, b ∉ BR
  bx : ∀ b ∈ B, w.heap.size ≤ b
  by' : ∀ b ∈ BR, w.heap.size ≤ b
  ext : Ext w wr
theorem PlI.next {w : World} {d rd : Nat} {S S' : DiskS} {B BR : List Nat} {wr w1 : World} (h : PlI w d rd S S' B BR wr) (hx : Ext wr w1) : PlI w d rd S S' B BR w1 :=
  ⟨h.x.ext hx, h.y.ext hx, h.ap, h.bx, h.by', h.ext.trans hx⟩
theorem PlI.stepX {w : World} {d rd : Nat} {S S' S2 : DiskS} {B BR : List Nat} {wr w1 : World} (h : PlI w d rd S S' B BR wr) (t : DiskTo wr d B S2 w1) : ∃ B2, PlI w d rd S2 S' B2 BR w1 := by
  obtain ⟨B2, h1, h2, h3⟩ := t
  refine ⟨B2, h1, h.y.chg h2 (fun b hb e => h.ap b e hb), fun b hb hr => ?_, fun b hb => ?_, h.by', ((Chg.of_ext (S := (· ∈ B)) h.ext).trans h2 (fun _ _ e => e)).ext (fun i hi e => by have := h.bx i e; omega)⟩
  · rcases h3 b hb with e | e
    · exact h.ap b e hr
    · have := h.y.lt b hr; omega
  · rcases h3 b hb with e | e
    · exact h.bx b e
    · have := h.ext.size; omega
theorem PlI.stepY {w : World} {d rd : Nat} {S S' S2 : DiskS} {B BR : List Nat} {wr w1 : World} (h : PlI w d rd S S' B BR wr) (t : RkEnd wr rd BR S2 w1) : ∃ B2, PlI w d rd S S2 B B2 w1 := by
  obtain ⟨B2, h1, h2, h3⟩ := t
  refine ⟨B2, h.x.chg h2 (fun b hb e => h.ap b hb e), h1, fun b hb hr => ?_, h.bx, fun b hb => ?_, ((Chg.of_ext (S := (· ∈ BR)) h.ext).trans h2 (fun _ _ e => e)).ext (fun i hi e => by have := h.by' i e; omega)⟩
  · rcases h3 b hr with e | e
    · exact h.ap b hb e
    · have := h.x.lt b hb; omega
  · rcases h3 b hb with e | e
    · exact h.by' b e
    · have := h.ext.size; omega
theorem PlI.newX {w : World} {d rd dn : Nat} {S S' S2 : DiskS} {B BR B2 : List Nat} {wr w1 : World} (h : PlI w d rd S S' B BR wr) (t : DiskAt w1 dn S2 B2) (hx : Ext wr w1) (hb : ∀ b ∈ B2, wr.heap.size ≤ b) : PlI w dn rd S2 S' B2 BR w1 :=
  ⟨t, h.y.ext hx, fun b h2 hr => by have := hb b h2; have := h.y.lt b hr; omega, fun b h2 => by have := hb b h2; have := h.ext.size; omega, h.by', h.ext.trans hx⟩
theorem PlI.newY {w : World} {d rd rn : Nat} {S S' S2 : DiskS} {B BR B2 : List Nat} {wr w1 : World} (h : PlI w d rd S S' B BR wr) (t : RkAt w1 rn S2 B2) (hx : Ext wr w1) (hb : ∀ b ∈ B2, wr.heap.size ≤ b) : PlI w d rn S S2 B B2 w1 :=
  ⟨h.x.ext hx, t, fun b h2 hr => by have := hb b hr; have := h.x.lt b h2; omega, h.bx, fun b h2 => by have := hb b h2; have := h.ext.size; omega, h.ext.trans hx⟩

theorem RkAt.left {w : World} {rd : Nat} {S : DiskS} {B : List Nat} (h : RkAt w rd S B) (m : Int) : RkAt (w.setCell ⟨rd, 1, none⟩ (.int .i64 m)) rd { S with left := m } B ∧ w.cell? ⟨rd, 1, none⟩ = some (.int .i64 S.left) ∧ w.frozen? ⟨rd, 1, none⟩ = false ∧ rd ∈ B := by
  obtain ⟨L, la, lc, h1, h2, h3, rfl⟩ := h
  refine ⟨⟨L, la, lc, h1.head (setCell_chg _ _ _ _) ?_, h2, h3, rfl⟩, h1.head0.2.1, free_of_block h1.blk 1, rfoot_head _ _ _⟩
  have := setCell_block (i := 1) h1.blk (.int .i64 m)
  simpa using this
theorem RkAt.sort {w : World} {rd : Nat} {S : DiskS} {B : List Nat} (h : RkAt w rd S B) : ∃ D, SortF D S.files := by
  obtain ⟨L, la, lc, h1, h2, h3, rfl⟩ := h
  exact ⟨_, h2⟩

theorem rkAt_used {w : World} {rd : Nat} {S : DiskS} {B : List Nat} (ok : S.Ok) (h : RkAt w rd S B) : Calls Tryz.prog 15 #[.pointer (some ⟨rd, 0, none⟩)] w fun e w' => e = .returned (.int .i64 S.used) ∧ w = w' := by
  obtain ⟨L, la, lc, h1, h2, h3, rfl⟩ := h
  have hlen : L.length ≤ 512 := by have := ok.few; have := h2.len; rw [rdata_len] at this; omega
  rw [h3]
  exact rk_used h1 (by have := ok.used1; have := ok.room1; omega) (by omega)
theorem rkAt_ops {w : World} {rd : Nat} {S : DiskS} {B : List Nat} (h : RkAt w rd S B) : w.cell? ⟨rd, 2, none⟩ = some (.int .i64 S.ops) := by
  obtain ⟨L, la, lc, h1, h2, h3, rfl⟩ := h
  exact h1.head0.2.2

end Go.Proofs.YtgdgjnecgelalaaGreatDoor

/-! Disks that no call made: none and Read. -/

namespace Go.Proofs.YtgdgjnecgelalaaGreatDoor
open Go.RowKit Go.Sort

/-- A disk that no call made: nil, or without a map. -/
def NoDisk (w : World) (o : Option Addr) : Prop := o = none ∨ ∃ b, o = some ⟨b, 0, none⟩ ∧ w.cell? ⟨b, 0, none⟩ = some (.map none)
theorem NoDisk.ext {w w' : World} {o : Option Addr} (h : NoDisk w o) (hx : Ext w w') : NoDisk w' o := by
  rcases h with h | ⟨b, h, hc⟩
  · exact .inl h
  · exact .inr ⟨b, h, by rw [hx.cell (p := ⟨b, 0, none⟩) (World.block_lt_of_cell? w _ hc)]; exact hc⟩

set_option maxHeartbeats 1000000 in
theorem none_nobody {w : World} {o : Option Addr} (h : NoDisk w o) :
    Calls Tryz.prog 22 #[.pointer o] w fun e w' => e = .returned (.bool true) ∧ w = w' := by
  have hn := fun (w : World) => run_eql_map_nil (P := Tryz.prog) w 69 _ _ none Tryz.underlying69
  rcases h with rfl | ⟨b, rfl, hc⟩
  all_goals
    go_enter Tryz.func22, Tryz.ntmps22
    go_wp2
    go_ret
    exact ⟨rfl, rfl⟩

set_option maxHeartbeats 1000000 in
theorem read_nobody {w : World} {o : Option Addr} (h : NoDisk w o) (s : ByteArray) :
    Calls Tryz.prog 23 #[.pointer o, .string s] w fun e w' => e = .returned (.tuple #[.slice none 0 0, .int .i64 1]) ∧ w = w' := by
  have H := Lib.hid h; clear h
  go_enter Tryz.func23, Tryz.ntmps23
  go_wp2_with (go_at_call 22; refine (none_nobody H.out).mono ?_; rintro e w' ⟨rfl, rfl⟩)
  go_ret2
  exact ⟨rfl, rfl⟩

end Go.Proofs.YtgdgjnecgelalaaGreatDoor
