/- WalLasts: the log in memory while records are added, and the disk behind it. -/
import Derived.Test.YtfablbhkmddnbaaDoorWlu
import Derived.Test.YtfablbhkmddnbaaDoorWdt
namespace Go.Proofs.YtfablbhkmddnbaaDoor
open Go.RowKit Go.Sort Go.Lib

theorem LogA.bd {rs : List (List UInt8)} {sn : Nat} {L : LogS} {F : List (ByteArray × FileS)} (h : LogA rs sn L F) (hl : rs.length ≤ 60) (hr : ∀ r ∈ rs, r.length ≤ 8) : LBd L 10000 ∧ L.files.length ≤ 60 ∧ ∀ f ∈ L.files, f ≤ 64 := by
  rcases h with ⟨rfl, rfl, rfl, rfl⟩ | ⟨gs, q, s, sy, d, h, rfl, _⟩
  · exact ⟨⟨by simp [log0], by simp [log0], by simp [log0], by simp [log0], by simp [log0], by simp [log0]⟩, by simp [log0], by simp [log0]⟩
  · have hrl : rs.length = gs.flatten.length + q.length := by rw [h.recs, List.length_append]
    have hb := b1_small (rs := q) (fun r hr' => hr r (by rw [h.recs]; exact List.mem_append_right _ hr'))
    have hgl := groups_le gs h.nes
    have hq := List.length_pos_iff.2 h.ne
    have hf : ∀ f ∈ startsG 0 gs ++ [gs.flatten.length], f ≤ 64 := fun f hf => by
      rcases List.mem_append.1 hf with hf | hf
      · have := startsG_lt gs 0 h.nes f hf; omega
      · rw [List.mem_singleton] at hf; omega
    have hfl : (startsG 0 gs ++ [gs.flatten.length]).length ≤ 60 := by rw [List.length_append, startsG_len]; simp; omega
    rw [LG_snoc]
    exact ⟨⟨by simp only; omega, by simp only; omega, by simp only; omega, fun f hf' => by have := hf f hf'; omega, by simp, fun _ => by simp⟩, hfl, hf⟩
theorem LG_bd {gs : List (List (List UInt8))} (hnes : ∀ g ∈ gs, g ≠ []) (hl : gs.flatten.length ≤ 60) (hr : ∀ r ∈ gs.flatten, r.length ≤ 8) : LBd (LG gs false) 10000 ∧ (LG gs false).files.length ≤ 60 := by
  have hgl := groups_le gs hnes
  refine ⟨⟨by show gs.flatten.length ≤ 10000; omega, ?_, by show (startsG 0 gs).length ≤ 10000; rw [startsG_len]; omega, fun f hf => ?_, by simp [LG], by simp [LG]⟩, by show (startsG 0 gs).length ≤ 60; rw [startsG_len]; omega⟩
  · show ((gs.getLast?.map fun g => (b1 g).length).getD 0) ≤ 10000
    cases hx : gs.getLast? with
    | none => simp
    | some g =>
      have hg := List.mem_of_getLast? hx
      have hb := b1_small (rs := g) (fun r hr' => hr r (List.mem_flatten.2 ⟨g, hg, hr'⟩))
      have hgl2 : g.length ≤ gs.flatten.length := (List.sublist_flatten_of_mem hg).length_le
      show (b1 g).length ≤ 10000
      omega
  · have := startsG_lt gs 0 hnes f hf
    omega
/-- The log while records are added. -/
structure LastAt (w1 : World) (lg d k : Nat) (rs : List (List UInt8)) (sn : Nat) (L : LogS) (S : DiskS) (F : List Nat) (wr : World) : Prop where
  log : LogAt wr lg d L S F
  fr : ∀ b ∈ F, w1.heap.size ≤ b
  inv : DInv S k
  ext : Ext w1 wr
  now : LogA rs sn L S.files
  room : S.room = 100000
/-- The disk, whatever became of the log. -/
structure DoneAt (w1 : World) (d k : Nat) (rs : List (List UInt8)) (sn : Nat) (wr : World) : Prop where
  ex : ∃ S B, DiskAt wr d S B ∧ (∀ b ∈ B, w1.heap.size ≤ b) ∧ DInv S k ∧ FilesA rs sn S.files ∧ S.room = 100000
  ext : Ext w1 wr
theorem DoneAt.mono {w1 wr : World} {d k j : Nat} {rs : List (List UInt8)} {sn : Nat} (h : DoneAt w1 d k rs sn wr) (hk : k ≤ j) : DoneAt w1 d j rs sn wr := by
  obtain ⟨S, B, h1, h2, h3, h4⟩ := h.ex
  exact ⟨⟨S, B, h1, h2, h3.mono hk, h4⟩, h.ext⟩
theorem LastAt.mono {w1 wr : World} {lg d k j : Nat} {rs : List (List UInt8)} {sn : Nat} {L : LogS} {S : DiskS} {F : List Nat} (h : LastAt w1 lg d k rs sn L S F wr) (hk : k ≤ j) : LastAt w1 lg d j rs sn L S F wr := ⟨h.log, h.fr, h.inv.mono hk, h.ext, h.now, h.room⟩
theorem LastAt.done {w1 wr : World} {lg d k : Nat} {rs : List (List UInt8)} {sn : Nat} {L : LogS} {S : DiskS} {F : List Nat} (h : LastAt w1 lg d k rs sn L S F wr) : DoneAt w1 d k rs sn wr := by
  obtain ⟨V, B, hl, rfl⟩ := h.log
  exact ⟨⟨S, B, hl.disk, fun b hb => h.fr b (lfoot_disk hb), h.inv, h.now.weak, h.room⟩, h.ext⟩
theorem LastAt.next {w1 wr w' : World} {lg d k : Nat} {rs : List (List UInt8)} {sn : Nat} {L : LogS} {S : DiskS} {F : List Nat} (h : LastAt w1 lg d k rs sn L S F wr) (hx : Ext wr w') : LastAt w1 lg d k rs sn L S F w' := ⟨h.log.ext hx, h.fr, h.inv, h.ext.trans hx, h.now, h.room⟩
theorem LastAt.add {w1 wr w' : World} {lg d k : Nat} {rs : List (List UInt8)} {sn : Nat} {L : LogS} {S : DiskS} {F : List Nat} {r : List UInt8} (h : LastAt w1 lg d k rs sn L S F wr) (hl : rs.length < 60) (hr : r.length ≤ 8) (ht : LogTo wr lg d F (addW L S r).2.1 (addW L S r).2.2 w') :
    ((addW L S r).1 = 0 ∧ ∃ F', LastAt w1 lg d (k + 2) (rs ++ [r]) sn (addW L S r).2.1 (addW L S r).2.2 F' w') ∨ ((addW L S r).1 ≠ 0 ∧ DoneAt w1 d (k + 2) rs sn w') := by
  have hi := addW_inv (L := L) h.inv r
  obtain ⟨F', h1, h2, h3⟩ := ht.fresh h.ext h.fr
  rcases add_step (r := r) h.now (by omega) (by omega) with ⟨e1, e2, e3⟩ | ⟨e1, e2, e3⟩
  · exact .inl ⟨e1, F', h1, h3, hi, h2, e2, e3.trans h.room⟩
  · obtain ⟨V, B, hlg, rfl⟩ := h1
    exact .inr ⟨e1, ⟨_, B, hlg.disk, fun b hb => h3 b (lfoot_disk hb), hi, e2, e3.trans h.room⟩, h2⟩
theorem LastAt.sync {w1 wr w' : World} {lg d k : Nat} {rs : List (List UInt8)} {sn : Nat} {L : LogS} {S : DiskS} {F : List Nat} (h : LastAt w1 lg d k rs sn L S F wr) (hl : rs.length ≤ 60) (ht : LogTo wr lg d F (syncW L S).2.1 (syncW L S).2.2 w') :
    ((syncW L S).1 = 0 ∧ ∃ F', LastAt w1 lg d (k + 1) rs rs.length (syncW L S).2.1 (syncW L S).2.2 F' w') ∨ ((syncW L S).1 ≠ 0 ∧ DoneAt w1 d (k + 1) rs sn w') := by
  have hi := syncW_inv (L := L) h.inv
  obtain ⟨F', h1, h2, h3⟩ := ht.fresh h.ext h.fr
  rcases sync_step h.now (by omega) with ⟨e1, e2, e3, -⟩ | ⟨e1, e2, e3⟩
  · exact .inl ⟨e1, F', h1, h3, hi, h2, e2, e3.trans h.room⟩
  · obtain ⟨V, B, hlg, rfl⟩ := h1
    exact .inr ⟨e1, ⟨_, B, hlg.disk, fun b hb => h3 b (lfoot_disk hb), hi, e2, e3.trans h.room⟩, h2⟩
end Go.Proofs.YtfablbhkmddnbaaDoor

/-! WalLasts: the walk. -/

namespace Go.Proofs.YtfablbhkmddnbaaDoor
open Go.RowKit Go.Sort Go.Lib

set_option maxHeartbeats 16000000 in
set_option maxRecDepth 100000 in
theorem walLasts_any (w : World) (a : Option Addr) (n c : Nat) (bs : List UInt8) (hs : Src w 1 (.slice a n c) n (u8s bs)) (hn : n ≤ 9223372036854775807) (ct : Int) (a3 : Option Addr) (n3 c3 : Nat) (kp : List Int) (hk3 : Src w 1 (.slice a3 n3 c3) n3 (zints kp)) (hn3 : n3 ≤ 9223372036854775807) (hg : HasET w) :
    Calls Tryd.prog 6 #[.slice a n c, .int .i64 ct, .slice a3 n3 c3] w fun e w' => e = .returned (.bool true) ∧ Ext w w' := by
  have HS := Lib.hid hs
  have HG := Lib.hid hg
  have HK3 := Lib.hid hk3
  have hb1 := i64_and127 ct
  obtain ⟨p, hp, hp'⟩ : ∃ p : Nat, ct % 128 = (p : Int) ∧ p ≤ 127 := ⟨(ct % 128).toNat, by omega, by omega⟩
  rw [hp] at hb1
  have HB := Lib.hid hb1
  clear hs hg hp hb1 hk3
  go_enter Tryd.func6, Tryd.ntmps6
  go_wp2_with fail
  refine (some_any w a n c bs HS.out hn).mono ?_
  rintro e w1 ⟨ka, kc, K, rfl, hk, hlb⟩
  have HLB := Lib.hid hlb
  have HKL : Hid (K.length ≤ 60) := Lib.hid (by rw [← bsl_len, hk, someL_len]; omega)
  have HSM : Hid (∀ r ∈ bsl K, r.length ≤ 8) := Lib.hid (fun r hr => by rw [hk] at hr; exact (someL_small bs r hr).2)
  clear hk hlb HS
  go_wp2_with fail
  refine (disk_new (by omega) (by omega) w1).mono ?_
  rintro e w2 ⟨rfl, hd, hx⟩
  obtain ⟨d, hde⟩ : ∃ d, d = w1.heap.size + 1 := ⟨_, rfl⟩
  rw [← hde] at hd ⊢
  have HD := Lib.hid hd
  have HX2 := Lib.hid hx
  have HDE := Lib.hid hde
  have HG2 : Hid (HasET w2) := Lib.hid (HG.out.ext (HLB.out.ext.trans hx))
  clear hd hx hde
  go_wp2_with fail
  refine (logopen_any (k := 0) (by omega) (newDisk_inv' (by omega) (by omega)) HD.out 60 (by omega) HG2.out (fun e => by have h1 := HG.out.lt; have h2 := HLB.out.ext.size; have := HDE.out; simp at e; omega)).mono ?_
  rintro e w3 ho
  rw [open_new] at ho
  obtain ⟨lg, oa, oc, K0, F, rfl, hla, hfr, hk0, -⟩ := ho.good rfl
  simp only at hla hk0
  obtain rfl : K0 = [] := by
    cases K0 with
    | nil => rfl
    | cons x K => simp [bsl] at hk0
  have H0 : Hid (LastAt w1 lg d 0 [] 0 (log0 60) (newDisk 100000) F w3) := Lib.hid (by
    obtain ⟨B', h1, h2, h3⟩ := ho.disk
    refine ⟨hla, fun b hb => ?_, newDisk_inv' (by omega) (by omega), ((Chg.of_ext (S := (· ∈ [d, w1.heap.size])) HX2.out).trans h2 (fun _ _ e => e)).ext (fun i hi e => by have := HDE.out; simp at e; omega), .inl ⟨rfl, rfl, rfl, rfl⟩, rfl⟩
    rcases hfr b hb with e | e
    · have := HDE.out; simp at e; omega
    · have := HX2.out.size; omega)
  clear ho hla hfr hk0 HD HX2 HDE HG2
  have hb1 := HB.out
  obtain ⟨V0, B0, hlog0, hF0⟩ := H0.out.log
  have HL0 := Lib.hid hlog0
  have HF0 := Lib.hid hF0
  clear hlog0 hF0
  go_wp2_with fail
  refine (disk_cut HL0.out.disk (p : Int)).mono ?_
  rintro e w4 ⟨rfl, ht⟩
  have H1 : Hid (∃ F, LastAt w1 lg d 0 [] 0 (log0 60) ((newDisk 100000).cut (p : Int)) F w4) := Lib.hid (by
    have h1 := HL0.out.toDisk ht
    rw [← HF0.out] at h1
    obtain ⟨F1, e1, e2, e3⟩ := h1.fresh H0.out.ext H0.out.fr
    exact ⟨F1, e1, e3, H0.out.inv.cut (by omega), e2, .inl ⟨rfl, rfl, rfl, rfl⟩, rfl⟩)
  clear ht HL0 HF0 hb1 H0 HB
  have HGW : Hid (HasET w1) := Lib.hid (HG.out.ext HLB.out.ext)
  have HGB : Hid (∀ b, w1.heap.size ≤ b → 0 ≠ b) := Lib.hid (fun b hb e => by have h1 := HGW.out.lt; omega)
  have HEXT := Lib.hid HLB.out.ext
  have HK4 := Lib.hid (HK3.out.ext HLB.out.ext)
  have HLEN := Lib.hid (bsl_len K)
  have hkl := HKL.out
  clear HG HK3
  go_upto_block 0 with fail
  go_cut [12, 13, 14] (fun s12 s13 s14 wx => ∃ ad sn i : Nat, s12 = .int .i64 (ad : Int) ∧ s13 = .int .i64 (sn : Int) ∧ s14 = .int .i64 (i : Int) ∧ ad ≤ K.length ∧ Hid (DoneAt w1 d 1000 ((bsl K).take ad) sn wx))
  case first =>
    go_wp2_with fail
    go_loopw [12, 13, 14] (fun s12 s13 s14 wr => ∃ (i sn : Nat), s12 = .int .i64 (i : Int) ∧ s13 = .int .i64 (sn : Int) ∧ s14 = .int .i64 (i : Int) ∧ i ≤ K.length ∧ Hid (∃ L S F, LastAt w1 lg d (4 * i) ((bsl K).take i) sn L S F wr)) (fun _ _ s14 _ => K.length - (RowKit.intOf s14).toNat)
    case atStart => exact ⟨0, 0, by go_num, by go_num, by go_num, by omega, Lib.hid (by obtain ⟨F, h⟩ := H1.out; exact ⟨_, _, F, h⟩)⟩
    case round =>
      clear H1
      obtain ⟨i, sn, rfl, rfl, rfl, hi, HH⟩ := hrel
      rcases Nat.lt_or_ge i K.length with hlt | hge
      · obtain ⟨kb, ko, x, rfl, hx, cx⟩ := bls_src (HLB.out.row.src (bsv_one _)) hlt
        have hmem : x ∈ K := List.mem_of_getElem? hx
        have hxl : x.l.length ≤ 8 := HSM.out x.l (List.mem_map.2 ⟨x, hmem, rfl⟩)
        have HXO := Lib.hid (HLB.out.ok x hmem)
        have HXL := Lib.hid hxl
        have HCX := Lib.hid (fun W (hW : Ext w1 W) => (hW.cell (World.block_lt_of_cell? w1 _ cx)).trans cx)
        have HNX : Hid ((bsl K).take (i + 1) = (bsl K).take i ++ [x.l]) := Lib.hid (by rw [List.take_add_one]; simp [bsl, hx])
        have HTS : Hid (∀ r ∈ (bsl K).take i, r.length ≤ 8) := Lib.hid (fun r hr => HSM.out r (List.mem_of_mem_take hr))
        have HTL : Hid (((bsl K).take i).length = i) := Lib.hid (by rw [List.length_take, bsl_len]; omega)
        have HSM1 : Hid (∀ r ∈ (bsl K).take (i + 1), r.length ≤ 8) := Lib.hid (fun r hr => HSM.out r (List.mem_of_mem_take hr))
        clear hxl hx cx hmem
        obtain ⟨L, S, F, hat⟩ := HH.out
        have HAT := Lib.hid hat
        clear HH hat
        have cx := HCX.out wr HAT.out.ext
        have hbd := HAT.out.now.bd (by rw [HTL.out]; omega) HTS.out
        have HBD := Lib.hid hbd
        clear hbd
        go_wp2_with fail
        refine (logadd_any (N := 10000) (by omega) HAT.out.inv HAT.out.log (by omega) HBD.out.1 (by have := HBD.out.2.1; omega) x.a x.n x.c x.l (HXO.out.src.ext HAT.out.ext)).mono ?_
        rintro e w5 ⟨rfl, ht⟩
        have hadd := HAT.out.add (by rw [HTL.out]; omega) HXL.out ht
        generalize addW L S x.l = R at hadd
        obtain ⟨y, L1, S1⟩ := R
        simp only at hadd ⊢
        clear ht cx
        rcases hadd with ⟨h0, F5, h5⟩ | ⟨h0, h5⟩
        · obtain rfl := h0
          rw [← HNX.out] at h5
          have H5 := Lib.hid h5
          clear h5
          rcases Nat.eq_zero_or_pos ((i + 1) % 3) with hm | hm
          · have hm2 : ((i : Int).tmod 3 == 2) = true := by
              have : (i : Int).tmod 3 = ((i % 3 : Nat) : Int) := rfl
              rw [this]; simp; omega
            have hbd := H5.out.now.bd (by rw [List.length_take, bsl_len]; omega) HSM1.out
            have HBD1 := Lib.hid hbd
            have HTL1 : Hid (((bsl K).take (i + 1)).length = i + 1) := Lib.hid (by rw [List.length_take, bsl_len]; omega)
            clear hbd
            go_wp2_with fail
            refine (logsync_any (k := 4 * i + 2) (by omega) H5.out.inv H5.out.log HBD1.out.1.dirty (fun f hf => by have := HBD1.out.2.2 f hf; omega) (by have := HBD1.out.2.1; omega)).mono ?_
            rintro e w6 ⟨rfl, ht⟩
            have hsy := H5.out.sync (by rw [HTL1.out]; omega) ht
            generalize syncW L1 S1 = R2 at hsy
            obtain ⟨y2, L2, S2⟩ := R2
            simp only at hsy ⊢
            clear ht
            rcases hsy with ⟨h0, F6, h6⟩ | ⟨h0, h6⟩
            · obtain rfl := h0
              rw [HTL1.out] at h6
              have H6 := Lib.hid h6
              clear h6
              go_wp2_with fail
              go_roundw
              case rel => exact ⟨i + 1, i + 1, by go_num, by go_num, by go_num, by omega, Lib.hid ⟨_, _, F6, H6.out.mono (by omega)⟩⟩
              case measure => simp [RowKit.intOf]; omega
            · have hy2 : (y2 == 0) = false := by simpa using h0
              have H6 := Lib.hid h6
              clear h6 h0
              go_wp2_with fail
              go_meet
              case rel => exact ⟨i + 1, sn, i, by go_num, rfl, rfl, by omega, Lib.hid (H6.out.mono (by omega))⟩
          · have hm2 : ((i : Int).tmod 3 == 2) = false := by
              have : (i : Int).tmod 3 = ((i % 3 : Nat) : Int) := rfl
              rw [this]; simp; omega
            go_wp2_with fail
            go_roundw
            case rel => exact ⟨i + 1, sn, by go_num, rfl, by go_num, by omega, Lib.hid ⟨_, _, F5, H5.out.mono (by omega)⟩⟩
            case measure => simp [RowKit.intOf]; omega
        · have hy : (y == 0) = false := by simpa using h0
          have H5 := Lib.hid h5
          clear h5 h0
          go_wp2_with fail
          go_meet
          case rel => exact ⟨i, sn, i, rfl, rfl, rfl, by omega, Lib.hid (H5.out.mono (by omega))⟩
      · obtain rfl : i = K.length := by omega
        go_wp2_with fail
        go_meet
        case rel => exact ⟨K.length, sn, K.length, rfl, rfl, rfl, by omega, Lib.hid (by obtain ⟨L, S, F, h⟩ := HH.out; exact h.done.mono (by omega))⟩
  case rest =>
    obtain ⟨ad, sn, iz, rfl, rfl, rfl, had, HDN⟩ := hcut
    clear H1
    obtain ⟨⟨S, B, hdk, hfb, hin, hfa, hroom⟩, hxc⟩ := HDN.out
    have HDK := Lib.hid hdk
    have HFB := Lib.hid hfb
    have HIN := Lib.hid hin
    have HFA := Lib.hid hfa
    have HRM := Lib.hid hroom
    have HXC := Lib.hid hxc
    have HTL : Hid (((bsl K).take ad).length = ad) := Lib.hid (by rw [List.length_take, bsl_len]; omega)
    have HTS : Hid (∀ r ∈ (bsl K).take ad, r.length ≤ 8) := Lib.hid (fun r hr => HSM.out r (List.mem_of_mem_take hr))
    clear hdk hfb hin hfa hroom hxc HDN
    go_wp2_with fail
    refine (disk_crash HIN.out.ok HDK.out _ _ _ kp (HK4.out.ext HXC.out) hn3).mono ?_
    rintro e w6 ⟨dn, BC, rfl, hdc, hxd, hbc⟩
    have HX6 := Lib.hid (HXC.out.trans hxd)
    have HDC := Lib.hid hdc
    have HBC : Hid (∀ b ∈ BC, w1.heap.size ≤ b) := Lib.hid (fun b hb => by have := hbc b hb; have := HXC.out.size; omega)
    have HIC := Lib.hid (HIN.out.crashed kp)
    obtain ⟨hca, hcl, hcr⟩ := crash_A HFA.out (by rw [HTL.out]; omega) kp
    obtain ⟨gs, T, hop, hTF, hTl, hTr, hnes, hpre, hsn⟩ := open_A hca HIC.out hcl (hcr.trans HRM.out) (by rw [HTL.out]; omega) HTS.out
    have HOP := Lib.hid hop
    obtain ⟨m, hm⟩ : ∃ m, m = gs.flatten.length := ⟨_, rfl⟩
    have hma : m ≤ ad := by rw [hm, ← HTL.out]; exact hpre.length_le
    have hsm : sn ≤ m := by rw [hm]; exact hsn
    have HGS : Hid (gs.flatten = (bsl K).take m) := Lib.hid (by
      have h1 := List.prefix_iff_eq_take.1 hpre
      rw [← hm, List.take_take, Nat.min_eq_left hma] at h1
      exact h1)
    have HT := Lib.hid (And.intro hTF (And.intro hTl (And.intro hTr hnes)))
    have HM := Lib.hid hm
    clear hdc hxd hbc hca hcl hcr hop hTF hTl hTr hnes hpre hsn hm HDK HFB HIN HFA HRM HXC
    go_wp2_with fail
    refine (logopen_any (k := 0) (by omega) HIC.out HDC.out 60 (by omega) (HGW.out.ext HX6.out) (fun hm => HGB.out _ (HBC.out _ hm) rfl)).mono ?_
    rintro e w7 ho
    have hi7 := openW_inv HIC.out 60
    rw [HOP.out] at ho hi7
    have HI7 := Lib.hid hi7
    obtain ⟨lg7, a7, c7, K7, F7, rfl, hla7, hF7, hk7, hsrc7, hok7, -⟩ := ho.good rfl
    simp only at hla7 hk7
    obtain ⟨B7', -, hc7, -⟩ := ho.disk
    have HX7 : Hid (Ext w1 w7) := Lib.hid (((Chg.of_ext (S := (· ∈ BC)) HX6.out).trans hc7 (fun _ _ e => e)).ext (fun b hb e => by have := HBC.out b e; omega))
    have HF7 : Hid (∀ b ∈ F7, w1.heap.size ≤ b) := Lib.hid (fun b hb => by
      rcases hF7 b hb with e | e
      · exact HBC.out b e
      · have := HX6.out.size; omega)
    have hK7 : K7.length = m := by rw [← bsl_len, hk7, HM.out]
    have HK7 : Hid (bsl K7 = (bsl K).take m) := Lib.hid (hk7.trans HGS.out)
    rw [hK7] at hsrc7 ⊢
    have HSRC7 := Lib.hid hsrc7
    have HOK7 := Lib.hid hok7
    obtain ⟨V7, B7, hlog7, hF7e⟩ := hla7
    have HLG7 := Lib.hid hlog7
    have HFE7 := Lib.hid hF7e
    have HTS8 : Hid (∀ r ∈ gs.flatten, r.length ≤ 8) := Lib.hid (fun r hr => by rw [HGS.out] at hr; exact HSM.out r (List.mem_of_mem_take hr))
    have hms : decide (m < sn) = false := decide_eq_false (by omega)
    have hma2 : decide (ad < m) = false := decide_eq_false (by omega)
    have hmk : m ≤ K.length := by omega
    clear ho hF7 hk7 hsrc7 hok7 hlog7 hF7e hc7 hK7 HX6 HDC HBC HIC
    go_wp2_with fail
    refine (lognext_any HLG7.out.raw).mono ?_
    rintro e w8 ⟨rfl, rfl⟩
    rw [show (LG gs false).next = m from HM.out.symm]
    go_wp2_with fail
    clear hms hma2 hma hsm had
    go_loopw [18] (fun s18 wr => ∃ j : Nat, s18 = .int .i64 (j : Int) ∧ j ≤ m ∧ Hid (Ext w7 wr)) (fun s18 _ => m - (RowKit.intOf s18).toNat)
    case atStart => exact ⟨0, by go_num, by omega, Lib.hid (Ext.refl _)⟩
    case round =>
      obtain ⟨j, rfl, hj, HE⟩ := hrel
      rcases Nat.lt_or_ge j m with hlt | hge
      · have hjn : j < K.length := by omega
        obtain ⟨rb7, ro7, x9, rfl, hx9, c9⟩ := bls_src HSRC7.out hlt
        obtain ⟨lb0, lo0, xl, rfl, hxl, cl⟩ := bls_src (HLB.out.row.src (bsv_one _)) hjn
        have heq : x9.l = xl.l := by
          have h1 : (bsl K7)[j]? = some x9.l := by simp [bsl, hx9]
          have h2 : (bsl K)[j]? = some xl.l := by simp [bsl, hxl]
          rw [HK7.out, List.getElem?_take_of_lt hlt, h2] at h1
          exact (Option.some.inj h1).symm
        obtain ⟨TX, hTX⟩ : ∃ TX : ByteArray, TX = ⟨xl.l.toArray⟩ := ⟨_, rfl⟩
        have hex : ∀ (d : Nat) (f : Nat → Obj) (os : Array Obj), Ext wr (turned wr (fun _ => false) d f os) := fun d f os => (chg_turned wr (fun _ => false) d f os).ext (fun i hi e => by simp at e)
        have HXR := Lib.hid (HX7.out.trans HE.out)
        have f0 := cell_turned (T := fun _ => false) ((HE.out.cell (World.block_lt_of_cell? w7 _ c9)).trans c9) rfl
        have f1 := cell_turned (T := fun _ => false) ((HXR.out.cell (World.block_lt_of_cell? w1 _ cl)).trans cl) rfl
        have g0 : ∀ (d : Nat) (f : Nat → Obj) (os : Array Obj), (Go.convert 22 9 (.slice x9.a x9.n x9.c)).run Tryd.prog (turned wr (fun _ => false) d f os) = .ok (.string TX) (turned wr (fun _ => false) d f os) := fun d f os => by rw [hTX, ← heq]; exact byt_conv ((HOK7.out x9 (List.mem_of_getElem? hx9)).src.ext (HE.out.trans (hex d f os)))
        have g1 : ∀ (d : Nat) (f : Nat → Obj) (os : Array Obj), (Go.convert 22 9 (.slice xl.a xl.n xl.c)).run Tryd.prog (turned wr (fun _ => false) d f os) = .ok (.string TX) (turned wr (fun _ => false) d f os) := fun d f os => by rw [hTX]; exact byt_conv ((HLB.out.ok xl (List.mem_of_getElem? hxl)).src.ext (HXR.out.trans (hex d f os)))
        have hse : (TX.toList != TX.toList) = false := bne_self_eq_false _
        clear hTX hex heq hxl hx9 c9 cl
        go_wp2_with fail
        refine wp_region_plan 10 (fun w' => ∃ z : Turned, w' = turned wr (fun _ => false) z.d z.f z.os) (.reads [0, 1, 2, 3, 4, 5, 6, 7, 8, 9] (.one 10 .done)) (by kernel_rfl) (by kernel_rfl) (fun _ _ dd _ _ hh => by cases dd <;> exact hh) ?_ ?_
        · exact turned_of_ext (Ext.drewN wr 1)
        refine wpPlan_reads ?_
        simp only [pickOps, List.getElem?_cons_succ, List.getElem?_cons_zero]
        repeat (go_big_quiet_step (fail))
        refine wpQuiet_nil ?_
        clear f0 f1 g0 g1
        refine wpPlan_one ?_
        simp only [pickOps, List.getElem?_cons_succ, List.getElem?_cons_zero]
        go_wp2_with fail
        refine thenX_last (wpPlan_done ?_)
        go_wp2_with fail
        go_roundw
        case rel => exact ⟨j + 1, by go_num, by omega, Lib.hid (HE.out.trans (Ext.drewN wr 1))⟩
        case measure => simp [RowKit.intOf]; omega
      · have hop2 : openW T 60 = ⟨0, LG gs false, T, gs.flatten⟩ := openW_groups HT.out.1 HT.out.2.2.2 (fun g hg r hr => by have := HTS8.out r (List.mem_flatten.2 ⟨g, hg, hr⟩); omega) (by rw [← HM.out]; omega)
        have HOP2 := Lib.hid hop2
        have HL8 := Lib.hid (HLG7.out.ext HE.out)
        have HXR := Lib.hid (HX7.out.trans HE.out)
        have HB7 : Hid (∀ b ∈ B7, w1.heap.size ≤ b) := Lib.hid (fun b hb => HF7.out b (by rw [HFE7.out]; exact lfoot_disk hb))
        clear hop2
        go_wp2_with fail
        refine (logopen_any (k := 0 + 2048) (by omega) HI7.out HL8.out.disk 60 (by omega) (HGW.out.ext HXR.out) (fun hm => HGB.out _ (HB7.out _ hm) rfl)).mono ?_
        rintro e w9 ho
        rw [HOP2.out] at ho
        obtain ⟨lg9, a9, c9, K9, F9, rfl, -, -, hk9, -⟩ := ho.good rfl
        simp only at hk9
        have hK9 : K9.length = m := by rw [← bsl_len, hk9, HM.out]
        rw [hK9]
        obtain ⟨FA, hla, hxa, hfa⟩ := (HL8.out.toDisk ho.disk).fresh HXR.out (by rw [← HFE7.out]; exact HF7.out)
        have HLA := Lib.hid hla
        have HXA := Lib.hid hxa
        clear ho hk9 hK9 hla hxa
        have HFA := Lib.hid hfa
        clear hfa
        have kc := fun (w : World) (C : Array Value) (n c : Nat) => Lib.run_convert_bytes_const (P := Tryd.prog) w 22 5 C n c Tryd.underlying22 Tryd.underlying5
        go_wp2_with fail
        clear kc
        generalize hW : World.alloc _ _ = W
        have hsz : Src W 1 (.slice (some ⟨w9.heap.size, 0, none⟩) 1 1) 1 (u8s [120]) := by subst hW; exact byt_src (x := 120) (heap_alloc_new w9 _)
        have hxW : Ext w9 W := by subst hW; exact (Ext.refl _).alloc _
        have hao : (addW (LG gs false) T [120]).1 = 0 := add_ok HT.out.1 HI7.out HT.out.2.1 HT.out.2.2.1 HT.out.2.2.2 (by rw [← HM.out]; omega) HTS8.out (by simp)
        have hbd := LG_bd HT.out.2.2.2 (by rw [← HM.out]; omega) HTS8.out
        have HAO := Lib.hid hao
        have HBD := Lib.hid hbd
        have HLW := Lib.hid (HLA.out.ext hxW)
        have HXW := Lib.hid (HXA.out.trans hxW)
        clear hW hao hbd hxW
        refine (logadd_any (k := 0 + 2048) (N := 10000) (by omega) HI7.out HLW.out (by omega) HBD.out.1 (by have := HBD.out.2; omega) _ 1 1 [120] hsz).mono ?_
        rintro e w10 ⟨rfl, ht⟩
        rw [HAO.out]
        obtain ⟨FB, -, hxb, -⟩ := ht.fresh HXW.out HFA.out
        have HXB := Lib.hid hxb
        clear ht hxb hsz
        go_wp2_with fail
        go_ret
        exact ⟨rfl, HEXT.out.trans HXB.out⟩
end Go.Proofs.YtfablbhkmddnbaaDoor
