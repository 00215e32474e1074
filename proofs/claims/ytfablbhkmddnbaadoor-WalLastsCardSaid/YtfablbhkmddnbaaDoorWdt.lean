/- WalTorn: the walk. -/
import Derived.Test.YtfablbhkmddnbaaDoorWrp
import Derived.Test.YtfablbhkmddnbaaDoorWbt
import Derived.Test.YtfablbhkmddnbaaDoorDiskC
import Derived.Lib.SlBytesConst
import Derived.Test.YtfablbhkmddnbaaDoorWds
import Derived.Test.YtfablbhkmddnbaaDoorWlb
namespace Go.Proofs.YtfablbhkmddnbaaDoor
open Go.RowKit Go.Sort Go.Lib

theorem src_zi1 {W : World} {b : Nat} {z : Int} {t : TypeId} {fr : Nat × Nat} (h : W.heap[b]? = some (.cells #[.int .i64 z] t fr)) : Src W 1 (.slice (some ⟨b, 0, none⟩) 1 1) 1 (zints [z]) := by
  refine .inr ⟨_, _, rfl, rfl, fun j u hj => ?_, fun u hu => by simp [zints] at hu; subst hu; rfl⟩
  rw [Go.WideShapes.add_plain, Nat.zero_add, cell_of_block h]
  simpa [zints] using hj
theorem src_ntI {W : World} {b n : Nat} {x : Int} {t : TypeId} {fr : Nat × Nat} (hx : x = (n : Int)) (h : W.heap[b]? = some (.cells #[.int .i64 x] t fr)) : Src W 1 (.slice (some ⟨b, 0, none⟩) 1 1) 1 (nts [n]) := by
  subst hx
  refine .inr ⟨_, _, rfl, rfl, fun j u hj => ?_, nts_one _⟩
  rw [Go.WideShapes.add_plain, Nat.zero_add, cell_of_block h]
  simpa [nts] using hj
theorem sortF_some {F : Fs} (hn : (F.map (·.1)).Nodup) : ∃ D, SortF D F := by
  have hp := List.mergeSort_perm F (fun p q => decide (bl p.1 ≤ bl q.1))
  have hs : (F.mergeSort (fun p q => decide (bl p.1 ≤ bl q.1))).Pairwise (fun p q => decide (bl p.1 ≤ bl q.1) = true) :=
    List.pairwise_mergeSort (fun a b c h k => by simp only [decide_eq_true_eq] at *; exact List.le_trans h k) (fun a b => by rcases List.le_total (bl a.1) (bl b.1) with h | h <;> simp [h]) F
  refine ⟨_, hp, ?_⟩
  have hn2 : ((F.mergeSort (fun p q => decide (bl p.1 ≤ bl q.1))).map (·.1)).Nodup := (hp.map _).nodup_iff.2 hn
  rw [List.pairwise_map]
  rw [List.nodup_iff_pairwise_ne, List.pairwise_map] at hn2
  refine (hs.and hn2).imp ?_
  rintro p q ⟨h1, h2⟩
  simp only [decide_eq_true_eq] at h1
  rcases Classical.em (bl p.1 < bl q.1) with h | h
  · exact h
  · exact absurd (bl_inj (List.le_antisymm h1 (List.not_lt.1 h))) h2
theorem src_122 {W : World} {b : Nat} {t : TypeId} {fr : Nat × Nat} (h : W.heap[b]? = some (.cells #[.int .u8 122] t fr)) : Src W 1 (.slice (some ⟨b, 0, none⟩) 1 1) 1 (u8s [122]) := byt_src (x := 122) h
theorem LogTo.fresh {w0 w w' : World} {lg d : Nat} {F : List Nat} {L : LogS} {S : DiskS} (h : LogTo w lg d F L S w') (hx : Ext w0 w) (hF : ∀ b ∈ F, w0.heap.size ≤ b) : ∃ F', LogAt w' lg d L S F' ∧ Ext w0 w' ∧ ∀ b ∈ F', w0.heap.size ≤ b := by
  obtain ⟨F', h1, h2, h3⟩ := h
  refine ⟨F', h1, ((Chg.of_ext (S := (· ∈ F)) hx).trans h2 (fun _ _ e => e)).ext (fun b hb e => by have := hF b e; omega), fun b hb => ?_⟩
  rcases h3 b hb with e | e
  · exact hF b e
  · have := hx.size; omega
theorem DInv.crashed {S : DiskS} {k : Nat} (h : DInv S k) (keep : List Int) : DInv (S.crash keep) 0 := by
  obtain ⟨D, hD⟩ := sortF_some h.ok.names
  exact h.crash hD keep

set_option maxHeartbeats 16000000 in
set_option maxRecDepth 100000 in
theorem walTorn_any (w : World) (a : Option Addr) (n c : Nat) (bs : List UInt8) (hs : Src w 1 (.slice a n c) n (u8s bs)) (hn : n ≤ 9223372036854775807) (kp : Int) (hkp : -9223372036854775808 ≤ kp ∧ kp ≤ 9223372036854775807) (hg : HasET w) :
    Calls Tryd.prog 4 #[.slice a n c, .int .i64 kp] w fun e w' => e = .returned (.bool true) ∧ Ext w w' := by
  have HS := Lib.hid hs
  have HG := Lib.hid hg
  have HKP := Lib.hid hkp
  clear hs hg hkp
  go_enter Tryd.func4, Tryd.ntmps4
  go_wp2_with fail
  refine (some_any w a n c bs HS.out hn).mono ?_
  rintro e w1 ⟨ka, kc, K, rfl, hk, hlb⟩
  have HLB := Lib.hid hlb
  have HKL : Hid (K.length ≤ 60) := Lib.hid (by rw [← bsl_len, hk, someL_len]; omega)
  have HSM : Hid (∀ r ∈ bsl K, r.length ≤ 8) := Lib.hid (fun r hr => by rw [hk] at hr; exact (someL_small bs r hr).2)
  clear hk hlb HS
  go_wp2_with fail
  refine (disk_new (by omega) (by omega) w1).mono ?_
  rintro e w2 ⟨rfl, hd, hx⟩
  obtain ⟨d, hde⟩ : ∃ d, d = w1.heap.size + 1 := ⟨_, rfl⟩
  rw [← hde] at hd ⊢
  have HD := Lib.hid hd
  have HX2 := Lib.hid hx
  have HDE := Lib.hid hde
  have HG2 : Hid (HasET w2) := Lib.hid (HG.out.ext (HLB.out.ext.trans hx))
  clear hd hx hde
  go_wp2_with fail
  refine (logopen_any (k := 0) (by omega) (newDisk_inv' (by omega) (by omega)) HD.out 1048576 (by omega) HG2.out (fun e => by have h1 := HG.out.lt; have h2 := HLB.out.ext.size; have := HDE.out; simp at e; omega)).mono ?_
  rintro e w3 ho
  rw [open_new] at ho
  obtain ⟨lg, oa, oc, K0, F, rfl, hla, hfr, hk0, -⟩ := ho.good rfl
  simp only at hla hk0
  obtain rfl : K0 = [] := by
    cases K0 with
    | nil => rfl
    | cons x K => simp [bsl] at hk0
  have H1 : Hid (OneAt w1 lg d 0 1048576 [] F w3) := Lib.hid (by
    obtain ⟨B', h1, h2, h3⟩ := ho.disk
    refine ⟨by rw [L1_nil, S1_nil]; exact hla, fun b hb => ?_, by rw [S1_nil]; exact newDisk_inv' (by omega) (by omega), ((Chg.of_ext (S := (· ∈ [d, w1.heap.size])) HX2.out).trans h2 (fun _ _ e => e)).ext (fun i hi e => by have := HDE.out; simp at e; omega)⟩
    rcases hfr b hb with e | e
    · have := HDE.out; simp at e; omega
    · have := HX2.out.size; omega)
  clear ho hla hfr hk0 HD HX2 HDE HG2
  go_wp2_with fail
  go_loopw [12, 10, 11] (fun s12 s10 s11 wr => ∃ (i : Nat) (ea : Option Addr) (ec : Nat) (F : List Nat), s12 = .int .i64 (i : Int) ∧ i ≤ K.length ∧ s11 = .slice ea i ec ∧ s10 = .int .i64 (((b1 ((bsl K).take i)).length : Nat) : Int) ∧
    Hid (OneAt w1 lg d (2 * i) 1048576 ((bsl K).take i) F wr ∧ Row wr 3 1 (.slice ea i ec) i (nts (endT ((bsl K).take i))) ∧ (∀ g, (Value.slice ea i ec).ownBlock = some g → w1.heap.size ≤ g ∧ g ∉ F))) (fun s12 _ _ _ => K.length - (RowKit.intOf s12).toNat)
  case atStart => exact ⟨0, none, 0, F, by go_num, by omega, rfl, by simp [b1], Lib.hid ⟨H1.out, Row.nil _ _ _, fun g hg => by simp [Value.ownBlock] at hg⟩⟩
  case round =>
    clear H1
    obtain ⟨i, ea, ec, F, rfl, hi, rfl, rfl, HH⟩ := hrel
    have hkl := HKL.out
    rcases Nat.lt_or_ge i K.length with hlt | hge
    · obtain ⟨kb, ko, x, rfl, hx, cx⟩ := bls_src (HLB.out.row.src (bsv_one _)) hlt
      have hmem : x ∈ K := List.mem_of_getElem? hx
      have hxl : x.l.length ≤ 8 := HSM.out x.l (List.mem_map.2 ⟨x, hmem, rfl⟩)
      have hxn : x.n ≤ 8 := by rw [← (HLB.out.ok x hmem).len]; exact hxl
      have HXO := Lib.hid (HLB.out.ok x hmem)
      have HXL := Lib.hid hxl
      have HCX := Lib.hid (fun W (hW : Ext w1 W) => (hW.cell (World.block_lt_of_cell? w1 _ cx)).trans cx)
      have HNX : Hid ((bsl K).take (i + 1) = (bsl K).take i ++ [x.l]) := Lib.hid (by rw [List.take_add_one]; simp [bsl, hx])
      have HTS : Hid (∀ r ∈ (bsl K).take i, r.length ≤ 8) := Lib.hid (fun r hr => HSM.out r (List.mem_of_mem_take hr))
      have HTL : Hid (((bsl K).take i).length = i) := Lib.hid (by rw [List.length_take, bsl_len]; omega)
      have hb1 : (b1 ((bsl K).take (i + 1))).length = (b1 ((bsl K).take i)).length + 22 + x.n := by rw [HNX.out, b1_snoc, List.length_append, recL_len, HXO.out.len]; omega
      have HB1 := Lib.hid hb1
      have HEN : Hid (nts (endT ((bsl K).take (i + 1))) = nts (endT ((bsl K).take i)) ++ nts [(b1 ((bsl K).take i)).length + 22 + x.n]) := Lib.hid (by rw [← hb1, HNX.out, endT_snoc]; simp [nts])
      have hz := b1_small HTS.out
      rw [HTL.out] at hz
      have HONE := Lib.hid HH.out.1
      have HROW := Lib.hid HH.out.2.1
      have HOWN := Lib.hid HH.out.2.2
      clear HH hxl hx cx hmem hb1
      generalize (bsl K).take i = rs at *
      obtain ⟨z, hzz⟩ : ∃ z, z = (b1 rs).length := ⟨_, rfl⟩
      rw [← hzz] at hz HB1 HEN ⊢
      clear hzz
      have cx := HCX.out wr HONE.out.ext
      go_wp2_with fail
      refine (logadd_any (N := 10000) (by omega) HONE.out.inv HONE.out.log (by omega) (L1_bd HTS.out (by rw [HTL.out]; omega) (by omega)) (by have := L1_files (limit := 1048576) (rs := rs); omega) x.a x.n x.c x.l (HXO.out.src.ext HONE.out.ext)).mono ?_
      rintro e w4 ⟨rfl, ht⟩
      obtain ⟨F1, htl, htc, htf⟩ := id ht
      obtain ⟨h0, F', hone, hF'⟩ := HONE.out.add HTS.out HXL.out (by rw [HTL.out]; omega) (by omega) ht
      rw [h0]
      clear cx h0
      have cx := HCX.out w4 hone.ext
      have HO4 := Lib.hid hone
      have HF4 := Lib.hid hF'
      have HROW4 : Hid (Row w4 3 1 (.slice ea i ec) i (nts (endT rs))) := Lib.hid (HROW.out.chg htc (fun g hg => (HOWN.out g hg).2))
      have HOW4 : Hid (∀ g, (Value.slice ea i ec).ownBlock = some g → w1.heap.size ≤ g ∧ g ∉ F') := Lib.hid (fun g hg => ⟨(HOWN.out g hg).1, fun hm => by
        rcases hF' g hm with e | e
        · exact (HOWN.out g hg).2 e
        · have := HROW.out.lt hg; omega⟩)
      clear ht htl htc htf hone hF'
      go_wp2_with (first | (refine wpList_append_to (n := i) (m := 1) elem_nt rfl _ _ rfl (v := .slice ea i ec) rfl rfl (HROW4.out.ext ((Ext.refl w4).alloc _)) (src_ntI (n := z + 22 + x.n) (by omega) (heap_alloc_new w4 _)) (by unfold maxLen; omega) (by omega) ?_; intro v5 w5 happ; obtain ⟨a5, c5, rfl⟩ := happ.row.shape; have H5 := Lib.hid (HO4.out.app ((Ext.refl w4).alloc _) happ HOW4.out); have HR5 := Lib.hid happ.row; have cx5 := HCX.out w5 H5.out.1.ext; clear happ cx))
      go_roundw
      case rel =>
        refine ⟨i + 1, a5, c5, F', by go_num, by omega, rfl, ?_, Lib.hid ⟨?_, ?_, ?_⟩⟩
        · rw [HB1.out]; go_num
        · rw [HNX.out]; exact H5.out.1
        · rw [HEN.out]; exact HR5.out
        · exact H5.out.2
      case measure => simp [RowKit.intOf]; omega
    · obtain rfl : i = K.length := by omega
      have hall : (bsl K).take K.length = bsl K := List.take_of_length_le (by rw [bsl_len]; omega)
      rw [hall] at HH ⊢
      have HO := Lib.hid HH.out.1
      have HR := Lib.hid HH.out.2.1
      obtain ⟨V, B, hlog, hFe⟩ := HH.out.1.log
      have HD := Lib.hid hlog.disk
      have HGW : Hid (HasET w1) := Lib.hid (HG.out.ext HLB.out.ext)
      have HGB : Hid (∀ b, w1.heap.size ≤ b → 0 ≠ b) := Lib.hid (fun b hb e => by have h1 := HGW.out.lt; omega)
      have HLEN := Lib.hid (bsl_len K)
      have HEXT := Lib.hid HLB.out.ext
      clear HH hlog hFe hall hi hge HG
      obtain ⟨kn, hKN⟩ : ∃ kn, kn = K.length := ⟨_, rfl⟩
      rw [← hKN] at HO HR HLEN HKL hkl ⊢
      have HLB' := HLB
      rw [← hKN] at HLB'
      clear HLB
      obtain ⟨rs, hrs⟩ : ∃ rs, rs = bsl K := ⟨_, rfl⟩
      rw [← hrs] at HO HR HLEN HSM HD ⊢
      have HRS := Lib.hid hrs
      clear hrs
      have hN6 := b1_small HSM.out
      rw [HLEN.out] at hN6
      obtain ⟨N, hN⟩ : ∃ N, N = (b1 rs).length := ⟨_, rfl⟩
      rw [← hN] at hN6 ⊢
      have HN := Lib.hid hN
      clear hN
      obtain ⟨r1, r2, r3, r4⟩ := bits_range kp (N + 1) (by omega)
      rw [show ((N + 1 : Nat) : Int) = (N : Int) + 1 by push_cast; rfl, ← Int.add_assoc] at r1 r2
      rw [show ((N + 1 : Nat) : Int) = (N : Int) + 1 by push_cast; rfl] at r3 r4
      obtain ⟨p, hp⟩ : ∃ p : Nat, (kp.tmod ((N : Int) + 1) + (N : Int) + 1) % ((N : Int) + 1) = (p : Int) := ⟨_, (Int.toNat_of_nonneg r1).symm⟩
      have hpn : p ≤ N := by have := hp; have := r2; omega
      have HP := Lib.hid hp
      have hN0i : ((N : Int) + 1 == 0) = false := by simp; omega
      have hkp := HKP.out
      go_upto_region 18 with fail
      try rw [HP.out]
      clear r1 r2 r3 r4 hp hkp
      have HAX : Hid (Ext w1 (wr.alloc (.cells #[.int .i64 (p : Int)] 3 (0, 0)))) := Lib.hid (HO.out.ext.trans ((Ext.refl wr).alloc _))
      go_wp2_with fail
      refine (disk_crash HO.out.inv.ok (HD.out.ext ((Ext.refl wr).alloc _)) _ 1 1 [(p : Int)] (src_zi1 (heap_alloc_new wr _)) (by omega)).mono ?_
      rintro e w4 ⟨dn, BC, rfl, hdc, hxc, hbc⟩
      have HX4 := Lib.hid (HAX.out.trans hxc)
      have HDC := Lib.hid hdc
      have HBC : Hid (∀ b ∈ BC, w1.heap.size ≤ b) := Lib.hid (fun b hb => by have := hbc b hb; have := HAX.out.size; omega)
      have HIC := Lib.hid (HO.out.inv.crashed [(p : Int)])
      have HR4 := Lib.hid (HR.out.ext (((Ext.refl wr).alloc _).trans hxc))
      clear hdc hxc hbc HAX HR HD HO
      go_upto_block 2 with fail
      go_cut [14] (fun s14 wx => ∃ k : Nat, s14 = .int .i64 (k : Int) ∧ k ≤ kn ∧ wx = w4 ∧ Hid ((b1 (rs.take k)).length ≤ p ∧ (k < kn → p < (b1 (rs.take (k + 1))).length)))
      case first =>
        go_wp2_with fail
        go_loopw [14] (fun s14 wz => ∃ k : Nat, s14 = .int .i64 (k : Int) ∧ k ≤ kn ∧ wz = w4 ∧ Hid ((b1 (rs.take k)).length ≤ p)) (fun s14 _ => kn - (RowKit.intOf s14).toNat)
        case atStart => exact ⟨0, by go_num, by omega, rfl, Lib.hid (by simp [b1])⟩
        case round =>
          obtain ⟨k, rfl, hk, rfl, HI⟩ := hrel
          rcases Nat.lt_or_ge k kn with hlt | hge
          · obtain ⟨eb, eo, e, rfl, he, ce⟩ := nts_src (HR4.out.src (nts_one _)) hlt
            obtain ⟨_, hee⟩ := endT_get he
            have HEE := Lib.hid hee
            have hle : e ≤ N := by
              rw [hee, HN.out]
              have h1 := congrArg List.length (congrArg b1 (List.take_append_drop (k + 1) rs))
              rw [b1_app, List.length_append] at h1
              omega
            clear he hee
            rcases Nat.lt_or_ge p e with hpe | hpe
            · go_wp2_with fail
              go_meet
              case rel => exact ⟨k, rfl, hk, rfl, Lib.hid ⟨HI.out, fun _ => by rw [← HEE.out]; exact hpe⟩⟩
            · go_wp2_with fail
              go_roundw
              case rel => exact ⟨k + 1, by go_num, hlt, by first | trivial | rfl, Lib.hid (by rw [← HEE.out]; exact hpe)⟩
              case measure => simp [RowKit.intOf]; omega
          · go_wp2_with fail
            go_meet
            case rel => exact ⟨k, rfl, hk, rfl, Lib.hid ⟨HI.out, fun h => by omega⟩⟩
      case rest =>
        obtain ⟨k, rfl, hk, rfl, HI⟩ := hcut
        have HTW : Hid (∀ r ∈ rs.take k, r.length ≤ 8) := Lib.hid (fun r hr => HSM.out r (List.mem_of_mem_take hr))
        have HTL : Hid ((rs.take k).length = k) := Lib.hid (by rw [List.length_take, HLEN.out]; omega)
        obtain ⟨la, sy, o, hot⟩ := open_torn (limit := 1048576) (room := 100000) (rs := rs) (keep := p) (whole := k) (fun r hr => by have := HSM.out r hr; omega) (by rw [← HN.out]; omega) (by rw [HLEN.out]; omega) HI.out.1 (fun h => HI.out.2 (by rw [← HLEN.out]; exact h)) (by rw [← HN.out]; omega) (by rw [← HN.out]; omega)
        have HOT := Lib.hid hot
        clear hot
        go_wp2_with fail
        refine (logopen_any (k := 0) (by omega) HIC.out HDC.out 1048576 (by omega) (HGW.out.ext HX4.out) (fun hm => HGB.out _ (HBC.out _ hm) rfl)).mono ?_
        rintro e w5 ho
        have HI5 := Lib.hid (openW_inv HIC.out 1048576)
        rw [HOT.out] at ho HI5
        obtain ⟨lg5, a5, c5, K5, F5, rfl, hla5, hF5, hk5, -⟩ := ho.good rfl
        simp only at hla5 hk5 HI5
        obtain ⟨B5', -, hc5, -⟩ := ho.disk
        have HX5 : Hid (Ext w1 w5) := Lib.hid (((Chg.of_ext (S := (· ∈ BC)) HX4.out).trans hc5 (fun _ _ e => e)).ext (fun b hb e => by have := HBC.out b e; omega))
        have HF5 : Hid (∀ b ∈ F5, w1.heap.size ≤ b) := Lib.hid (fun b hb => by
          rcases hF5 b hb with e | e
          · exact HBC.out b e
          · have := HX4.out.size; omega)
        have hK5 : K5.length = k := by rw [← bsl_len, hk5]; exact HTL.out
        rw [hK5]
        have HLA5 := Lib.hid hla5
        obtain ⟨V5, B5, hlog5, -⟩ := hla5
        have HRAW5 := Lib.hid hlog5.raw
        clear ho hF5 hk5 hc5 hlog5 hK5
        generalize hws : rs.take k = ws at *
        have HWS := Lib.hid hws
        clear hws
        go_wp2_with fail
        refine (lognext_any HRAW5.out).mono ?_
        rintro e w6 ⟨rfl, rfl⟩
        rw [show (L2 1048576 ws false).next = k from HTL.out]
        have kc := fun (w : World) (C : Array Value) (n c : Nat) => Lib.run_convert_bytes_const (P := Tryd.prog) w 22 5 C n c Tryd.underlying22 Tryd.underlying5
        go_wp2_with fail
        clear kc
        generalize hW : World.alloc _ _ = W
        have hsz : Src W 1 (.slice (some ⟨w5.heap.size, 0, none⟩) 1 1) 1 (u8s [122]) := by subst hW; exact src_122 (heap_alloc_new w5 _)
        have hxW : Ext w5 W := by subst hW; exact (Ext.refl _).alloc _
        have HXW := Lib.hid (HX5.out.trans hxW)
        have HLW := Lib.hid (HLA5.out.ext hxW)
        obtain ⟨la2, sy2, hadd⟩ := addW_two (limit := 1048576) (room := 100000) (o := o) (rs := ws) (r := [122]) (la := la) (sy := sy) (d := false) (by have := b1_small HTW.out; rw [HTL.out] at this; omega) (by simp) (by have := b1_small HTW.out; rw [HTL.out] at this; simp; omega) (by have := b1_small HTW.out; rw [HTL.out] at this; simp; omega)
        have HADD := Lib.hid hadd
        have HI7 := Lib.hid (addW_inv (L := L2 1048576 ws false) HI5.out [122])
        rw [HADD.out] at HI7
        clear hW hxW hadd
        refine (logadd_any (N := 10000) (by omega) HI5.out HLW.out (by omega) (L2_bd HTW.out (by rw [HTL.out]; omega) (by omega) (fun h => by cases h)) (by have := (L2_files (limit := 1048576) (rs := ws) (d := false)).1; omega) _ 1 1 [122] hsz).mono ?_
        rintro e w7 ⟨rfl, ht⟩
        rw [HADD.out] at ht ⊢
        obtain ⟨F7, hla7, hx7, hf7⟩ := ht.fresh HXW.out HF5.out
        have HLA7 := Lib.hid hla7
        have HX7 := Lib.hid hx7
        have HF7 := Lib.hid hf7
        clear ht hla7 hx7 hf7 hsz
        go_wp2_with fail
        have hsy := syncW_two (limit := 1048576) (room := 100000) (o := o + 1) (rs := ws ++ [[122]]) (la := la2) (sy := sy2) (by simp)
        have HSY := Lib.hid hsy
        have HI8 := Lib.hid (syncW_inv (L := L2 1048576 (ws ++ [[122]]) true) HI7.out)
        rw [HSY.out] at HI8
        clear hsy
        refine (logsync_any (k := 0 + 2048 + 2) (by omega) HI7.out HLA7.out (fun _ => by simp [L2]) (fun f hf => by have := (L2_files (limit := 1048576) (rs := ws ++ [[122]]) (d := true)).2 f hf; omega) (by have := (L2_files (limit := 1048576) (rs := ws ++ [[122]]) (d := true)).1; omega)).mono ?_
        rintro e w8 ⟨rfl, ht⟩
        rw [HSY.out] at ht ⊢
        obtain ⟨F8, hla8, hx8, hf8⟩ := ht.fresh HX7.out HF7.out
        obtain ⟨V8, B8, hlog8, hF8e⟩ := hla8
        have HD8 := Lib.hid hlog8.disk
        have HX8 := Lib.hid hx8
        have HB8 : Hid (∀ b ∈ B8, w1.heap.size ≤ b) := Lib.hid (fun b hb => hf8 b (by rw [hF8e]; exact lfoot_disk hb))
        clear ht hlog8 hF8e hx8 hf8 HLA7 HX7 HF7 HLW HXW HLA5 HRAW5 HX5 HF5 HIC HDC HBC HX4 HR4 HOT
        go_wp2_with fail
        have hws8 : ∀ r ∈ ws ++ [[122]], r.length ≤ 65536 := fun r hr => by
          rcases List.mem_append.1 hr with h | h
          · have := HTW.out r h; omega
          · simp at h; subst h; simp
        have HOW := Lib.hid (openW_two (limit := 1048576) (room := 100000) (o := o + 1 + 1) (rs := ws ++ [[122]]) (la := (b1 (ws ++ [[122]])).length) (sy := true) hws8)
        clear hws8
        refine (logopen_any (k := 0 + 2048 + 2 + 1) (by omega) HI8.out HD8.out 1048576 (by omega) (HGW.out.ext HX8.out) (fun hm => HGB.out _ (HB8.out _ hm) rfl)).mono ?_
        rintro e w9 ho
        rw [HOW.out] at ho
        obtain ⟨lg9, a9, c9, K9, F9, rfl, -, -, hk9, hsrc9, hok9, -⟩ := ho.good rfl
        simp only at hk9
        obtain ⟨B9', -, hc9, -⟩ := ho.disk
        have HX9 : Hid (Ext w1 w9) := Lib.hid (((Chg.of_ext (S := (· ∈ B8)) HX8.out).trans hc9 (fun _ _ e => e)).ext (fun b hb e => by have := HB8.out b e; omega))
        have hK9 : K9.length = k + 1 := by rw [← bsl_len, hk9, List.length_append, HTL.out]; rfl
        have HK9 := Lib.hid hk9
        rw [hK9] at hsrc9 ⊢
        have HSRC9 := Lib.hid hsrc9
        have HOK9 := Lib.hid hok9
        clear ho hk9 hsrc9 hok9 hc9 HOW HD8 HX8 HB8 HI8 HSY HI7 HADD HI5
        obtain ⟨zb, zo, xz, rfl, hxz, cz⟩ := bls_src HSRC9.out (show k < k + 1 by omega)
        have hxl : xz.l = [122] := by
          have h1 : (bsl K9)[k]? = some xz.l := by simp [bsl, hxz]
          rw [HK9.out, List.getElem?_append_right (by rw [HTL.out]; omega), HTL.out, Nat.sub_self] at h1
          simpa using h1.symm
        have hcv : (Go.convert 22 9 (.slice xz.a xz.n xz.c)).run Tryd.prog w9 = .ok (.string ⟨#[122]⟩) w9 := by
          have := byt_conv (HOK9.out xz (List.mem_of_getElem? hxz)).src
          rw [hxl] at this
          exact this
        have hse : ((⟨#[122]⟩ : ByteArray).toList != (⟨#[122]⟩ : ByteArray).toList) = false := bne_self_eq_false _
        clear hxz hxl
        go_wp2_with fail
        clear cz hcv hse
        go_loopw [17] (fun s17 wr => ∃ j : Nat, s17 = .int .i64 (j : Int) ∧ j ≤ k ∧ Hid (Ext w9 wr)) (fun s17 _ => k - (RowKit.intOf s17).toNat)
        case atStart => exact ⟨0, by go_num, by omega, Lib.hid (Ext.refl _)⟩
        case round =>
          obtain ⟨j, rfl, hj, HE⟩ := hrel
          rcases Nat.lt_or_ge j k with hlt | hge
          · have hjn : j < kn := by omega
            have hrow : Row w1 22 1 (.slice ka kn kc) kn (bsv K) := by have := HLB'.out.row; rw [← hKN] at this; exact this
            obtain ⟨_, _, x9, hza, hx9, c9⟩ := bls_src HSRC9.out (show j < k + 1 by omega)
            cases hza
            obtain ⟨lb0, lo0, xl, rfl, hxl, cl⟩ := bls_src (hrow.src (bsv_one _)) hjn
            have heq : x9.l = xl.l := by
              have h1 : (bsl K9)[j]? = some x9.l := by simp [bsl, hx9]
              have h2 : (bsl K)[j]? = some xl.l := by simp [bsl, hxl]
              rw [HK9.out, List.getElem?_append_left (by rw [HTL.out]; exact hlt), ← HWS.out, List.getElem?_take_of_lt hlt, HRS.out, h2] at h1
              exact (Option.some.inj h1).symm
            obtain ⟨TX, hTX⟩ : ∃ TX : ByteArray, TX = ⟨xl.l.toArray⟩ := ⟨_, rfl⟩
            have hex : ∀ (d : Nat) (f : Nat → Obj) (os : Array Obj), Ext wr (turned wr (fun _ => false) d f os) := fun d f os => (chg_turned wr (fun _ => false) d f os).ext (fun i hi e => by simp at e)
            have HXR := Lib.hid (HX9.out.trans HE.out)
            have f0 := cell_turned (T := fun _ => false) ((HE.out.cell (World.block_lt_of_cell? w9 _ c9)).trans c9) rfl
            have f1 := cell_turned (T := fun _ => false) ((HXR.out.cell (World.block_lt_of_cell? w1 _ cl)).trans cl) rfl
            have g0 : ∀ (d : Nat) (f : Nat → Obj) (os : Array Obj), (Go.convert 22 9 (.slice x9.a x9.n x9.c)).run Tryd.prog (turned wr (fun _ => false) d f os) = .ok (.string TX) (turned wr (fun _ => false) d f os) := fun d f os => by rw [hTX, ← heq]; exact byt_conv ((HOK9.out x9 (List.mem_of_getElem? hx9)).src.ext (HE.out.trans (hex d f os)))
            have g1 : ∀ (d : Nat) (f : Nat → Obj) (os : Array Obj), (Go.convert 22 9 (.slice xl.a xl.n xl.c)).run Tryd.prog (turned wr (fun _ => false) d f os) = .ok (.string TX) (turned wr (fun _ => false) d f os) := fun d f os => by rw [hTX]; exact byt_conv ((HLB'.out.ok xl (List.mem_of_getElem? hxl)).src.ext (HXR.out.trans (hex d f os)))
            have hse : (TX.toList != TX.toList) = false := bne_self_eq_false _
            clear hTX hex heq hxl hx9 c9 cl hrow
            go_wp2_with fail
            refine wp_region_plan 10 (fun w' => ∃ z : Turned, w' = turned wr (fun _ => false) z.d z.f z.os) (.reads [0, 1, 2, 3, 4, 5, 6, 7, 8, 9] (.one 10 .done)) (by kernel_rfl) (by kernel_rfl) (fun _ _ dd _ _ hh => by cases dd <;> exact hh) ?_ ?_
            · exact turned_of_ext (Ext.drewN wr 1)
            refine wpPlan_reads ?_
            simp only [pickOps, List.getElem?_cons_succ, List.getElem?_cons_zero]
            repeat (go_big_quiet_step (fail))
            refine wpQuiet_nil ?_
            clear f0 f1 g0 g1
            refine wpPlan_one ?_
            simp only [pickOps, List.getElem?_cons_succ, List.getElem?_cons_zero]
            go_wp2_with fail
            refine thenX_last (wpPlan_done ?_)
            go_wp2_with fail
            go_roundw
            case rel => exact ⟨j + 1, by go_num, by omega, Lib.hid (HE.out.trans (Ext.drewN wr 1))⟩
            case measure => simp [RowKit.intOf]; omega
          · go_wp2_with fail
            go_ret
            exact ⟨rfl, HEXT.out.trans (HX9.out.trans HE.out)⟩
end Go.Proofs.YtfablbhkmddnbaaDoor

/-! WalDrops: the log in memory while records are added, each in its own file. -/

namespace Go.Proofs.YtfablbhkmddnbaaDoor
open Go.RowKit Go.Sort Go.Lib

structure ManyAt (w2 : World) (lg d k : Nat) (rs : List (List UInt8)) (F : List Nat) (wr : World) : Prop where
  log : LogAt wr lg d (LD rs) (SM 100000 rs) F
  fr : ∀ b ∈ F, w2.heap.size ≤ b
  inv : DInv (SM 100000 rs) k
  ext : Ext w2 wr
theorem ManyAt.add {w2 wr w' : World} {lg d k : Nat} {rs : List (List UInt8)} {r : List UInt8} {F : List Nat} (h : ManyAt w2 lg d k rs F wr) (hrs : ∀ x ∈ rs, x.length ≤ 8) (hr : r.length ≤ 8) (hn : rs.length < 60)
    (ht : LogTo wr lg d F (addW (LD rs) (SM 100000 rs) r).2.1 (addW (LD rs) (SM 100000 rs) r).2.2 w') : (addW (LD rs) (SM 100000 rs) r).1 = 0 ∧ ∃ F', ManyAt w2 lg d (k + 2) (rs ++ [r]) F' w' := by
  have hb := b1_small hrs
  have ha := add_many (room := 100000) (rs := rs) (r := r) (by omega) (by omega) (by omega)
  have hi := addW_inv (L := LD rs) h.inv r
  rw [ha] at ht hi ⊢
  obtain ⟨F', h1, h2, h3⟩ := ht.fresh h.ext h.fr
  exact ⟨rfl, F', h1, h3, hi, h2⟩
theorem LD_bd {rs : List (List UInt8)} (h : ∀ r ∈ rs, r.length ≤ 8) (hn : rs.length ≤ 60) : LBd (LD rs) 10000 := by
  refine ⟨by show rs.length ≤ 10000; omega, ?_, by simp [LD]; omega, fun f hf => ?_, by simp [LD], fun hd => ?_⟩
  · show ((rs.getLast?.map fun r => (recL r).length).getD 0) ≤ 10000
    cases hl : rs.getLast? with
    | none => simp
    | some q =>
      have := h q (List.mem_of_getLast? hl)
      simp [recL_len]; omega
  · have : f < rs.length := by simpa [LD] using hf
    omega
  · have : rs ≠ [] := by simpa [LD] using hd
    simpa [LD] using this
end Go.Proofs.YtfablbhkmddnbaaDoor
