/- Plain: WalDrops: what Drop leaves of a log whose records have a file each. -/
import Derived.Test.YtfablbhkmddnbaaDoorWdt
import Derived.Test.YtfablbhkmddnbaaDoorMsk
namespace Go.Proofs.YtfablbhkmddnbaaDoor
open Go.RowKit Go.Sort Go.Lib

theorem dropGo_inv (n : Int) : ∀ (fs : List Nat) (S : DiskS) (k : Nat), DInv S k → DInv (dropGo n fs S).2.2 (k + fs.length)
  | [], S, k, h => h
  | [f], S, k, h => h.mono (by omega)
  | f :: g :: fs, S, k, h => by
    have hd := h.delete (nameW f)
    unfold dropGo
    split
    · split
      · exact hd.mono (by simp only [List.length_cons]; omega)
      · exact (dropGo_inv n (g :: fs) _ _ hd).mono (by simp only [List.length_cons]; omega)
    · exact h.mono (by omega)
theorem drops_plain {qs : List (List UInt8)} {q : List UInt8} {n : Nat} : ∃ u o, dropGo (n : Int) (LD (qs ++ [q])).files (SM 100000 (qs ++ [q])) = (0, (List.range (qs.length + 1)).drop (min n qs.length), ⟨(filesG qs q).drop (min n qs.length), 100000, u, -1, o⟩) := by
  have hG : ∀ j, j < qs.length + 1 → ∃ f, (filesG qs q)[j]? = some (nameW j, f) := fun j hj => by
    obtain ⟨r, hr⟩ : ∃ r, (qs ++ [q])[j]? = some r := ⟨_, List.getElem?_eq_getElem (by simpa using hj)⟩
    obtain ⟨f, h1, _⟩ := filesG_get hr
    exact ⟨f, h1⟩
  obtain ⟨u, h⟩ := drop_all (G := filesG qs q) (room := 100000) (k := qs.length + 1) (m := min n qs.length) (n := (n : Int)) hG (by omega) (by omega) (by omega) (min n qs.length) 0 ((b1 (qs ++ [q])).length : Nat) (2 * qs.length + 1 : Nat) (by omega)
  refine ⟨u, ((2 * qs.length + 1 : Nat) : Int) + (min n qs.length : Nat), ?_⟩
  rw [SM_snoc, show (LD (qs ++ [q])).files = (List.range (qs.length + 1)).drop 0 by simp [LD]]
  exact h
theorem SM_list {rs : List (List UInt8)} (hk : rs.length ≤ 64) : ((SM 100000 rs).list fW).length = rs.length := by
  rcases List.eq_nil_or_concat rs with rfl | ⟨qs, q, rfl⟩
  · simp [SM, newDisk, DiskS.list, DiskS.names, sortS]
  · rw [List.concat_eq_append] at hk ⊢
    rw [SM_snoc]
    have := list_names (F := filesG qs q) (a := 0) (k := (qs ++ [q]).length) (room := 100000) (u := ((b1 (qs ++ [q])).length : Nat)) (l := -1) (o := (2 * qs.length + 1 : Nat)) (filesG_names qs q) (by omega)
    show (DiskS.list ⟨filesG qs q, _, _, _, _⟩ fW).length = _
    rw [this]
    simp
theorem eachL_first {rs : List (List UInt8)} {a : Nat} (h : rs ≠ []) : firstW (eachL (log0 1) a rs) = a := by
  unfold firstW
  rw [eachL_is]
  cases rs with
  | nil => exact absurd rfl h
  | cons r rs => simp [log0, List.range'_succ]
theorem boxfirst_nil {w : World} {lg d c : Nat} {a : Option Addr} {lim sz nx : Int} {di ba : Bool} (h : w.heap[lg]? = some (.cells #[.pointer (some ⟨d, 0, none⟩), .int .i64 lim, .slice a 0 c, .int .i64 sz, .int .i64 nx, .bool di, .bool ba] 53 (0, 0))) :
    Calls Tryd.prog 17 #[.pointer (some ⟨lg, 0, none⟩)] w fun e w' => e = .returned (.int .i64 nx) ∧ w = w' := by
  have H := Lib.hid h
  have c2 := cell_of_block h 2
  have c4 := cell_of_block h 4
  clear h
  simp only [List.getElem?_toArray] at c2 c4
  go_enter Tryd.func17, Tryd.ntmps17
  go_wp2_with fail
  refine (boxnone_any H.out).mono ?_
  rintro e w' ⟨rfl, rfl⟩
  go_wp2_with fail
  go_ret
  exact ⟨rfl, rfl⟩
end Go.Proofs.YtfablbhkmddnbaaDoor

/-! WalDrops: the walk. -/

namespace Go.Proofs.YtfablbhkmddnbaaDoor
open Go.RowKit Go.Sort Go.Lib

set_option maxHeartbeats 16000000 in
set_option maxRecDepth 100000 in
theorem walDrops_any (w : World) (a : Option Addr) (n c : Nat) (bs : List UInt8) (hs : Src w 1 (.slice a n c) n (u8s bs)) (hn : n ≤ 9223372036854775807) (nb : Int) (hg : HasET w) :
    Calls Tryd.prog 5 #[.slice a n c, .int .i64 nb] w fun e w' => e = .returned (.bool true) ∧ Ext w w' := by
  have HS := Lib.hid hs
  have HG := Lib.hid hg
  have hb1 := i64_and63 nb
  obtain ⟨p, hp, hp'⟩ : ∃ p : Nat, nb % 64 = (p : Int) ∧ p ≤ 63 := ⟨(nb % 64).toNat, by omega, by omega⟩
  rw [hp] at hb1
  have HB := Lib.hid hb1
  clear hs hg hp hb1
  go_enter Tryd.func5, Tryd.ntmps5
  go_wp2_with fail
  refine (some_any w a n c bs HS.out hn).mono ?_
  rintro e w1 ⟨ka, kc, K, rfl, hk, hlb⟩
  have HLB := Lib.hid hlb
  have HKL : Hid (K.length ≤ 60) := Lib.hid (by rw [← bsl_len, hk, someL_len]; omega)
  have HSM : Hid (∀ r ∈ bsl K, r.length ≤ 8) := Lib.hid (fun r hr => by rw [hk] at hr; exact (someL_small bs r hr).2)
  clear hk hlb HS
  go_wp2_with fail
  refine (disk_new (by omega) (by omega) w1).mono ?_
  rintro e w2 ⟨rfl, hd, hx⟩
  obtain ⟨d, hde⟩ : ∃ d, d = w1.heap.size + 1 := ⟨_, rfl⟩
  rw [← hde] at hd ⊢
  have HD := Lib.hid hd
  have HX2 := Lib.hid hx
  have HDE := Lib.hid hde
  have HG2 : Hid (HasET w2) := Lib.hid (HG.out.ext (HLB.out.ext.trans hx))
  clear hd hx hde
  go_wp2_with fail
  refine (logopen_any (k := 0) (by omega) (newDisk_inv' (by omega) (by omega)) HD.out 1 (by omega) HG2.out (fun e => by have h1 := HG.out.lt; have h2 := HLB.out.ext.size; have := HDE.out; simp at e; omega)).mono ?_
  rintro e w3 ho
  rw [open_new] at ho
  obtain ⟨lg, oa, oc, K0, F, rfl, hla, hfr, hk0, -⟩ := ho.good rfl
  simp only at hla hk0
  obtain rfl : K0 = [] := by
    cases K0 with
    | nil => rfl
    | cons x K => simp [bsl] at hk0
  have H1 : Hid (ManyAt w1 lg d 0 [] F w3) := Lib.hid (by
    obtain ⟨B', h1, h2, h3⟩ := ho.disk
    refine ⟨hla, fun b hb => ?_, newDisk_inv' (by omega) (by omega), ((Chg.of_ext (S := (· ∈ [d, w1.heap.size])) HX2.out).trans h2 (fun _ _ e => e)).ext (fun i hi e => by have := HDE.out; simp at e; omega)⟩
    rcases hfr b hb with e | e
    · have := HDE.out; simp at e; omega
    · have := HX2.out.size; omega)
  clear ho hla hfr hk0 HD HX2 HDE HG2
  go_wp2_with fail
  go_loopw [10] (fun s10 wr => ∃ (i : Nat) (F : List Nat), s10 = .int .i64 (i : Int) ∧ i ≤ K.length ∧ Hid (ManyAt w1 lg d (2 * i) ((bsl K).take i) F wr)) (fun s10 _ => K.length - (RowKit.intOf s10).toNat)
  case atStart => exact ⟨0, F, by go_num, by omega, Lib.hid H1.out⟩
  case round =>
    clear H1
    obtain ⟨i, F, rfl, hi, HH⟩ := hrel
    have hkl := HKL.out
    rcases Nat.lt_or_ge i K.length with hlt | hge
    · obtain ⟨kb, ko, x, rfl, hx, cx⟩ := bls_src (HLB.out.row.src (bsv_one _)) hlt
      have hmem : x ∈ K := List.mem_of_getElem? hx
      have hxl : x.l.length ≤ 8 := HSM.out x.l (List.mem_map.2 ⟨x, hmem, rfl⟩)
      have HXO := Lib.hid (HLB.out.ok x hmem)
      have HXL := Lib.hid hxl
      have HCX := Lib.hid (fun W (hW : Ext w1 W) => (hW.cell (World.block_lt_of_cell? w1 _ cx)).trans cx)
      have HNX : Hid ((bsl K).take (i + 1) = (bsl K).take i ++ [x.l]) := Lib.hid (by rw [List.take_add_one]; simp [bsl, hx])
      have HTS : Hid (∀ r ∈ (bsl K).take i, r.length ≤ 8) := Lib.hid (fun r hr => HSM.out r (List.mem_of_mem_take hr))
      have HTL : Hid (((bsl K).take i).length = i) := Lib.hid (by rw [List.length_take, bsl_len]; omega)
      clear hxl hx cx hmem
      generalize (bsl K).take i = rs at *
      have cx := HCX.out wr HH.out.ext
      go_wp2_with fail
      refine (logadd_any (N := 10000) (by omega) HH.out.inv HH.out.log (by omega) (LD_bd HTS.out (by rw [HTL.out]; omega)) (by show (List.range rs.length).length ≤ 1000000; rw [List.length_range, HTL.out]; omega) x.a x.n x.c x.l (HXO.out.src.ext HH.out.ext)).mono ?_
      rintro e w4 ⟨rfl, ht⟩
      obtain ⟨h0, F', hone⟩ := HH.out.add HTS.out HXL.out (by rw [HTL.out]; omega) ht
      rw [h0]
      clear cx h0 ht
      have HO4 := Lib.hid hone
      clear hone
      go_wp2_with fail
      go_roundw
      case rel => exact ⟨i + 1, F', by go_num, by omega, Lib.hid (by rw [HNX.out]; exact HO4.out)⟩
      case measure => simp [RowKit.intOf]; omega
    · obtain rfl : i = K.length := by omega
      have hall : (bsl K).take K.length = bsl K := List.take_of_length_le (by rw [bsl_len]; omega)
      rw [hall] at HH
      have HO := Lib.hid HH.out
      have HGW : Hid (HasET w1) := Lib.hid (HG.out.ext HLB.out.ext)
      have HGB : Hid (∀ b, w1.heap.size ≤ b → 0 ≠ b) := Lib.hid (fun b hb e => by have h1 := HGW.out.lt; omega)
      have HLEN := Lib.hid (bsl_len K)
      have HEXT := Lib.hid HLB.out.ext
      clear HH hall hi hge HG
      obtain ⟨kn, hKN⟩ : ∃ kn, kn = K.length := ⟨_, rfl⟩
      have HLB' := HLB
      rw [← hKN] at HO HLEN HKL hkl HLB' ⊢
      clear HLB
      obtain ⟨rs, hrs⟩ : ∃ rs, rs = bsl K := ⟨_, rfl⟩
      rw [← hrs] at HO HLEN HSM
      have HRS := Lib.hid hrs
      clear hrs
      obtain ⟨V, B, hlog, hFe⟩ := HO.out.log
      have HDK := Lib.hid hlog.disk
      have HLST : Hid (((SM 100000 rs).list fW).length = kn) := Lib.hid (by rw [SM_list (by rw [HLEN.out]; omega), HLEN.out])
      clear hlog hFe
      go_wp2_with fail
      refine (disk_list HO.out.inv.ok HDK.out fW).mono ?_
      rintro e w4 ⟨v4, rfl, hto⟩
      obtain ⟨va4, vc4, rfl⟩ := hto.row.shape
      rw [HLST.out]
      have HX4 := Lib.hid hto.ext
      clear hto HLST HDK
      have hb1 := HB.out
      go_upto_region 16 with fail
      clear hb1
      have HLOG := Lib.hid (HO.out.log.ext HX4.out)
      have HXW := Lib.hid (HO.out.ext.trans HX4.out)
      have HINV := Lib.hid HO.out.inv
      have HFR := Lib.hid HO.out.fr
      clear HO HX4 HB
      rcases Nat.eq_zero_or_pos kn with h0 | h0
      · obtain rfl : rs = [] := List.length_eq_zero_iff.1 (by rw [HLEN.out]; exact h0)
        have hK0 : K.length = 0 := by omega
        go_wp2_with fail
        refine (logdrop_any (k := 2 * kn) (by omega) HINV.out HLOG.out (p : Int) (by simp [LD]) (by simp [LD])).mono ?_
        rintro e w5 ⟨rfl, hdt⟩
        obtain ⟨⟨fa, fc, B5, hbox, -⟩, hchg⟩ := hdt
        have HBX := Lib.hid hbox
        have HX5 : Hid (Ext w1 w5) := Lib.hid (((Chg.of_ext (S := (· ∈ _)) HXW.out).trans hchg (fun _ _ e => e)).ext (fun b hb e => by have := HFR.out b e; omega))
        clear hbox hchg
        rw [show (dropGo (p : Int) (LD []).files (SM 100000 [])).1 = 0 from rfl]
        go_wp2_with fail
        refine (boxnext_any HBX.out).mono ?_
        rintro e w6 ⟨rfl, rfl⟩
        rw [show (LD []).next = 0 from rfl]
        go_wp2_with fail
        refine (boxfirst_nil HBX.out).mono ?_
        rintro e w6 ⟨rfl, rfl⟩
        rw [show (LD []).next = 0 from rfl]
        go_wp2_with fail
        go_ret
        exact ⟨rfl, HEXT.out.trans HX5.out⟩
      · obtain ⟨qs, q, rfl⟩ : ∃ qs q, rs = qs ++ [q] := by
          rcases List.eq_nil_or_concat rs with e | ⟨qs, q, e⟩
          · have := HLEN.out; rw [e] at this; simp at this; omega
          · exact ⟨qs, q, by rw [e, List.concat_eq_append]⟩
        have hql : qs.length + 1 = kn := by have := HLEN.out; rw [List.length_append, List.length_singleton] at this; exact this
        obtain ⟨u5, o5, hdp⟩ := drops_plain (qs := qs) (q := q) (n := p)
        obtain ⟨m, hm⟩ : ∃ m, m = min p qs.length := ⟨_, rfl⟩
        rw [← hm] at hdp
        have HDP := Lib.hid hdp
        have hmk : m < kn := by omega
        have hmin : min (p : Int) ((K.length : Int) - 1) = (m : Int) := by omega
        have HMIN := Lib.hid hmin
        clear hdp hmin hm
        go_wp2_with fail
        refine (logdrop_any (k := 2 * kn) (by omega) HINV.out HLOG.out (p : Int) (fun f hf => by have : f ∈ List.range (qs ++ [q]).length := hf; rw [List.mem_range, HLEN.out] at this; omega) (by show (List.range (qs ++ [q]).length).length ≤ 10000; rw [List.length_range, HLEN.out]; omega)).mono ?_
        rintro e w5 ⟨rfl, hdt⟩
        have hi5 := dropGo_inv (p : Int) (LD (qs ++ [q])).files (SM 100000 (qs ++ [q])) _ HINV.out
        rw [HDP.out] at hdt hi5 ⊢
        have HI5 := Lib.hid hi5
        have hfl : ((List.range (qs.length + 1)).drop m).length = kn - m := by rw [List.length_drop, List.length_range, hql]
        have hf0 : ((List.range (qs.length + 1)).drop m)[0]? = some m := by rw [List.getElem?_drop, List.getElem?_range (by omega)]; rfl
        obtain ⟨⟨fa, fc, B5, hbox, hsrc, hdk, hfr, hnb, hown⟩, hchg⟩ := hdt
        simp only at hbox hsrc hdk hown hi5
        rw [hfl] at hbox hsrc hown
        have HBX := Lib.hid hbox
        have HSR := Lib.hid hsrc
        have HF0 := Lib.hid hf0
        have HNB := Lib.hid hnb
        have HOW := Lib.hid hown
        have HDK5 := Lib.hid hdk
        have HX5 : Hid (Ext w1 w5) := Lib.hid (((Chg.of_ext (S := (· ∈ _)) HXW.out).trans hchg (fun _ _ e => e)).ext (fun b hb e => by have := HFR.out b e; omega))
        have HB5 : Hid (∀ b ∈ B5, w1.heap.size ≤ b) := Lib.hid (fun b hb => by
          rcases hfr b hb with e | e
          · exact HFR.out b e
          · have := HXW.out.size; omega)
        clear hbox hsrc hdk hfr hnb hown hchg hi5 hfl hf0 HDP HLOG HINV
        go_wp2_with fail
        refine (boxnext_any HBX.out).mono ?_
        rintro e w6 ⟨rfl, rfl⟩
        rw [show (LD (qs ++ [q])).next = K.length from HLEN.out.trans hKN]
        go_upto_region 19 with fail
        rw [HMIN.out]
        have hk0 : ((K.length : Int) == 0) = false := beq_eq_false_iff_ne.2 (by omega)
        go_wp2_with fail
        refine (logopen_any (k := 2 * kn + (LD (qs ++ [q])).files.length) (by show 2 * kn + (List.range (qs ++ [q]).length).length ≤ 100000; rw [List.length_range, HLEN.out]; omega) HI5.out HDK5.out 1 (by omega) (HGW.out.ext HX5.out) (fun e => HGB.out _ (HB5.out _ e) rfl)).mono ?_
        rintro e w6 ho
        rw [open_dropped (by rw [HLEN.out]; omega) (fun r hr => by have := HSM.out r hr; omega) (by rw [HLEN.out]; omega)] at ho
        obtain ⟨lg6, a6, c6, K6, F6, rfl, hla6, -, hk6, hsrc6, hok6, -⟩ := ho.good rfl
        simp only at hla6 hk6
        obtain ⟨B6, -, hc6, -⟩ := ho.disk
        have HX6 : Hid (Ext w1 w6) := Lib.hid (((Chg.of_ext (S := (· ∈ B5)) HX5.out).trans hc6 (fun _ _ e => e)).ext (fun b hb e => by have := HB5.out b e; omega))
        have HBX6 := Lib.hid ((hc6.block lg (block_lt HBX.out) HNB.out).trans HBX.out)
        have HSR6 := Lib.hid (HSR.out.chg hc6 HOW.out)
        have hK6 : K6.length = kn - m := by rw [← bsl_len, hk6, List.length_drop, HLEN.out]
        have HK6 := Lib.hid hk6
        rw [hK6] at hsrc6 ⊢
        have HSRC6 := Lib.hid hsrc6
        have HOK6 := Lib.hid hok6
        have hne6 : (qs ++ [q]).drop m ≠ [] := fun e => by
          have := congrArg List.length e
          rw [List.length_drop, HLEN.out, List.length_nil] at this
          omega
        have HNE6 := Lib.hid hne6
        obtain ⟨V6, B7, hlog6, -⟩ := hla6
        have HRAW6 := Lib.hid hlog6.raw
        have hlen6 : (((K.length - m : Nat) : Int) != (K.length : Int) - (m : Int)) = false := bne_eq_false_iff_eq.2 (by omega)
        have hlen7 : (((kn - m : Nat) : Int) != (K.length : Int) - (m : Int)) = false := bne_eq_false_iff_eq.2 (by omega)
        clear ho hk6 hsrc6 hok6 hne6 hlog6 hc6 HBX HSR HNB HOW HDK5 HI5
        go_wp2_with fail
        refine (boxfirst_any HBX6.out HSR6.out HF0.out (by omega)).mono ?_
        rintro e w7 ⟨rfl, rfl⟩
        go_wp2_with fail
        refine (logfirst_any HRAW6.out).mono ?_
        rintro e w7 ⟨rfl, rfl⟩
        rw [eachL_first HNE6.out]
        go_wp2_with fail
        clear hk0 hlen6 hlen7
        go_loopw [14] (fun s14 wr => ∃ j : Nat, s14 = .int .i64 (j : Int) ∧ j ≤ kn - m ∧ Hid (Ext w6 wr)) (fun s14 _ => (kn - m) - (RowKit.intOf s14).toNat)
        case atStart => exact ⟨0, by go_num, by omega, Lib.hid (Ext.refl _)⟩
        case round =>
          obtain ⟨j, rfl, hj, HE⟩ := hrel
          rcases Nat.lt_or_ge j (kn - m) with hlt | hge
          · have hjn : m + j < kn := by omega
            have hrow : Row w1 22 1 (.slice ka kn kc) kn (bsv K) := by have := HLB'.out.row; rw [← hKN] at this; exact this
            obtain ⟨rb6, ro6, x9, rfl, hx9, c9⟩ := bls_src HSRC6.out hlt
            obtain ⟨lb0, lo0, xl, rfl, hxl, cl⟩ := bls_src (hrow.src (bsv_one _)) hjn
            have heq : x9.l = xl.l := by
              have h1 : (bsl K6)[j]? = some x9.l := by simp [bsl, hx9]
              have h2 : (bsl K)[m + j]? = some xl.l := by simp [bsl, hxl]
              rw [HK6.out, List.getElem?_drop, HRS.out, h2] at h1
              exact (Option.some.inj h1).symm
            obtain ⟨TX, hTX⟩ : ∃ TX : ByteArray, TX = ⟨xl.l.toArray⟩ := ⟨_, rfl⟩
            have hex : ∀ (d : Nat) (f : Nat → Obj) (os : Array Obj), Ext wr (turned wr (fun _ => false) d f os) := fun d f os => (chg_turned wr (fun _ => false) d f os).ext (fun i hi e => by simp at e)
            have HXR := Lib.hid (HX6.out.trans HE.out)
            have f0 := cell_turned (T := fun _ => false) ((HE.out.cell (World.block_lt_of_cell? w6 _ c9)).trans c9) rfl
            have f1 := cell_turned (T := fun _ => false) ((HXR.out.cell (World.block_lt_of_cell? w1 _ cl)).trans cl) rfl
            have g0 : ∀ (d : Nat) (f : Nat → Obj) (os : Array Obj), (Go.convert 22 9 (.slice x9.a x9.n x9.c)).run Tryd.prog (turned wr (fun _ => false) d f os) = .ok (.string TX) (turned wr (fun _ => false) d f os) := fun d f os => by rw [hTX, ← heq]; exact byt_conv ((HOK6.out x9 (List.mem_of_getElem? hx9)).src.ext (HE.out.trans (hex d f os)))
            have g1 : ∀ (d : Nat) (f : Nat → Obj) (os : Array Obj), (Go.convert 22 9 (.slice xl.a xl.n xl.c)).run Tryd.prog (turned wr (fun _ => false) d f os) = .ok (.string TX) (turned wr (fun _ => false) d f os) := fun d f os => by rw [hTX]; exact byt_conv ((HLB'.out.ok xl (List.mem_of_getElem? hxl)).src.ext (HXR.out.trans (hex d f os)))
            have hse : (TX.toList != TX.toList) = false := bne_self_eq_false _
            have hix : IntKind.i64.wrap ((m : Int) + (j : Int)) = ((m + j : Nat) : Int) := by rw [IntKind.wrap_i64]; omega
            have hjk : m + j < K.length := by omega
            clear hTX hex heq hxl hx9 c9 cl hrow
            go_wp2_with fail
            refine wp_region_plan 12 (fun w' => ∃ z : Turned, w' = turned wr (fun _ => false) z.d z.f z.os) (.reads [0, 1, 2, 3, 4, 5, 6, 7, 8, 9, 10, 11] (.one 12 .done)) (by kernel_rfl) (by kernel_rfl) (fun _ _ dd _ _ hh => by cases dd <;> exact hh) ?_ ?_
            · exact turned_of_ext (Ext.drewN wr 1)
            refine wpPlan_reads ?_
            simp only [pickOps, List.getElem?_cons_succ, List.getElem?_cons_zero]
            repeat (go_big_quiet_step (fail))
            refine wpQuiet_nil ?_
            clear f0 f1 g0 g1 hix hjk
            refine wpPlan_one ?_
            simp only [pickOps, List.getElem?_cons_succ, List.getElem?_cons_zero]
            go_wp2_with fail
            refine thenX_last (wpPlan_done ?_)
            go_wp2_with fail
            go_roundw
            case rel => exact ⟨j + 1, by go_num, by omega, Lib.hid (HE.out.trans (Ext.drewN wr 1))⟩
            case measure => simp [RowKit.intOf]; omega
          · go_wp2_with fail
            go_ret
            exact ⟨rfl, HEXT.out.trans (HX6.out.trans HE.out)⟩
end Go.Proofs.YtfablbhkmddnbaaDoor
