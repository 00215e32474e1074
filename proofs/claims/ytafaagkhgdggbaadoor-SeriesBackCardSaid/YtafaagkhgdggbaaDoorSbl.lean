/- SeriesBack: the walk of the law. -/
import Derived.Test.YtafaagkhgdggbaaDoorSrl
import Derived.Test.YtafaagkhgdggbaaDoorVbk
namespace Go.Proofs.YtafaagkhgdggbaaDoor
open Go.RowKit Go.Sort Go.Lib

theorem src_bytes_hi' {w : World} {a : Option Addr} {n c k : Nat} {l : List UInt8} (h : Src w 1 (.slice a n c) n (u8s l)) (hk : k ≤ n) (h0 : 0 < n) : Src w 1 (.slice a k c) k (u8s (l.take k)) := by
  have hln := u8s_src_len h
  rcases h with ⟨_, e, _⟩ | ⟨ad, c', e, hl, hc, ho⟩
  · omega
  · simp at e
    obtain ⟨rfl, rfl⟩ := e
    refine .inr ⟨ad, c, rfl, by rw [u8s_length, List.length_take]; omega, fun j u hj => hc j u ?_, u8s_one _⟩
    have e : u8s l = u8s (l.take k) ++ u8s (l.drop k) := by rw [← u8s_append, List.take_append_drop]
    rw [e, List.getElem?_append_left (List.getElem?_eq_some_iff.1 hj).1]
    exact hj
theorem putNames_valid {l : List ByteArray} {s : ByteArray} (h : ∀ t ∈ l, validL (bl t) = true) : ∀ t ∈ putNames l s, validL (bl t) = true := by
  intro t ht
  unfold putNames at ht
  split at ht
  · rename_i hc
    rcases List.mem_append.1 ht with ht | ht
    · exact h t ht
    · simp at ht
      subst ht
      exact hc.1
  · exact h t ht
theorem valid_small {t : ByteArray} (h : validL (bl t) = true) : t.size ≤ 64 := by
  unfold validL at h
  simp at h
  have h2 := name_len t
  have h3 := h.2
  unfold bl at h3
  omega

/-- In a round of the first loop. -/
structure BackR (w : World) (d mb i : Nat) (acc : List ByteArray) (wr : World) : Prop where
  dict : DictAt wr d mb acc
  valid : ∀ t ∈ acc, validL (bl t) = true
  len : acc.length ≤ i
  ext : Ext w wr
  new : w.heap.size ≤ d ∧ w.heap.size ≤ mb

set_option maxHeartbeats 8000000 in
set_option maxRecDepth 100000 in
theorem serBack_any (w : World) (a b : Option Addr) (n c m c' : Nat) (ls : List ByteArray) (more : List UInt8) (hs : Src w 1 (.slice a n c) n (strs ls)) (hz : ∀ s ∈ ls, s.size ≤ maxLen) (hn : n ≤ 8796093022208) (hl : Src w 1 (.slice b m c') m (u8s more)) (hg : HasET w) :
    Calls Tryd.prog 4 #[.slice a n c, .slice b m c'] w fun e w' => e = .returned (.bool true) ∧ Ext w w' := by
  have HS := Lib.hid hs
  have HZ := Lib.hid hz
  have HL := Lib.hid hl
  have HG := Lib.hid hg
  clear hs hz hl hg
  go_enter Tryd.func4, Tryd.ntmps4
  go_wp2_with fail
  refine (dict_new w).mono ?_
  rintro e w5 ⟨rfl, hd5, hx5⟩
  obtain ⟨d2, hdd⟩ : ∃ d, d = w.heap.size + 1 := ⟨_, rfl⟩
  rw [← hdd] at hd5 ⊢
  obtain ⟨mb2, hmb⟩ : ∃ mb, mb = w.heap.size := ⟨_, rfl⟩
  rw [← hmb] at hd5
  have H0 : Hid (BackR w d2 mb2 0 [] w5) := Lib.hid ⟨hd5, by simp, by simp, hx5, by omega⟩
  clear hd5 hx5 hdd hmb
  go_wp2_with fail
  go_loopw [6] (fun si wr => ∃ (i : Nat) (acc : List ByteArray), i ≤ n ∧ i ≤ 100 ∧ si = .int .i64 i ∧ Hid (BackR w d2 mb2 i acc wr)) (fun si _ => n - (RowKit.intOf si).toNat)
  case atStart => exact ⟨0, [], by omega, by omega, rfl, H0⟩
  case round =>
    clear H0
    obtain ⟨i, acc, hi, hi100, rfl, HR⟩ := hrel
    rcases Classical.em (i < n ∧ i < 100) with hlt | hno
    · obtain ⟨hlt, hlt100⟩ := hlt
      obtain ⟨sb, so, s, rfl, hs, s0w⟩ := strs_src HS.out hlt
      have s0 := (HR.out.ext.cell (p := ⟨sb, so + i, none⟩) (World.block_lt_of_cell? _ _ s0w)).trans s0w
      have HZS := Lib.hid (HZ.out s (List.mem_of_getElem? hs))
      clear hs s0w
      go_wp2_with fail
      refine (dict_put HR.out.dict s HZS.out).mono ?_
      rintro e w6 ⟨rfl, hd6, hc6⟩
      have HN : Hid (BackR w d2 mb2 (i + 1) (putNames acc s) w6) := Lib.hid ⟨hd6, putNames_valid HR.out.valid, by have h1 := putNames_len acc s; have h2 := HR.out.len; omega,
        ((Chg.of_ext HR.out.ext).trans hc6 (fun _ _ e => e)).ext (fun i hi e => by have := HR.out.new; omega), HR.out.new⟩
      clear hd6 hc6
      go_wp2_with fail
      go_roundw
      case rel => exact ⟨i + 1, putNames acc s, by omega, by omega, by go_num, HN⟩
      case measure => simp [RowKit.intOf]; omega
    · have hl100 : acc.length ≤ 100 := by have := HR.out.len; omega
      have HSM : Hid (∀ t ∈ acc, t.size ≤ 1000) := Lib.hid (fun t ht => by have := valid_small (HR.out.valid t ht); omega)
      obtain ⟨N, hN⟩ : ∃ N, (serB acc).length = N + 1 := ⟨(serB acc).length - 1, by have := serB_pos acc; omega⟩
      have hNle : N ≤ 200000 := by
        have h1 := namesB_len HSM.out
        have h2 := varP_10 (u := acc.length) (by omega)
        unfold serB at hN
        rw [List.length_append] at hN
        have : acc.length * 1010 ≤ 100 * 1010 := Nat.mul_le_mul_right _ hl100
        omega
      have HNN := Lib.hid hN
      clear hN
      rcases Nat.lt_or_ge i n with hlt | hge
      case' inl =>
        have hge4 : ¬ i < 100 := fun h => hno ⟨hlt, h⟩
        clear hno
        go_wp2_with fail
      case' inr =>
        have hge' : ¬ i < n := by omega
        clear hno
        go_wp2_with fail
      all_goals
        refine (dict_bytes HR.out.dict HSM.out).mono ?_
        rintro e w6 ⟨v, rfl, hb6⟩
        rw [HNN.out] at hb6
        obtain ⟨vb, vc, rfl⟩ := hb6.row.shape
        have HB := Lib.hid hb6
        clear hb6
        have HX6 := Lib.hid (HR.out.ext.trans HB.out.ext)
        rcases Nat.lt_or_ge 500 m with hm | hm
        · have hm' : (500 : Int) < (m : Int) := by omega
          go_wp2_with fail
          go_ret
          exact ⟨rfl, HX6.out⟩
        · have hm' : ¬ (500 : Int) < (m : Int) := by omega
          have hN0 : ((N : Int) + 1 == 0) = false := beq_eq_false_iff_ne.2 (by omega)
          have HBS := Lib.hid (HB.out.row.src (u8s_one _))
          have HVC := Lib.hid (row_le HB.out.row)
          have HL6 := Lib.hid (HL.out.ext HX6.out)
          go_wp2_with (at_builtin; go_must (first
            | (refine wpList_append_to elem_u8 rfl _ _ rfl (m := m) rfl rfl HA.out.row (HL6.out.ext HA.out.ext) (by unfold maxLen; omega) (by omega) ?_; intro v' w8 happ; have HC := Lib.hid (MadeTo.app (w0 := w6) HA.out.own HA.out.ext happ); obtain ⟨va2, vc2, rfl⟩ := happ.row.shape; clear happ)
            | (refine wpList_append_to elem_u8 rfl _ _ rfl (n := 0) (m := N + 1) (v := .slice _ _ _) rfl rfl (row_empty (heap_alloc_new _ _)) (HBS.out.ext ((Ext.refl w6).alloc _)) (by unfold maxLen; omega) (by omega) ?_; intro v' w7 happ; have hA0 := MadeTo.app (w0 := w6) (fun g hg => by simp [Value.ownBlock] at hg; omega) ((Ext.refl w6).alloc _) happ; obtain ⟨va1, vc1, rfl⟩ := happ.row.shape; have HA : Hid (MadeTo w6 5 1 (.slice va1 (N + 1) vc1) (N + 1) (u8s (serB acc)) w7) := Lib.hid (by simpa using hA0); clear happ hA0)))
          have HSRC : Hid (Src w8 1 (.slice va2 (N + 1 + m) vc2) (N + 1 + m) (u8s (serB acc ++ more))) := Lib.hid (by
            rw [u8s_append]
            have := HC.out.row.src (fun u hu => by
              rcases List.mem_append.1 hu with hu | hu
              · exact u8s_one _ u (by simpa using hu)
              · exact u8s_one _ u hu)
            simpa using this)
          have HSP : Hid (serR (serB acc ++ more) = .ok (acc, N + 1)) := Lib.hid (by rw [← HNN.out]; exact serR_put (by omega) HR.out.valid HR.out.dict.nodup more)
          have HX8 := Lib.hid (HX6.out.trans HC.out.ext)
          refine (serRead_any w8 _ _ _ (serB acc ++ more) HSRC.out (row_le HC.out.row) (by omega) (HG.out.ext HX8.out)).mono ?_
          rw [HSP.out]
          rintro e w9 ⟨hx9, d3, mb3, rfl, hd3, hn31, hn32⟩
          have HD3 := Lib.hid hd3
          have HX9 := Lib.hid (HX8.out.trans hx9)
          have HD9 := Lib.hid (HR.out.dict.ext (HB.out.ext.trans (HC.out.ext.trans hx9)))
          have HB9 := Lib.hid (HBS.out.ext (HC.out.ext.trans hx9))
          clear hx9 hd3 HSRC HSP HX8 HC HA HBS HL6 HB hn31 hn32
          have hnne : ((N : Int) + 1 != (N : Int) + 1) = false := bne_self_eq_false _
          go_wp2_with fail
          refine (dict_names HD3.out).mono ?_
          rintro e w10 ⟨v, rfl, hs1⟩
          obtain ⟨sa1, sc1, rfl⟩ := hs1.row.shape
          have HS1 := Lib.hid hs1
          clear hs1
          go_wp2_with fail
          refine (dict_names (HD9.out.ext HS1.out.ext)).mono ?_
          rintro e w11 ⟨v, rfl, hs2⟩
          obtain ⟨sa2, sc2, rfl⟩ := hs2.row.shape
          have HS2 := Lib.hid hs2
          clear hs2
          go_wp2_with fail
          refine (texts_any w11 sa1 sa2 _ sc1 _ sc2 acc acc (HS1.out.row.strs_src.ext HS2.out.ext) HS2.out.row.strs_src (by omega)).mono ?_
          rw [decide_eq_true rfl]
          rintro e w12 ⟨rfl, hx12⟩
          have HX12 := Lib.hid (HS1.out.ext.trans (HS2.out.ext.trans hx12))
          clear hx12 HS1 HS2
          go_wp2_with fail
          go_loopw [11] (fun si wr => ∃ k : Nat, k ≤ acc.length ∧ si = .int .i64 k ∧ Hid (Ext w9 wr)) (fun si _ => acc.length - (RowKit.intOf si).toNat)
          case atStart => exact ⟨0, by omega, rfl, HX12⟩
          case round =>
            clear HX12
            obtain ⟨k, hk, rfl, HY⟩ := hrel
            rcases Nat.lt_or_ge k acc.length with hlt | hge
            · have hks : acc[k]? = some acc[k] := List.getElem?_eq_getElem hlt
              obtain ⟨s, hs⟩ : ∃ s, s = acc[k] := ⟨_, rfl⟩
              rw [← hs] at hks
              have hmem : s ∈ acc := List.mem_of_getElem? hks
              have hfz : findZ acc s = (k : Int) := findZ_at hks (fun hm => by
                have hnd := HR.out.dict.nodup
                have e : acc = acc.take k ++ s :: acc.drop (k + 1) := by rw [hs, ← List.drop_eq_getElem_cons hlt, List.take_append_drop]
                rw [e, List.nodup_append] at hnd
                exact hnd.2.2 s hm s (by simp) rfl)
              have HFT : Hid (findTells acc s = ((k : Int), true)) := Lib.hid (by
                unfold findZ at hfz
                rw [if_pos hmem] at hfz
                unfold findTells
                rw [if_pos hmem, hfz])
              have HKS := Lib.hid hks
              have hkk : ((k : Int) != (k : Int)) = false := bne_self_eq_false _
              clear hks hmem hfz hs
              go_wp2_with fail
              refine (dict_len (HD3.out.ext HY.out)).mono ?_
              rintro e w13 ⟨rfl, rfl⟩
              go_wp2_with fail
              refine (dict_name (HD3.out.ext HY.out) k s HKS.out).mono ?_
              rintro e w13 ⟨rfl, hx13⟩
              have HY13 := Lib.hid (HY.out.trans hx13)
              clear hx13
              go_wp2_with fail
              refine (dict_find (HD9.out.ext HY13.out) s).mono ?_
              rw [HFT.out]
              simp only
              rintro e w14 ⟨rfl, rfl⟩
              go_wp2_with fail
              go_roundw
              case rel => exact ⟨k + 1, by omega, by go_num, HY13⟩
              case measure => simp [RowKit.intOf]; omega
            · have hge' : ¬ (k : Int) < (acc.length : Int) := by omega
              have HSE : Hid (serR ((serB acc).take N) = .error 10) := Lib.hid (by
                have := serR_cut (L := acc) (by omega) HR.out.valid HR.out.dict.nodup
                rw [HNN.out] at this
                exact this)
              have HBN := Lib.hid (src_bytes_hi' (k := N) (HB9.out.ext HY.out) (by omega) (by omega))
              have hvc : N + 1 ≤ vc := HVC.out
              go_wp2_with fail
              refine (dict_len (HD3.out.ext HY.out)).mono ?_
              rintro e w13 ⟨rfl, rfl⟩
              go_wp2_with fail
              refine (serRead_any _ _ _ _ ((serB acc).take N) HBN.out (by omega) (by omega) (HG.out.ext (HX9.out.trans HY.out))).mono ?_
              rw [HSE.out]
              rintro e w14 ⟨hx14, rfl⟩
              have HZZ := Lib.hid (HX9.out.trans (HY.out.trans hx14))
              clear hx14
              go_wp2_with fail
              go_ret
              exact ⟨rfl, HZZ.out⟩
end Go.Proofs.YtafaagkhgdggbaaDoor
