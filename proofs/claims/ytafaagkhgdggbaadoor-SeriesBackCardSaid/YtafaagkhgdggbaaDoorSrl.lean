/- SeriesReads: the walk of the law. -/
import Derived.Test.YtafaagkhgdggbaaDoorS12b
import Derived.Test.YtafaagkhgdggbaaDoorPlan
namespace Go.Proofs.YtafaagkhgdggbaaDoor
open Go.RowKit Go.Sort Go.Lib

theorem readN_err_ne {l : List UInt8} : ∀ {n at' : Nat} {acc : List ByteArray} {x : Int}, readN l n at' acc = .error x → x ≠ 0 := by
  intro n
  induction n with
  | zero => intro at' acc x h; simp [readN] at h
  | succ n ih =>
    intro at' acc x h
    rw [readN] at h
    split at h
    · rename_i hne
      cases h; exact hne
    · split at h
      · exact ih h
      · cases h; decide
theorem serR_err_ne {l : List UInt8} {x : Int} (h : serR l = .error x) : x ≠ 0 := by
  unfold serR at h
  split at h
  · rename_i hne
    cases h; exact hne
  · split at h
    · cases h; decide
    · exact readN_err_ne h
theorem readN_len {l : List UInt8} : ∀ {n at' : Nat} {acc acc' : List ByteArray} {k : Nat}, readN l n at' acc = .ok (acc', k) → acc'.length = acc.length + n := by
  intro n
  induction n with
  | zero => intro at' acc acc' k h; simp [readN] at h; rw [← h.1]; rfl
  | succ n ih =>
    intro at' acc acc' k h
    rw [readN] at h
    split at h
    · cases h
    · split at h
      · have := ih h; simp at this; omega
      · cases h
theorem serR_len {l : List UInt8} {acc : List ByteArray} {k : Nat} (h : serR l = .ok (acc, k)) : acc.length ≤ 1024 := by
  unfold serR at h
  split at h
  · cases h
  · split at h
    · cases h
    · have := readN_len h; simp at this; omega
theorem putNames_small {l : List ByteArray} {s : ByteArray} (h : ∀ t ∈ l, t.size ≤ 1000) : ∀ t ∈ putNames l s, t.size ≤ 1000 := by
  intro t ht
  unfold putNames at ht
  split at ht
  · rename_i hc
    rcases List.mem_append.1 ht with ht | ht
    · exact h t ht
    · simp at ht
      subst ht
      have := hc.1
      unfold validL at this
      simp at this
      have h2 : t.data.toList.length = t.size := by simp
      omega
  · exact h t ht

theorem src_bytes_hi {w : World} {a : Option Addr} {n c k : Nat} {l : List UInt8} (h : Src w 1 (.slice a n c) n (u8s l)) (hk : k ≤ n) (h0 : 0 < k) : Src w 1 (.slice a k c) k (u8s (l.take k)) := by
  have hln := u8s_src_len h
  rcases h with ⟨_, e, _⟩ | ⟨ad, c', e, hl, hc, ho⟩
  · omega
  · simp at e
    obtain ⟨rfl, rfl⟩ := e
    refine .inr ⟨ad, c, rfl, by rw [u8s_length, List.length_take]; omega, fun j u hj => hc j u ?_, u8s_one _⟩
    have e : u8s l = u8s (l.take k) ++ u8s (l.drop k) := by rw [← u8s_append, List.take_append_drop]
    rw [e, List.getElem?_append_left (List.getElem?_eq_some_iff.1 hj).1]
    exact hj

/-- Both, in a round of the second loop. -/
structure ReadsR (w : World) (d mb i : Nat) (acc : List ByteArray) (v : Value) (wr : World) : Prop where
  dict : DictAt wr d mb acc
  src : Src wr 1 v acc.length (strs acc)
  own : ∀ g, v.ownBlock = some g → g ≠ mb
  small : ∀ t ∈ acc, t.size ≤ 1000
  len : acc.length ≤ i
  ext : Ext w wr
  new : w.heap.size ≤ d ∧ w.heap.size ≤ mb

set_option maxHeartbeats 8000000 in
set_option maxRecDepth 100000 in
theorem serReads_any (w : World) (a b : Option Addr) (n c m c' : Nat) (l : List UInt8) (ls : List ByteArray) (hl : Src w 1 (.slice a n c) n (u8s l)) (hnc : n ≤ c) (hs : Src w 1 (.slice b m c') m (strs ls)) (hm : m ≤ 8796093022208) (hg : HasET w) :
    Calls Tryd.prog 3 #[.slice a n c, .slice b m c'] w fun e w' => e = .returned (.bool true) ∧ Ext w w' := by
  have HL := Lib.hid hl
  have HS := Lib.hid hs
  have HG := Lib.hid hg
  clear hl hs hg
  rcases Nat.lt_or_ge 3000 n with h3 | h3
  case' inl =>
    obtain ⟨bl', HB⟩ : ∃ bl', Hid (Src w 1 (.slice a 3000 c) 3000 (u8s bl')) := ⟨l.take 3000, Lib.hid (src_bytes_hi HL.out (by omega) (by omega))⟩
    have hbc : 3000 ≤ c := by omega
    have hbn : 3000 < 4611686018427387904 := by omega
    have h3' : (3000 : Int) < (n : Int) := by omega
  case' inr =>
    obtain ⟨bl', HB⟩ : ∃ bl', Hid (Src w 1 (.slice a n c) n (u8s bl')) := ⟨l, HL⟩
    have hbc : n ≤ c := hnc
    have hbn : n < 4611686018427387904 := by omega
    have h3' : ¬ (3000 : Int) < (n : Int) := by omega
  all_goals
    rcases hr : serR bl' with x | ⟨acc, k⟩
    case' error =>
      have HR := Lib.hid hr
      have hx0 : (x != 0) = true := by have := serR_err_ne hr; simpa using this
      have hxx : (x != x) = false := bne_self_eq_false x
      clear hr
      go_enter Tryd.func3, Tryd.ntmps3
      go_wp2_with fail
      refine (serRead_any w _ _ _ bl' HB.out hbc hbn HG.out).mono ?_
      rw [HR.out]
      rintro e w1 ⟨hx1, rfl⟩
      go_wp2_with fail
      refine (ref12Read_any w1 _ _ _ bl' (HB.out.ext hx1) hbc hbn).mono ?_
      rw [HR.out]
      rintro e wz ⟨rfl, hx2⟩
      have HXZ := Lib.hid (hx1.trans hx2)
      clear hx1 hx2 HR
      go_wp2_with fail
      clear hx0 hxx
    case' ok =>
      have HR := Lib.hid hr
      have hlen := serR_len hr
      have hkk : ((k : Int) != (k : Int)) = false := bne_self_eq_false _
      clear hr
      go_enter Tryd.func3, Tryd.ntmps3
      go_wp2_with fail
      refine (serRead_any w _ _ _ bl' HB.out hbc hbn HG.out).mono ?_
      rw [HR.out]
      rintro e w1 ⟨hx1, d, mb, rfl, hd, hn1, hn2⟩
      have HD := Lib.hid hd
      clear hd
      go_wp2_with fail
      refine (ref12Read_any w1 _ _ _ bl' (HB.out.ext hx1) hbc hbn).mono ?_
      rw [HR.out]
      rintro e w2 ⟨v, rfl, hmade⟩
      obtain ⟨va, vc, rfl⟩ := hmade.row.shape
      have HX2 := Lib.hid (hx1.trans hmade.ext)
      have HM := Lib.hid (hmade.row.src (strs_one _))
      have HD2 := Lib.hid (HD.out.ext hmade.ext)
      clear hx1 hmade
      go_wp2_with fail
      refine (dict_names HD2.out).mono ?_
      rintro e w3 ⟨v, rfl, hst⟩
      obtain ⟨sa, sc, rfl⟩ := hst.row.shape
      have HX3 := Lib.hid (HX2.out.trans hst.ext)
      have HM3 := Lib.hid (HM.out.ext hst.ext)
      have HST := Lib.hid hst.row.strs_src
      clear hst
      go_wp2_with fail
      refine (texts_any w3 sa va _ sc _ vc acc acc HST.out HM3.out (by omega)).mono ?_
      rw [decide_eq_true rfl]
      rintro e wz ⟨rfl, hx4⟩
      have HXZ := Lib.hid (HX3.out.trans hx4)
      clear hx4 HST HM3 HX3 HD2 HM HX2 HD HR
      go_wp2_with fail
      clear hkk hlen hn1 hn2
    all_goals
      refine (dict_new wz).mono ?_
      rintro e w5 ⟨rfl, hd5, hx5⟩
      obtain ⟨d2, hdd⟩ : ∃ d, d = wz.heap.size + 1 := ⟨_, rfl⟩
      rw [← hdd] at hd5 ⊢
      obtain ⟨mb2, hmb⟩ : ∃ mb, mb = wz.heap.size := ⟨_, rfl⟩
      rw [← hmb] at hd5
      have H0 : Hid (ReadsR w d2 mb2 0 [] (.slice none 0 0) w5) := Lib.hid ⟨hd5, .inl ⟨rfl, rfl, rfl⟩, by simp [Value.ownBlock], by simp, by simp, HXZ.out.trans hx5, by have := HXZ.out.size; omega⟩
      clear hd5 hx5 hdd hmb HXZ
      go_wp2_with fail
      go_loopw [12, 13] (fun sv si wr => ∃ (i : Nat) (acc : List ByteArray) (va : Option Addr) (vc : Nat), i ≤ m ∧ i ≤ 50 ∧ si = .int .i64 i ∧ sv = .slice va acc.length vc ∧ Hid (ReadsR w d2 mb2 i acc (.slice va acc.length vc) wr)) (fun _ si _ => m - (RowKit.intOf si).toNat)
      case atStart => exact ⟨0, [], none, 0, by omega, by omega, rfl, rfl, H0⟩
      case round =>
        clear H0
        obtain ⟨i, acc, va, vc, hi, hi50, rfl, rfl, HR⟩ := hrel
        rcases Classical.em (i < m ∧ i < 50) with hlt | hno
        · obtain ⟨hlt, hlt50⟩ := hlt
          obtain ⟨sb, so, s, rfl, hs, s0w⟩ := strs_src HS.out hlt
          have hsb : sb < w.heap.size := World.block_lt_of_cell? _ _ s0w
          have s0 := (HR.out.ext.cell (p := ⟨sb, so + i, none⟩) hsb).trans s0w
          clear hs s0w
          rcases Nat.lt_or_ge s.size 200 with hsz | hsz
          · have hsz' : (s.size : Int) < 200 := by omega
            have hml : s.size ≤ maxLen := by unfold maxLen; omega
            have HML := Lib.hid hml
            clear hml
            go_wp2_with fail
            refine (dict_put HR.out.dict s HML.out).mono ?_
            rintro e w6 ⟨rfl, hd6, hc6⟩
            have HD6 := Lib.hid hd6
            have HC6 := Lib.hid hc6
            have s0' : w6.cell? ⟨sb, so + i, none⟩ = some (.string s) := by
              rw [hc6.cell (p := ⟨sb, so + i, none⟩) (World.block_lt_of_cell? _ _ s0) (fun e => by have := HR.out.new; simp only at e; omega)]
              exact s0
            clear hd6 hc6 s0
            have HO6 := Lib.hid (HR.out.src.chg HC6.out HR.out.own)
            go_wp2_with fail
            refine (refPut_any w6 va acc.length vc acc s HO6.out (by have := HR.out.len; omega) HML.out).mono ?_
            rintro e w7 ⟨v, rfl, ht⟩
            obtain ⟨va', vc', rfl⟩ := ht.src.shape
            have HN : Hid (ReadsR w d2 mb2 (i + 1) (putNames acc s) (.slice va' (putNames acc s).length vc') w7) := Lib.hid ⟨HD6.out.ext ht.ext, ht.src, fun g hg => by
              rcases ht.own with e | e
              · exact HR.out.own g (e ▸ hg)
              · have h1 := e g hg
                have h2 := HD6.out.map.lt
                omega, putNames_small HR.out.small, by have h1 := putNames_len acc s; have h2 := HR.out.len; omega,
              (((Chg.of_ext HR.out.ext).trans HC6.out (fun _ _ e => e)).ext (fun i hi e => by have := HR.out.new; omega)).trans ht.ext, HR.out.new⟩
            clear ht
            go_wp2_with fail
            go_roundw
            case rel => exact ⟨i + 1, putNames acc s, va', vc', by omega, by omega, by go_num, rfl, HN⟩
            case measure => simp [RowKit.intOf]; omega
          · have hsz' : ¬ (s.size : Int) < 200 := by omega
            go_wp2_with fail
            go_roundw
            case rel => exact ⟨i + 1, acc, va, vc, by omega, by omega, by go_num, rfl, Lib.hid ⟨HR.out.dict, HR.out.src, HR.out.own, HR.out.small, by have := HR.out.len; omega, HR.out.ext, HR.out.new⟩⟩
            case measure => simp [RowKit.intOf]; omega
        · rcases Nat.lt_or_ge i m with hlt | hge
          case' inl =>
            have hge4 : ¬ i < 50 := fun h => hno ⟨hlt, h⟩
            clear hno
            go_wp2_with fail
          case' inr =>
            have hge' : ¬ i < m := by omega
            clear hno
            go_wp2_with fail
          all_goals
            refine wp_region_plan 7 (fun w' => ∃ p : Turned, w' = turned wr (fun _ => false) p.d p.f p.os) (.reads [0, 3] (.one 1 (.two 2 (.one 4 (.one 5 (.one 6 (.one 7 .done)))) 4 (.two 2 (.one 5 (.one 6 (.one 7 .done))) 5 (.one 2 (.one 6 (.one 7 .done))))))) (by kernel_rfl) (by kernel_rfl) (fun _ _ dd _ _ hh => by cases dd <;> exact hh) ?_ ?_
            · exact turned_of_ext (Ext.drewN wr 1)
            refine wpPlan_reads ?_
            simp only [pickOps, List.getElem?_cons_succ, List.getElem?_cons_zero]
            repeat (go_big_quiet_step (fail))
            refine wpQuiet_nil ?_
            refine wpPlan_one ?_
            simp only [pickOps, List.getElem?_cons_succ, List.getElem?_cons_zero]
            go_wp2_with fail
            refine (dict_bytes (HR.out.dict.ext (Ext.drewN wr 1)) HR.out.small).mono ?_
            rintro e w6 ⟨v, rfl, hb6⟩
            obtain ⟨v1, c1, rfl⟩ := hb6.row.shape
            have HX6 := Lib.hid ((Ext.drewN wr 1).trans hb6.ext)
            have HB6 := Lib.hid (hb6.row.src (u8s_one _))
            clear hb6
            obtain ⟨TX, hTX⟩ : ∃ TX : ByteArray, TX = ⟨(serB acc).toArray⟩ := ⟨_, rfl⟩
            have HCV1 : Hid (∀ W, Ext w6 W → (Go.convert 22 9 (.slice v1 (serB acc).length c1)).run Tryd.prog W = .ok (.string TX) W) := Lib.hid (fun W hW => by rw [hTX]; exact conv_text (HB6.out.ext hW))
            have hq : (TX.toList == TX.toList) = true := beq_self_eq_true _
            have HREF : Hid (∀ e w', (∃ v, e = Ending.returned v ∧ MadeTo w6 5 1 v (serB acc).length (u8s (serB acc)) w') → ∃ v2 c2, e = .returned (.slice v2 (serB acc).length c2) ∧ Ext w6 w' ∧ (Go.convert 22 9 (.slice v2 (serB acc).length c2)).run Tryd.prog w' = .ok (.string TX) w') := Lib.hid (by
              rintro e w' ⟨v, rfl, hm⟩
              obtain ⟨v2, c2, rfl⟩ := hm.row.shape
              exact ⟨v2, c2, rfl, hm.ext, by rw [hTX]; exact conv_text (hm.row.src (u8s_one _))⟩)
            have HO6 := Lib.hid (HR.out.src.ext HX6.out)
            have hl50 : acc.length ≤ 1024 := by have := HR.out.len; omega
            have HXW := Lib.hid (HR.out.ext.trans HX6.out)
            clear hTX HB6
            go_wp2_with fail
            refine thenX_mk (turned_of_ext HX6.out) (wpPlan_two ?_ ?_)
            · simp only [pickOps, List.getElem?_cons_succ, List.getElem?_cons_zero]
              have hcv := HCV1.out w6 (Ext.refl _)
              go_wp2_with fail
              clear hcv
              refine thenX_mk (turned_of_ext HX6.out) (wpPlan_one ?_)
              simp only [pickOps, List.getElem?_cons_succ, List.getElem?_cons_zero]
              go_wp2_with fail
              refine (ref12Bytes_any w6 va acc.length vc acc HO6.out hl50 HR.out.small).mono ?_
              intro e w7 hh
              obtain ⟨v2, c2, rfl, hx7, hcv2⟩ := HREF.out e w7 hh
              clear hh
              go_wp2_with fail
              refine thenX_mk (turned_of_ext (HX6.out.trans hx7)) (wpPlan_one ?_)
              simp only [pickOps, List.getElem?_cons_succ, List.getElem?_cons_zero]
              go_wp2_with fail
              clear hcv2
              refine thenX_mk (turned_of_ext (HX6.out.trans hx7)) (wpPlan_one ?_)
              simp only [pickOps, List.getElem?_cons_succ, List.getElem?_cons_zero]
              go_wp2_with fail
              refine thenX_mk (turned_of_ext (HX6.out.trans hx7)) (wpPlan_one ?_)
              simp only [pickOps, List.getElem?_cons_succ, List.getElem?_cons_zero]
              go_wp2_with fail
              refine thenX_last (wpPlan_done ?_)
              go_wp2_with fail
              go_ret
              exact ⟨rfl, HXW.out.trans hx7⟩
            · simp only [pickOps, List.getElem?_cons_succ, List.getElem?_cons_zero]
              go_wp2_with fail
              refine (ref12Bytes_any w6 va acc.length vc acc HO6.out hl50 HR.out.small).mono ?_
              intro e w7 hh
              obtain ⟨v2, c2, rfl, hx7, hcv2⟩ := HREF.out e w7 hh
              clear hh
              have hcv := HCV1.out w7 hx7
              go_wp2_with fail
              refine thenX_mk (turned_of_ext (HX6.out.trans hx7)) (wpPlan_two ?_ ?_)
              all_goals
                simp only [pickOps, List.getElem?_cons_succ, List.getElem?_cons_zero]
                go_wp2_with fail
                refine thenX_mk (turned_of_ext (HX6.out.trans hx7)) (wpPlan_one ?_)
                simp only [pickOps, List.getElem?_cons_succ, List.getElem?_cons_zero]
                go_wp2_with fail
                refine thenX_mk (turned_of_ext (HX6.out.trans hx7)) (wpPlan_one ?_)
                simp only [pickOps, List.getElem?_cons_succ, List.getElem?_cons_zero]
                go_wp2_with fail
                refine thenX_mk (turned_of_ext (HX6.out.trans hx7)) (wpPlan_one ?_)
                simp only [pickOps, List.getElem?_cons_succ, List.getElem?_cons_zero]
                go_wp2_with fail
                refine thenX_last (wpPlan_done ?_)
                go_wp2_with fail
                go_ret
                exact ⟨rfl, HXW.out.trans hx7⟩
end Go.Proofs.YtafaagkhgdggbaaDoor
