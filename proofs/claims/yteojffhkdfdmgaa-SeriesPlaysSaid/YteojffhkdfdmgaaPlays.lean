/- SeriesPlays: the walk. -/
import Derived.Test.YteojffhkdfdmgaaRf12s
namespace Go.Proofs.Yteojffhkdfdmgaa
open Go.RowKit Go.Sort Go.Lib

/-- The dict and the names that the document tells. -/
structure PlayR (w : World) (d mb : Nat) (A : List ByteArray) (v : Value) (wr : World) : Prop where
  dict : DictAt wr d mb A
  src : Src wr 1 v A.length (strs A)
  own : ∀ g, v.ownBlock = some g → g ≠ d ∧ g ≠ mb
  ext : Ext w wr
  new : w.heap.size ≤ mb

theorem PlayR.ext' {w wr w1 : World} {d mb : Nat} {A : List ByteArray} {v : Value} (h : PlayR w d mb A v wr) (hx : Ext wr w1) : PlayR w d mb A v w1 :=
  ⟨h.dict.ext hx, h.src.ext hx, h.own, h.ext.trans hx, h.new⟩
/-- Behind both calls of Put. -/
theorem PlayR.put {w wr w1 w2 : World} {d mb : Nat} {A A' : List ByteArray} {v v' : Value} (h : PlayR w d mb A v wr) (hd : DictAt w1 d mb A') (hc : Chg (· = mb) wr w1) (ht : Texts w1 A' v v' w2) : PlayR w d mb A' v' w2 :=
  ⟨hd.ext ht.ext, ht.src, fun g hg => by
    rcases ht.own with rfl | ho
    · exact h.own g hg
    · have h1 := ho g hg
      have h2 := hd.lt
      have h3 := hd.map.lt
      omega,
   (((Chg.of_ext (S := (· = mb)) h.ext).trans hc (fun _ _ e => e)).ext (fun i hi e => by have := h.new; omega)).trans ht.ext, h.new⟩

theorem validQ (s : ByteArray) (w : World) (hs : s.size ≤ maxLen) : Calls Try.prog 12 #[.string s] w fun e w' => e = .returned (.bool (validL (bl s))) ∧ w' = w :=
  (valid_any s w hs).mono fun _ _ ⟨he, hw⟩ => ⟨he, hw.symm⟩
theorem refNameQ (s : ByteArray) (w : World) (hs : s.size ≤ maxLen) : Calls Try.prog 16 #[.string s] w fun e w' => e = .returned (.bool (validL (bl s))) ∧ w' = w :=
  (refName_any s w hs).mono fun _ _ ⟨he, hw⟩ => ⟨he, hw.symm⟩

theorem find_both (A : List ByteArray) (s : ByteArray) : (findTells A s = (0, false) ∧ findZ A s = -1) ∨ ∃ q : Nat, findTells A s = ((q : Int), true) ∧ findZ A s = (q : Int) := by
  by_cases hm : s ∈ A
  · exact .inr ⟨A.idxOf s, by simp [findTells, hm], by simp [findZ, hm]⟩
  · exact .inl ⟨by simp [findTells, hm], by simp [findZ, hm]⟩

def ab : ByteArray := ⟨#[97, 47, 98]⟩
theorem ab_valid : validL (bl ab) = true := by decide +kernel
def xy : ByteArray := ⟨#[120, 61, 49, 44, 121]⟩
theorem xy_valid : validL (bl xy) = true := by decide +kernel
theorem put_prefix (A : List ByteArray) (s : ByteArray) : (putNames A s).take A.length = A := by
  unfold putNames
  split
  · simp
  · simp
theorem ab_some {A : List ByteArray} (h : A.length < 1024) : 0 < (putNames A ab).length := by
  by_cases hm : ab ∈ A
  · have h1 := List.length_pos_of_mem hm
    have h2 := putNames_ge A ab
    omega
  · have : putNames A ab = A ++ [ab] := by unfold putNames; rw [if_pos ⟨ab_valid, hm, h⟩]
    rw [this]; simp
theorem src_pre {w : World} {ad : Addr} {n c k : Nat} {B : List ByteArray} (h : Src w 1 (.slice (some ad) n c) n (strs B)) (hk : k ≤ n) : Src w 1 (.slice (some ad) k c) k (strs (B.take k)) := by
  have hl := strs_src_len h
  rcases h with ⟨e, _⟩ | ⟨ad', c', e, _, h2, h3⟩
  · cases e
  · cases e
    refine .inr ⟨ad, c, rfl, by rw [strs_len]; simp; omega, fun j u hj => ?_, strs_one _⟩
    rw [strs, List.map_take, List.getElem?_take] at hj
    split at hj
    · exact h2 j u hj
    · cases hj

theorem play_k (kk : Int) (A : List ByteArray) : (∃ q : Nat, kk = (q : Int) ∧ ∃ s, A[q]? = some s) ∨ kk < 0 ∨ (0 ≤ kk ∧ (A.length : Int) ≤ kk) := by
  rcases Int.lt_or_le kk 0 with h | h
  · exact .inr (.inl h)
  · rcases Int.lt_or_le kk A.length with h2 | h2
    · obtain ⟨q, rfl⟩ := Int.eq_ofNat_of_zero_le h
      exact .inl ⟨q, rfl, _, List.getElem?_eq_getElem (by omega)⟩
    · exact .inr (.inr ⟨h, h2⟩)

set_option maxHeartbeats 8000000 in
set_option maxRecDepth 100000 in
theorem plays_any (w : World) (a : Option Addr) (n c : Nat) (l : List ByteArray) (kk : Int) (hs : Src w 1 (.slice a n c) n (strs l)) (hsz : ∀ s ∈ l, s.size ≤ maxLen) (hn : n ≤ 8796093022208) :
    Calls Try.prog 4 #[.slice a n c, .int .i64 kk] w fun e w' => e = .returned (.bool true) ∧ Ext w w' := by
  have HS := Lib.hid hs
  have LN := Lib.hid (strs_src_len hs)
  have HZ := Lib.hid hsz
  clear hs hsz
  go_enter Try.func4, Try.ntmps4
  go_wp2_with fail
  refine (dict_new _).mono ?_
  rintro e w1 ⟨rfl, hd1, hx1⟩
  obtain ⟨d, hdd⟩ : ∃ d, d = w.heap.size + 1 := ⟨_, rfl⟩
  obtain ⟨mb, hmb⟩ : ∃ mb, mb = w.heap.size := ⟨_, rfl⟩
  have H1 : Hid (PlayR w d mb [] (.slice none 0 0) w1) := Lib.hid (by
    subst hdd hmb
    exact ⟨hd1, .inl ⟨rfl, rfl, rfl⟩, fun g hg => by simp [Value.ownBlock] at hg, hx1, Nat.le_refl _⟩)
  rw [← hdd]
  clear hd1 hx1 hdd hmb
  go_wp2_with fail
  go_loopw [6, 7] (fun v i wr => ∃ (j : Nat) (oa : Option Addr) (oc : Nat) (A : List ByteArray), j ≤ n ∧ j ≤ 200 ∧ i = .int .i64 j ∧ v = .slice oa A.length oc ∧ Hid (A = putAll [] (l.take j)) ∧ Hid (PlayR w d mb A (.slice oa A.length oc) wr)) (fun _ i _ => n - (RowKit.intOf i).toNat)
  case atStart => exact ⟨0, none, 0, [], by omega, by omega, rfl, rfl, Lib.hid (by simp [putAll]), H1⟩
  case round =>
    clear H1
    obtain ⟨j, oa, oc, A, hj, hj2, rfl, rfl, HA, HI⟩ := hrel
    have hfew : A.length ≤ 200 := by rw [HA.out]; have := putAll_len (l.take j) []; simp at this ⊢; omega
    by_cases hlt : j < n ∧ j < 200
    · obtain ⟨hlt, hlt2⟩ := hlt
      obtain ⟨b1, o1, s, rfl, hx, c0⟩ := strs_src HS.out hlt
      have HC : Hid (∀ w', Ext w w' → w'.cell? ⟨b1, o1 + j, none⟩ = some (.string s)) := Lib.hid (fun w' hx => (hx.cell (p := ⟨b1, o1 + j, none⟩) (World.block_lt_of_cell? w _ c0)).trans c0)
      have c1 := HC.out wr HI.out.ext
      clear c0
      have HX : Hid (putNames A s = putAll [] (l.take (j + 1))) := Lib.hid (by rw [HA.out, List.take_add_one, hx]; exact (putAll_snoc _ _ _).symm)
      have HSZ := Lib.hid (HZ.out s (List.mem_of_getElem? hx))
      clear hx
      by_cases hbig : 200 < s.size
      · have HX2 : Hid (putNames A s = A) := Lib.hid (by
          unfold putNames
          rw [if_neg (fun h => by have := valid_size (s := s) h.1; omega)])
        go_wp2_with fail
        go_roundw
        case rel => exact ⟨j + 1, oa, oc, A, by omega, by omega, by go_num, rfl, Lib.hid (by rw [← HX.out, HX2.out]), HI⟩
        case measure => simp [RowKit.intOf]; omega
      · go_wp2_with fail
        refine (dict_put HI.out.dict s HSZ.out).mono ?_
        rintro e w2 ⟨rfl, hd2, hc2⟩
        have hx2 : Ext w w2 := ((Chg.of_ext (S := (· = mb)) HI.out.ext).trans hc2 (fun _ _ e => e)).ext (fun i hi e => by have := HI.out.new; omega)
        have s2 := HI.out.src.chg hc2 (fun g hg => (HI.out.own g hg).2)
        have HX2 := Lib.hid hx2
        have HS2 := Lib.hid s2
        have c2 := HC.out w2 hx2
        have HD2 := Lib.hid hd2
        have HC2 := Lib.hid hc2
        clear hd2 hc2 hx2 s2 c1
        obtain ⟨t1, ht1⟩ : ∃ t, t = putTells A s := ⟨_, rfl⟩
        rw [← ht1]
        go_wp2_with fail
        refine (refPut_any w2 _ _ _ _ s HS2.out (by omega) HSZ.out).mono ?_
        rintro e w3 ⟨v3, rfl, ht⟩
        rw [← ht1]
        clear ht1
        obtain ⟨t1, t2⟩ := t1
        obtain ⟨a3, c3, rfl⟩ := ht.src.shape
        have H3 := Lib.hid (HI.out.put HD2.out HC2.out ht)
        have c3' := HC.out w3 H3.out.ext
        have hfew3 : (putNames A s).length ≤ 201 := by have := putNames_len A s; omega
        clear ht HS2 c2
        go_wp2_with fail
        refine (dict_find H3.out.dict s).mono ?_
        rintro e w4 ⟨rfl, rfl⟩
        rcases find_both (putNames A s) s with ⟨hf1, hf2⟩ | ⟨q, hf1, hf2⟩
        all_goals
          rw [hf1]
          have HF2 := Lib.hid hf2
          clear hf1 hf2
          go_wp2_with fail
          refine (refFind_any w3 _ _ _ _ s H3.out.src (by omega)).mono ?_
          rintro e w5 ⟨rfl, rfl⟩
          rw [HF2.out]
          go_wp2_with fail
          obtain ⟨bv, hbv⟩ : ∃ bv, bv = validL (bl s) := ⟨_, rfl⟩
          have HQ1 : Hid (∀ w, Calls Try.prog 12 #[.string s] w fun e w' => e = .returned (.bool bv) ∧ w' = w) := Lib.hid (fun w => by rw [hbv]; exact validQ s w HSZ.out)
          have HQ2 : Hid (∀ w, Calls Try.prog 16 #[.string s] w fun e w' => e = .returned (.bool bv) ∧ w' = w) := Lib.hid (fun w => by rw [hbv]; exact refNameQ s w HSZ.out)
          clear hbv
          cases bv
          all_goals
            go_big_quiet (first
              | (go_at_call 12; exact Calls.quiet_of_same (HQ1.out _))
              | (go_at_call 16; exact Calls.quiet_of_same (HQ2.out _)))
            go_wp2_with fail
            go_roundw
            case rel => exact ⟨j + 1, a3, c3, putNames A s, by omega, by omega, by go_num, rfl, HX, Lib.hid (H3.out.ext' (Ext.drewN _ _))⟩
            case measure => simp [RowKit.intOf]; omega
    · clear HA HS LN HZ
      rcases Nat.lt_or_ge j n with hlt1 | hge
      case' inl =>
        have hge6 : ¬ j < 200 := fun h => hlt ⟨hlt1, h⟩
        clear hlt
        go_wp2_with fail
      case' inr =>
        have hge' : ¬ j < n := by omega
        clear hlt
        go_wp2_with fail
      all_goals
        rcases play_k kk A with h | h | h
        all_goals
          first
            | (have hneg : kk < 0 := h
               clear h
               refine (dict_name_no HI.out.dict kk (.inl hneg)).mono ?_
               rintro e w2 ⟨rfl, rfl⟩
               have H2 := HI
               have hneg' : ¬ 0 ≤ kk := by omega)
            | (have hpos : 0 ≤ kk := h.1
               have hno : ¬ kk < (A.length : Int) := by have := h.2; omega
               refine (dict_name_no HI.out.dict kk (.inr h.2)).mono ?_
               clear h
               rintro e w2 ⟨rfl, rfl⟩
               have H2 := HI)
            | (obtain ⟨q, rfl, s, hq⟩ := h
               refine (dict_name HI.out.dict q s hq).mono ?_
               rintro e w2 ⟨rfl, hx2⟩
               have H2 := Lib.hid (HI.out.ext' hx2)
               have hql := (List.getElem?_eq_some_iff.1 hq).1
               obtain ⟨b5, o5, s', rfl, hs', c5⟩ := strs_src H2.out.src hql
               rw [hq] at hs'
               cases hs'
               have he5 : (s.toList == s.toList) = true := by rw [same_eq]; simp
               clear hq hx2)
        all_goals
          go_wp2_with fail
          refine (dict_put H2.out.dict ab (by decide +kernel)).mono ?_
          rintro e w3 ⟨rfl, hd3, hc3⟩
          have HD3 := Lib.hid hd3
          have HX3 : Hid (Ext w w3) := Lib.hid (((Chg.of_ext (S := (· = mb)) H2.out.ext).trans hc3 (fun _ _ e => e)).ext (fun i hi e => by have := H2.out.new; omega))
          have HS3 := Lib.hid (H2.out.src.chg hc3 (fun g hg => (H2.out.own g hg).2))
          clear hd3 hc3
          try clear c5
          obtain ⟨t1, ht1⟩ : ∃ t, t = putTells A ab := ⟨_, rfl⟩
          rw [← ht1]
          go_wp2_with fail
          refine (refPut_any w3 _ _ _ _ ab HS3.out (by omega) (by decide +kernel)).mono ?_
          rintro e w4 ⟨v4, rfl, ht⟩
          rw [← ht1]
          clear ht1
          obtain ⟨t1, t2⟩ := t1
          obtain ⟨a4, c4, rfl⟩ := ht.src.shape
          have HD4 := Lib.hid (HD3.out.ext ht.ext)
          have HX4 := Lib.hid (HX3.out.trans ht.ext)
          have HS4 := Lib.hid (HS3.out.ext ht.ext)
          have hfew4 : (putNames A ab).length ≤ 201 := by have := putNames_len A ab; omega
          have hge4 := putNames_ge A ab
          have hpos4 := ab_some (A := A) (by omega)
          have HPR := Lib.hid (put_prefix A ab)
          clear ht HD3 HX3 HS3
          generalize putNames A ab = B at *
          go_wp2_with fail
          refine (dict_names HD4.out).mono ?_
          rintro e w5 ⟨v5, rfl, hto⟩
          obtain ⟨g5, c5, rfl, hb5⟩ := StrBlk.of_row hto.row hpos4
          have hcap5 : B.length ≤ c5 := by obtain ⟨cur, h1, h2, h3, h4⟩ := hb5; exact h3
          have hac : A.length ≤ c5 := by omega
          have S5 : Hid (Src w5 1 (.slice (some ⟨g5, 0, none⟩) A.length c5) A.length (strs A)) := Lib.hid (by
            have h := src_pre hto.row.strs_src hge4
            rw [HPR.out] at h; exact h)
          have HD5 := Lib.hid (HD4.out.ext hto.ext)
          have HX5 := Lib.hid (HX4.out.trans hto.ext)
          have HS5 := Lib.hid (HS4.out.ext hto.ext)
          clear hto hb5 HS4 HX4 HD4
          go_wp2_with fail
          refine (texts_any w5 _ _ _ _ _ _ _ _ S5.out HS5.out (by omega)).mono ?_
          rintro e w6 ⟨rfl, hx6⟩
          rw [decide_eq_true rfl]
          have HD6 := Lib.hid (HD5.out.ext hx6)
          have HX6 := Lib.hid (HX5.out.trans hx6)
          clear hx6 HD5 HX5 HS5 S5
          go_wp2_with fail
          refine (valid_any xy _ (by decide +kernel)).mono ?_
          rintro e w7 ⟨rfl, rfl⟩
          rw [show validL xy.data.toList = true from xy_valid]
          go_wp2_with fail
          refine (dict_sorted HD6.out).mono ?_
          rintro e w7 ⟨v7, rfl, hto⟩
          obtain ⟨a7, c7, rfl⟩ := hto.row.shape
          rw [sortS_length]
          have HD7 := Lib.hid (HD6.out.ext hto.ext)
          have HX7 := Lib.hid (HX6.out.trans hto.ext)
          clear hto HD6 HX6
          go_wp2_with fail
          refine (dict_len HD7.out).mono ?_
          rintro e w8 ⟨rfl, rfl⟩
          go_wp2_with fail
          refine (dict_sorted HD7.out).mono ?_
          rintro e w8 ⟨v8, rfl, hto⟩
          obtain ⟨a8, c8, rfl⟩ := hto.row.shape
          have HD8 := Lib.hid (HD7.out.ext hto.ext)
          have HX8 := Lib.hid (HX7.out.trans hto.ext)
          have S8 := Lib.hid hto.row.strs_src
          clear hto HD7 HX7
          go_wp2_with fail
          refine (dict_names HD8.out).mono ?_
          rintro e w9 ⟨v9, rfl, hto⟩
          obtain ⟨a9, c9, rfl⟩ := hto.row.shape
          have HX9 := Lib.hid (HX8.out.trans hto.ext)
          have S9 := Lib.hid hto.row.strs_src
          have S8' := Lib.hid (S8.out.ext hto.ext)
          clear hto HD8 HX8 S8
          go_wp2_with fail
          refine (refSorted_any w9 _ _ _ _ S9.out (by omega)).mono ?_
          rintro e w10 ⟨v10, rfl, hto⟩
          obtain ⟨a10, c10, rfl⟩ := hto.row.shape
          have HX10 := Lib.hid (HX9.out.trans hto.ext)
          have S10 := Lib.hid hto.row.strs_src
          have S8'' := Lib.hid (S8'.out.ext hto.ext)
          have hsl := sortS_length B
          have HSL := Lib.hid hsl
          have hs60 : (sortS B).length ≤ 201 := by omega
          clear hsl hto HX9 S9 S8'
          go_wp2_with fail
          refine (texts_any w10 _ _ _ _ _ _ _ _ S8''.out S10.out (by omega)).mono ?_
          rintro e w11 ⟨rfl, hx11⟩
          rw [decide_eq_true rfl]
          have HX11 := Lib.hid (HX10.out.trans hx11)
          clear hx11
          go_wp2_with fail
          go_ret
          exact ⟨rfl, HX11.out⟩
end Go.Proofs.Yteojffhkdfdmgaa
