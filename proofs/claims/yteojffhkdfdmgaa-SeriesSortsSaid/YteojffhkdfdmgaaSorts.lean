/- SeriesSorts: the walk. -/
import Derived.Test.YteojffhkdfdmgaaTxs
import Derived.WalkLawsBesides
import Derived.IntWalk
namespace Go.Proofs.Yteojffhkdfdmgaa
open Go.RowKit Go.Sort Go.Lib

/-- Two dicts side by side. -/
structure Two (w : World) (da ma db mb : Nat) (A B : List ByteArray) (wr : World) : Prop where
  a : DictAt wr da ma A
  b : DictAt wr db mb B
  ext : Ext w wr
  ne : da ≠ mb ∧ db ≠ ma ∧ ma ≠ mb
  new : w.heap.size ≤ ma ∧ w.heap.size ≤ mb

theorem Two.ext' {w wr w1 : World} {da ma db mb : Nat} {A B : List ByteArray} (h : Two w da ma db mb A B wr) (hx : Ext wr w1) : Two w da ma db mb A B w1 :=
  ⟨h.a.ext hx, h.b.ext hx, h.ext.trans hx, h.ne, h.new⟩
theorem Two.putA {w wr w1 : World} {da ma db mb : Nat} {A A' B : List ByteArray} (h : Two w da ma db mb A B wr) (hd : DictAt w1 da ma A') (hc : Chg (· = ma) wr w1) : Two w da ma db mb A' B w1 :=
  ⟨hd, h.b.chg hc h.ne.2.1 (fun e => h.ne.2.2 e.symm), ((Chg.of_ext (S := (· = ma)) h.ext).trans hc (fun _ _ e => e)).ext (fun i hi e => by have := h.new; omega), h.ne, h.new⟩
theorem Two.putB {w wr w1 : World} {da ma db mb : Nat} {A B B' : List ByteArray} (h : Two w da ma db mb A B wr) (hd : DictAt w1 db mb B') (hc : Chg (· = mb) wr w1) : Two w da ma db mb A B' w1 :=
  ⟨h.a.chg hc h.ne.1 h.ne.2.2, hd, ((Chg.of_ext (S := (· = mb)) h.ext).trans hc (fun _ _ e => e)).ext (fun i hi e => by have := h.new; omega), h.ne, h.new⟩

def zz : ByteArray := ⟨#[122, 122]⟩
theorem zz_valid : validL (bl zz) = true := by decide +kernel

theorem rev_take {l : List ByteArray} {N j q : Nat} {s : ByteArray} (hN : N ≤ l.length) (hj : j < N) (hq : q = N - 1 - j) (hs : l[q]? = some s) : (l.take N).reverse.take (j + 1) = (l.take N).reverse.take j ++ [s] := by
  rw [List.take_add_one]
  have h1 : (l.take N).length = N := by rw [List.length_take]; omega
  have h2 : (l.take N).reverse[j]? = some s := by
    rw [List.getElem?_reverse (by rw [h1]; exact hj), h1, ← hq, List.getElem?_take, if_pos (by omega), hs]
  rw [h2]; rfl

/-- The names that are put, in this order and in the other one. -/
theorem sorts_same {l : List ByteArray} (N : Nat) (hN : N ≤ 60) (hl : N ≤ l.length) (hA : (putAll [] (l.take N)).Nodup) (hB : (putAll [] ((l.take N).reverse.take N)).Nodup) :
    sortS (putAll [] (l.take N)) = sortS (putAll [] ((l.take N).reverse.take N)) := by
  have h1 : (l.take N).length = N := by rw [List.length_take]; omega
  have h2 : (l.take N).reverse.take N = (l.take N).reverse := List.take_of_length_le (by simp [h1])
  rw [h2] at hB ⊢
  refine sortS_of_mem hA hB (fun x => ?_)
  rw [mem_putAll _ _ (by simp; omega), mem_putAll _ _ (by simp; omega)]
  simp
theorem sorts_valid {l : List ByteArray} (N : Nat) (hN : N ≤ 60) {k : Nat} {x : ByteArray} (h : (sortS (putAll [] (l.take N)))[k]? = some x) : validL (bl x) = true := by
  have hm : x ∈ putAll [] (l.take N) := (sortS_perm _).subset (List.mem_of_getElem? h)
  rw [mem_putAll _ _ (by simp; omega)] at hm
  rcases hm with hm | hm
  · simp at hm
  · exact hm.2
theorem sorts_last {A : List ByteArray} {x : ByteArray} (hm : zz ∈ A) (hx : (sortS A)[(sortS A).length - 1]? = some x) : Op.bytesLess x.toList zz.toList = false := by
  rw [less_eq]
  simp only [decide_eq_false_iff_not]
  intro hlt
  obtain ⟨i, hi⟩ := List.getElem?_of_mem ((sortS_perm A).symm.subset hm)
  have hil := (List.getElem?_eq_some_iff.1 hi).1
  have h1 := List.pairwise_iff_getElem.1 (sortS_sorted A)
  obtain ⟨hxl, rfl⟩ := List.getElem?_eq_some_iff.1 hx
  obtain ⟨_, hz⟩ := List.getElem?_eq_some_iff.1 hi
  rcases Nat.lt_or_ge i ((sortS A).length - 1) with h | h
  · have := h1 i _ hil hxl h
    rw [hz] at this
    exact absurd hlt (List.not_lt.2 this)
  · have e : i = (sortS A).length - 1 := by omega
    subst e
    rw [hz] at hlt
    exact List.lt_irrefl _ hlt
theorem sorts_rise {A : List ByteArray} (hn : A.Nodup) {k : Nat} {x y : ByteArray} (hx : (sortS A)[k]? = some x) (hy : (sortS A)[k + 1]? = some y) : bl x < bl y := by
  obtain ⟨h1, rfl⟩ := List.getElem?_eq_some_iff.1 hx
  obtain ⟨h2, rfl⟩ := List.getElem?_eq_some_iff.1 hy
  exact List.pairwise_iff_getElem.1 (sortS_strict hn) k (k + 1) h1 h2 (by omega)

theorem sorts_one {w : World} {A : List ByteArray} {a : Option Addr} {c : Nat} (h : Src w 1 (.slice a (sortS A).length c) (sortS A).length (strs (sortS A))) (hl : A.length ≤ 60) :
    ∃ q : Nat, putTells A zz = ((q : Int), 0) ∧ (((q : Int) != ((sortS A).length : Int)) = false ∨ (((q : Int) != ((sortS A).length : Int)) = true ∧ ∃ (b o : Nat) (z : ByteArray) (p : Nat), a = some ⟨b, o, none⟩ ∧ ((sortS A).length : Int) - 1 = (p : Int) ∧ p < (sortS A).length ∧ w.cell? ⟨b, o + p, none⟩ = some (.string z) ∧ Op.bytesLess z.toList [122, 122] = false)) := by
  by_cases hm : zz ∈ A
  · have hidx := List.idxOf_lt_length_iff.2 hm
    have hlen := sortS_length A
    refine ⟨A.idxOf zz, ?_, .inr ⟨by rw [bne_iff_ne]; omega, ?_⟩⟩
    · unfold putTells
      rw [if_neg (by rw [show validL zz.data.toList = true from zz_valid]; simp), if_pos hm]
    · obtain ⟨b3, o3, z, rfl, hz, c3⟩ := strs_src h (show (sortS A).length - 1 < (sortS A).length by omega)
      exact ⟨b3, o3, z, _, rfl, by omega, by omega, c3, by have := sorts_last hm hz; rwa [show zz.toList = [122, 122] by rw [ByteArray.toList_eq]; rfl] at this⟩
  · refine ⟨A.length, ?_, .inl (by rw [sortS_length]; simp)⟩
    unfold putTells
    rw [if_neg (by rw [show validL zz.data.toList = true from zz_valid]; simp), if_neg hm, if_neg (by omega)]

theorem valid_yes {s : ByteArray} (hv : validL (bl s) = true) (hs : s.size ≤ maxLen) (w : World) :
    Calls Try.prog 12 #[.string s] w fun e w' => e = .returned (.bool true) ∧ w' = w :=
  (valid_any s w hs).mono fun e w' ⟨he, hw⟩ => ⟨by rw [he, show validL s.data.toList = true from hv], hw.symm⟩

set_option maxHeartbeats 8000000 in
set_option maxRecDepth 100000 in
theorem sorts_any (w : World) (a : Option Addr) (n c : Nat) (l : List ByteArray) (hs : Src w 1 (.slice a n c) n (strs l)) (hsz : ∀ s ∈ l, s.size ≤ maxLen) (hn : n ≤ 8796093022208) :
    Calls Try.prog 3 #[.slice a n c] w fun e w' => e = .returned (.bool true) ∧ Ext w w' := by
  have HS := Lib.hid hs
  have LN := Lib.hid (strs_src_len hs)
  have HZ := Lib.hid hsz
  clear hs hsz
  go_enter Try.func3, Try.ntmps3
  go_wp2_with fail
  refine (dict_new _).mono ?_
  rintro e w1 ⟨rfl, hd1, hx1⟩
  have HD1 := Lib.hid hd1
  have HX1 := Lib.hid hx1
  clear hd1 hx1
  go_wp2_with fail
  refine (dict_new _).mono ?_
  rintro e w2 ⟨rfl, hd2, hx2⟩
  obtain ⟨da, hda⟩ : ∃ da, da = w.heap.size + 1 := ⟨_, rfl⟩
  obtain ⟨ma, hma⟩ : ∃ ma, ma = w.heap.size := ⟨_, rfl⟩
  obtain ⟨db, hdb⟩ : ∃ db, db = w1.heap.size + 1 := ⟨_, rfl⟩
  obtain ⟨mb, hmb⟩ : ∃ mb, mb = w1.heap.size := ⟨_, rfl⟩
  have hd1 := HD1.out
  have H2 : Hid (Two w da ma db mb [] [] w2) := Lib.hid (by
    have l1 := hd1.lt
    have l2 := HX1.out.size
    subst hda hma hdb hmb
    exact ⟨hd1.ext hx2, hd2, HX1.out.trans hx2, ⟨by omega, by omega, by omega⟩, ⟨Nat.le_refl _, l2⟩⟩)
  rw [← hda, ← hdb]
  clear hd1 hd2 hx2 hda hma hdb hmb HD1 HX1
  go_wp2_with fail
  obtain ⟨N, hNn, hN6, hNmin⟩ : ∃ N : Nat, N ≤ n ∧ N ≤ 60 ∧ min (n : Int) 60 = (N : Int) := ⟨min n 60, by omega, by omega, by omega⟩
  have HM : Hid (min (n : Int) 60 = (N : Int)) := Lib.hid hNmin
  clear hNmin
  go_loopw [5] (fun i wr => ∃ j : Nat, j ≤ N ∧ i = .int .i64 j ∧ Hid (Two w da ma db mb (putAll [] (l.take j)) (putAll [] ((l.take N).reverse.take j)) wr)) (fun i _ => N - (RowKit.intOf i).toNat)
  case atStart => exact ⟨0, by omega, rfl, by simpa [putAll] using H2⟩
  case round =>
    clear H2
    obtain ⟨j, hj, rfl, HI⟩ := hrel
    by_cases hlt : j < N
    · have hlt1 : j < n := by omega
      have hlt6 : j < 60 := by omega
      obtain ⟨b1, o1, x, rfl, hx, c1⟩ := strs_src (HS.out.ext HI.out.ext) hlt1
      obtain ⟨q, hq, hqn⟩ : ∃ q : Nat, q = N - 1 - j ∧ q < n := ⟨_, rfl, by omega⟩
      have HX : Hid (putAll [] (l.take (j + 1)) = putNames (putAll [] (l.take j)) x) := Lib.hid (by rw [List.take_add_one, hx]; exact putAll_snoc _ _ _)
      have HXS := Lib.hid (HZ.out x (List.mem_of_getElem? hx))
      have HQ : Hid ((N : Int) - 1 - (j : Int) = (q : Int)) := Lib.hid (by omega)
      have HQ2 := Lib.hid hq
      have HLT := Lib.hid hlt
      clear hx hq hlt
      go_wp2_with fail
      refine (dict_put HI.out.a x HXS.out).mono ?_
      rintro e w3 ⟨rfl, hd3, hc3⟩
      have H3 := Lib.hid (HI.out.putA hd3 hc3)
      clear hd3 hc3 c1
      have hb2 := (HS.out.ext H3.out.ext)
      obtain ⟨b2, o2, y, e2, hy, c2⟩ := strs_src hb2 hqn
      simp only [Option.some.injEq, Addr.mk.injEq, and_true] at e2
      obtain ⟨rfl, rfl⟩ := e2
      have HY : Hid (putAll [] ((l.take N).reverse.take (j + 1)) = putNames (putAll [] ((l.take N).reverse.take j)) y) := Lib.hid (by
        rw [rev_take (by have := LN.out; omega) HLT.out HQ2.out hy]; exact putAll_snoc _ _ _)
      have HYS := Lib.hid (HZ.out y (List.mem_of_getElem? hy))
      clear hy hb2
      have hm := HM.out
      have hqq := HQ.out
      by_cases hbig : y.size < 1000
      · go_wp2_with fail
        refine (dict_put H3.out.b y HYS.out).mono ?_
        rintro e w4 ⟨rfl, hd4, hc4⟩
        have H4 := Lib.hid (H3.out.putB hd4 hc4)
        clear hd4 hc4 c2
        go_wp2_with fail
        go_roundw
        case rel => exact ⟨j + 1, by omega, by go_num, Lib.hid (by rw [HX.out, HY.out]; exact H4.out)⟩
        case measure => simp [RowKit.intOf]; omega
      · have hbig' : 1000 ≤ y.size := by omega
        have HV : Hid (putNames (putAll [] ((l.take N).reverse.take j)) y = putAll [] ((l.take N).reverse.take j)) := Lib.hid (by
          unfold putNames
          rw [if_neg (fun h => by have := valid_size (s := y) h.1; omega)])
        clear hbig
        go_wp2_with fail
        go_roundw
        case rel => exact ⟨j + 1, by omega, by go_num, Lib.hid (by rw [HX.out, HY.out, HV.out]; exact H3.out)⟩
        case measure => simp [RowKit.intOf]; omega
    · obtain rfl : j = N := by omega
      have hno : ¬ (j < n ∧ j < 60) := by
        rintro ⟨h1, h2⟩
        have hm := HM.out
        rw [Int.min_def] at hm
        split at hm <;> omega
      have HSA := Lib.hid (sorts_same j hN6 (by have := LN.out; omega) HI.out.a.nodup HI.out.b.nodup)
      have HSV : Hid (∀ (k : Nat) x, (sortS (putAll [] (l.take j)))[k]? = some x → validL (bl x) = true) := Lib.hid (fun k x h => sorts_valid j hN6 h)
      have HLA : Hid ((putAll [] (l.take j)).length ≤ 60) := Lib.hid (by have := putAll_len (l.take j) []; simp at this; omega)
      clear HM hlt hj hN6
      generalize putAll [] (l.take j) = A at *
      generalize putAll [] ((l.take j).reverse.take j) = B at *
      rcases Nat.lt_or_ge j n with hlt | hge
      case' inl =>
        have hge6 : ¬ j < 60 := fun h => hno ⟨hlt, h⟩
        clear hno
        go_wp2_with fail
      case' inr =>
        have hge' : ¬ j < n := by omega
        clear hno
        go_wp2_with fail
      all_goals
        refine (dict_sorted HI.out.a).mono ?_
        rintro e w3 ⟨v1, rfl, hto⟩
        obtain ⟨a1, c1, rfl⟩ := hto.row.shape
        have HT1 := Lib.hid hto
        have H3 := Lib.hid (HI.out.ext' hto.ext)
        clear hto
        go_wp2_with fail
        refine (dict_sorted H3.out.b).mono ?_
        rintro e w4 ⟨v2, rfl, hto⟩
        obtain ⟨a2, c2, rfl⟩ := hto.row.shape
        have HT2 := Lib.hid hto
        have H4 := Lib.hid (H3.out.ext' hto.ext)
        have HT1' := Lib.hid (HT1.out.row.ext hto.ext)
        clear hto
        go_wp2_with fail
        refine (dict_put H4.out.a zz (by decide +kernel)).mono ?_
        rintro e w5 ⟨rfl, hd5, hc5⟩
        have H5 := Lib.hid (H4.out.putA hd5 hc5)
        have R1 : Hid (Src w5 1 (.slice a1 (sortS A).length c1) (sortS A).length (strs (sortS A))) := Lib.hid ((HT1'.out.chg hc5 (fun g hg e => by have h1 := HT1.out.own g hg; have h2 := HI.out.a.map.lt; omega)).strs_src)
        have R2 : Hid (Src w5 1 (.slice a2 (sortS B).length c2) (sortS B).length (strs (sortS B))) := Lib.hid ((HT2.out.row.chg hc5 (fun g hg e => by have h1 := HT2.out.own g hg; have h2 := H3.out.a.map.lt; omega)).strs_src)
        clear hd5 hc5
        have HLS : Hid ((sortS A).length = A.length) := Lib.hid (sortS_length A)
        have HN : Hid (A.length ≤ (putNames A zz).length ∧ 1 ≤ (putNames A zz).length) := Lib.hid ⟨putNames_ge A zz, by
          by_cases hm : zz ∈ A
          · have h1 := List.length_pos_of_mem hm
            have h2 := putNames_ge A zz
            omega
          · have h3 : putNames A zz = A ++ [zz] := by
              unfold putNames
              rw [if_pos ⟨zz_valid, hm, by have := HLA.out; omega⟩]
            rw [h3]; simp⟩
        rcases sorts_one R1.out HLA.out with ⟨q, hT, hq | ⟨hne, b3, o3, z, p, rfl, hp, hpl, c3, hlast⟩⟩
        all_goals
          rw [hT]
          clear hT
          go_wp2_with fail
          refine (dict_len H5.out.a).mono ?_
          rintro e w6 ⟨rfl, rfl⟩
          have hl0 : (((putNames A zz).length : Int) == 0) = false := beq_eq_false_iff_ne.2 (by have := HN.out; omega)
          have hl60 : (sortS A).length ≤ 60 := by have := HLA.out; have := HLS.out; omega
          have hl1 : ((sortS A).length : Int) ≤ ((putNames A zz).length : Int) := by have := HN.out; have := HLS.out; omega
          go_wp2_with fail
          refine (texts_any w5 _ _ _ _ _ _ _ _ R1.out R2.out (by omega)).mono ?_
          rintro e w6 ⟨rfl, hx6⟩
          rw [decide_eq_true HSA.out]
          have H6 := Lib.hid (H5.out.ext' hx6)
          have R6 := Lib.hid (R1.out.ext hx6)
          clear hx6
          go_wp2_with fail
          refine (dict_names H6.out.a).mono ?_
          rintro e w7 ⟨v3, rfl, hto⟩
          obtain ⟨a3, c3', rfl⟩ := hto.row.shape
          have H7 := Lib.hid (H6.out.ext' hto.ext)
          have R7 := Lib.hid (R6.out.ext hto.ext)
          clear hto
          have HND := Lib.hid H3.out.a.nodup
          clear HT1 HT2 HT1' H3 H4 H5 R1 R2 H6 R6 HI HSA
          have hl2 : ¬ (putNames A zz).length < (sortS A).length := by omega
          go_wp2_with fail
          generalize hm : (sortS A).length = m at *
          have HMM := Lib.hid hm
          clear hm
          try clear hq
          try clear hne hp hpl hlast
          clear hl0 hl1 hl2
          go_loopw [11] (fun i w8 => ∃ k : Nat, k ≤ m ∧ i = .int .i64 k ∧ Hid (Ext w7 w8)) (fun i _ => m - (RowKit.intOf i).toNat)
          case atStart => exact ⟨0, by omega, rfl, Lib.hid (Ext.refl _)⟩
          case round =>
            obtain ⟨k, hk, rfl, HE⟩ := hrel
            by_cases hltm : k < m
            · obtain ⟨b4, o4, x, hav, hx, cx⟩ := strs_src (R7.out.ext HE.out) hltm
              cases hav
              have HV := Lib.hid (HSV.out k x hx)
              have HXS : Hid (x.size ≤ maxLen) := Lib.hid (by have := valid_size HV.out; unfold maxLen; omega)
              rcases Nat.eq_zero_or_pos k with h0 | h0
              case' inl =>
                have hg : ¬ 0 < k := by omega
                clear hx h0
              case' inr =>
                obtain ⟨p, hp⟩ : ∃ p, k = p + 1 := ⟨k - 1, by omega⟩
                obtain ⟨b5, o5, y, hav, hy, cy⟩ := strs_src (R7.out.ext HE.out) (show p < m by omega)
                cases hav
                have hxy : bl y < bl x := by rw [hp] at hx; exact sorts_rise HND.out hy hx
                have hls : Op.bytesLess x.toList y.toList = false := by rw [less_eq]; simpa using List.le_of_lt hxy
                have hle : (x.toList == y.toList) = false := by rw [same_eq]; simp only [decide_eq_false_iff_not]; rintro rfl; exact List.lt_irrefl _ hxy
                clear hxy
                have hpm : p < m := by omega
                have hkp : IntKind.i64.wrap ((k : Int) - 1) = (p : Int) := by rw [IntWalk.i64_in _ (by omega)]; omega
                clear hx hy hp
              all_goals
                go_wp2_with fail
                go_big_quiet ((go_at_call 12; exact Calls.quiet_of_same (valid_yes HV.out HXS.out _)))
                go_wp2_with fail
                go_roundw
                case rel => exact ⟨k + 1, by omega, by go_num, Lib.hid (HE.out.trans (Ext.drewN _ _))⟩
                case measure => simp [RowKit.intOf]; omega
            · go_wp2_with fail
              go_ret
              exact ⟨rfl, H7.out.ext.trans HE.out⟩
end Go.Proofs.Yteojffhkdfdmgaa
