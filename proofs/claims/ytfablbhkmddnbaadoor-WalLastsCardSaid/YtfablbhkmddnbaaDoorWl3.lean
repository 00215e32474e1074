/- wal.one: the first record of bytes. -/
import Derived.Test.YtfablbhkmddnbaaDoorWl1
import Derived.Stop.IfaceNil
import Derived.Test.YtfablbhkmddnbaaDoorErx
import Derived.Test.YtfablbhkmddnbaaDoorBls
namespace Go.Proofs.YtfablbhkmddnbaaDoor
open Go.RowKit Go.Sort Go.Lib

/-- What one tells. -/
def OnePost (w : World) (o : OneR) (e : Ending) (w' : World) : Prop := match o with
  | .fin => e = .returned (.tuple #[.slice none 0 0, .int .i64 0, .iface 27 (.int .i64 10)]) ∧ Ext w w'
  | .bad => e = .returned (.tuple #[.slice none 0 0, .int .i64 0, .iface 27 (.int .i64 24)]) ∧ Ext w w'
  | .got r n => ∃ a c, e = .returned (.tuple #[.slice a r.length c, .int .i64 (n : Int), .nilIface]) ∧ MadeTo w 5 1 (.slice a r.length c) r.length (u8s r) w'

theorem openR_in (l : List UInt8) : ((openR l).2.2 = 0 ∧ (openR l).2.1.length + 9 = l.length) ∨ ((openR l).2.2 ≠ 0 ∧ (openR l).2.1 = []) := by
  unfold openR
  split
  · exact .inr ⟨by simp, rfl⟩
  split
  · exact .inr ⟨by simp, rfl⟩
  split
  · exact .inr ⟨by simp, rfl⟩
  split
  · exact .inr ⟨by simp, rfl⟩
  split
  · exact .inr ⟨by simp, rfl⟩
  · refine .inl ⟨rfl, ?_⟩
    simp only [List.length_take, List.length_drop]
    omega
set_option maxHeartbeats 4000000 in
set_option maxRecDepth 100000 in
theorem little_none (w : World) (a : Option Addr) (c : Nat) :
    Calls Tryd.prog 69 #[.slice a 0 c] w fun e w' => e = .returned (.int .u64 0) ∧ Ext w w' := by
  go_enter Tryd.func69, Tryd.ntmps69
  have hm : min (0 : Int) 8 = 0 := by decide
  go_wp2_with fail
  go_ret
  exact ⟨rfl, ((Ext.refl w).alloc _).alloc _⟩

/-- A beginning of a slice. -/
theorem src_hiB {w : World} {a : Option Addr} {n c k : Nat} {l : List UInt8} (h : Src w 1 (.slice a n c) n (u8s l)) (hk : k ≤ n) (h0 : 0 < k) : Src w 1 (.slice a k c) k (u8s (l.take k)) := by
  have hln := u8s_src_len h
  rcases h with ⟨_, e, _⟩ | ⟨ad, c', e, hl, hc, ho⟩
  · omega
  · simp only [Value.slice.injEq] at e
    obtain ⟨rfl, _, rfl⟩ := e
    refine .inr ⟨ad, c, rfl, by simp [u8s]; omega, fun j u hj => hc j u ?_, fun u hu => ho u ?_⟩
    · rw [← u8s_take, List.getElem?_take] at hj
      split at hj
      · exact hj
      · cases hj
    · rw [← u8s_take] at hu
      exact List.mem_of_mem_take hu

set_option maxHeartbeats 8000000 in
set_option maxRecDepth 100000 in
theorem one_any (w : World) (a : Option Addr) (n c : Nat) (l : List UInt8) (hl : Src w 1 (.slice a n c) n (u8s l)) (hnc : n ≤ c) (hn : n ≤ 1099511627776) :
    Calls Tryd.prog 46 #[.slice a n c] w (OnePost w (oneW l)) := by
  have HL := Lib.hid hl
  have hlen := u8s_src_len hl
  have HN := Lib.hid hlen
  by_cases h13 : n < 13
  · have HO : Hid (oneW l = .fin) := Lib.hid (by unfold oneW; rw [if_pos (by omega)])
    have h13i : (n : Int) < 13 := by omega
    clear hl hlen
    go_enter Tryd.func46, Tryd.ntmps46
    go_wp2_with fail
    go_ret3
    rw [HO.out]
    exact ⟨rfl, Ext.refl _⟩
  · have h13i : ¬ (n : Int) < 13 := by omega
    have HS1 : Hid (Src w 1 (.slice a 13 c) 13 (u8s (l.take 13))) := Lib.hid (src_hiB hl (by omega) (by omega))
    have hc13 : 13 ≤ c := by omega
    have HW : Hid (oneW l = if (openR (l.take 13)).2.2 ≠ 0 ∨ (openR (l.take 13)).1 ≠ 1 ∨ 65536 < leN (openR (l.take 13)).2.1 then .bad
        else if n < leN (openR (l.take 13)).2.1 + 22 then .fin
        else if (openR ((l.drop 13).take (leN (openR (l.take 13)).2.1 + 9))).2.2 ≠ 0 ∨ (openR ((l.drop 13).take (leN (openR (l.take 13)).2.1 + 9))).1 ≠ 2 then .bad
        else .got (openR ((l.drop 13).take (leN (openR (l.take 13)).2.1 + 9))).2.1 (leN (openR (l.take 13)).2.1 + 22)) := Lib.hid (by
      unfold oneW headW
      rw [if_neg (by omega), hlen])
    have hin := openR_in (l.take 13)
    rw [show (l.take 13).length = 13 by rw [List.length_take]; omega] at hin
    have HOP := Lib.hid (open_any w a 13 c (l.take 13) HS1.out (by omega) (by omega))
    clear hlen
    obtain ⟨⟨k, four, er⟩, hr⟩ : ∃ r, r = openR (l.take 13) := ⟨_, rfl⟩
    rw [← hr] at HW hin HOP
    simp only at HW hin HOP
    clear hr
    go_enter Tryd.func46, Tryd.ntmps46
    go_wp2_with fail
    refine HOP.out.mono ?_
    rintro e w1 ⟨a1, c1, rfl, hm⟩
    have HM := Lib.hid hm
    clear hm HOP HS1
    simp only
    rcases hin with ⟨rfl, h4⟩ | ⟨her, rfl⟩
    · have h4' : four.length = 4 := by omega
      rw [h4'] at HM ⊢
      have HLI := Lib.hid (little_any w1 a1 c1 four (HM.out.row.src (u8s_one _)))
      have hlt : leN four < 4294967296 := by
        have h1 := leN_lt four
        rw [h4'] at h1; exact h1
      have HX1 := Lib.hid HM.out.ext
      clear h4 h4' HM
      generalize leN four = H at *
      by_cases hk : k = 1
      · subst hk
        rcases Nat.lt_or_ge 65536 H with hH | hH
        · have HO : Hid (oneW l = .bad) := Lib.hid (by rw [HW.out, if_pos (.inr (.inr hH))])
          have hHi : (65536 : Int) < (H : Int) := by omega
          clear HW
          go_wp2_with fail
          refine HLI.out.mono ?_
          rintro e w2 ⟨rfl, hx⟩
          have HX := Lib.hid (HX1.out.trans hx)
          clear hx HX1
          go_wp2_with fail
          go_ret3
          rw [HO.out]
          exact ⟨rfl, HX.out⟩
        · have hHi : ¬ (65536 : Int) < (H : Int) := by omega
          have HW2 := Lib.hid (HW.out.trans (if_neg (by simp; omega)))
          clear HW
          rcases Nat.lt_or_ge n (H + 22) with hL | hL
          · have HO : Hid (oneW l = .fin) := Lib.hid (by rw [HW2.out, if_pos hL])
            have hLi : (n : Int) - 13 < (H : Int) + 9 := by omega
            clear HW2
            go_wp2_with fail
            refine HLI.out.mono ?_
            rintro e w2 ⟨rfl, hx⟩
            have HX := Lib.hid (HX1.out.trans hx)
            clear hx HX1
            go_wp2_with fail
            go_ret3
            rw [HO.out]
            exact ⟨rfl, HX.out⟩
          · have hLi : ¬ (n : Int) - 13 < (H : Int) + 9 := by omega
            have HW3 := Lib.hid (HW2.out.trans (if_neg (by omega)))
            clear HW2
            obtain ⟨m, hm⟩ : ∃ m, m = H + 22 := ⟨_, rfl⟩
            have hmi : (13 : Int) + (H : Int) + 9 = (m : Int) := by omega
            have HS3 : Hid (Src w 1 (.slice (cutA a c 13) (m - 13) (c - 13)) (m - 13) (u8s ((l.drop 13).take (H + 9)))) := Lib.hid (by
              have := src_cut (l := 13) (h := m) (m := c) HL.out (by omega) (by omega) (by omega) (by omega)
              rw [u8s_drop, u8s_take] at this
              rw [show H + 9 = m - 13 by omega]; exact this)
            have hs3 : ∀ W, (Instr.sliceAt 22 (.slice a n c) (some (.int .i64 13)) (some (.int .i64 (m : Int))) none).run Tryd.prog W = .ok (.slice (cutA a c 13) (m - 13) (c - 13)) W := run_sliceAt_lohi (P := Tryd.prog) Tryd.underlying22 fr_u8 a n c 13 m (by omega) (by omega)
            have HOP2 := Lib.hid (fun W (hx : Ext w W) => open_any W (cutA a c 13) (m - 13) (c - 13) ((l.drop 13).take (H + 9)) (HS3.out.ext hx) (by omega) (by omega))
            obtain ⟨⟨k2, r2, er2⟩, hr2⟩ : ∃ r, r = openR ((l.drop 13).take (H + 9)) := ⟨_, rfl⟩
            rw [← hr2] at HW3 HOP2
            simp only at HW3 HOP2
            have HM22 := Lib.hid hm
            clear hr2 HS3 hm
            generalize cutA a c 13 = a3 at *
            generalize hc3 : c - 13 = c3 at *
            generalize hm3 : m - 13 = m3 at *
            clear hc3 hm3
            go_upto_region 9 with fail
            refine HLI.out.mono ?_
            rintro e w2 ⟨rfl, hx⟩
            have HX := Lib.hid (HX1.out.trans hx)
            clear hx HX1
            go_upto_region 10 with fail
            try rw [hmi]
            go_wp2_with fail
            clear hs3
            refine (HOP2.out w2 HX.out).mono ?_
            rintro e w3 ⟨a4, c4, rfl, hm⟩
            have HM4 := Lib.hid (MadeTo.trans HX.out hm)
            clear hm HOP2
            simp only at HM4 ⊢
            by_cases he : er2 = 0
            · subst he
              by_cases hk2 : k2 = 2
              · subst hk2
                have HO : Hid (oneW l = .got r2 (H + 22)) := Lib.hid (by rw [HW3.out, if_neg (by simp)])
                clear HW3
                go_wp2_with fail
                go_ret3
                rw [HO.out]
                refine ⟨a4, c4, ?_, HM4.out⟩
                rw [← HM22.out]
                rfl
              · have hki : ((k2.toNat : Int) != 2) = true := by
                  simp only [bne_iff_ne, ne_eq]
                  intro h
                  exact hk2 (UInt8.toNat_inj.1 (by show k2.toNat = 2; omega))
                have HO : Hid (oneW l = .bad) := Lib.hid (by rw [HW3.out, if_pos (.inr hk2)])
                clear HW3 hk2
                go_wp2_with fail
                go_ret3
                rw [HO.out]
                exact ⟨rfl, HM4.out.ext⟩
            · have hen : (er2 != 0) = true := by simpa using he
              have HO : Hid (oneW l = .bad) := Lib.hid (by rw [HW3.out, if_pos (.inl he)])
              clear HW3 he
              go_wp2_with fail
              go_ret3
              rw [HO.out]
              exact ⟨rfl, HM4.out.ext⟩
      · have hki : ((k.toNat : Int) != 1) = true := by
          simp only [bne_iff_ne, ne_eq]
          intro h
          exact hk (UInt8.toNat_inj.1 (by show k.toNat = 1; omega))
        have HO : Hid (oneW l = .bad) := Lib.hid (by rw [HW.out, if_pos (.inr (.inl hk))])
        clear HW hk
        go_wp2_with fail
        refine HLI.out.mono ?_
        rintro e w2 ⟨rfl, hx⟩
        have HX := Lib.hid (HX1.out.trans hx)
        clear hx HX1
        go_wp2_with fail
        go_ret3
        rw [HO.out]
        exact ⟨rfl, HX.out⟩
    · have hern : (er != 0) = true := by simpa using her
      have HO : Hid (oneW l = .bad) := Lib.hid (by rw [HW.out, if_pos (.inl her)])
      clear her HW
      go_wp2_with fail
      refine (little_none w1 a1 c1).mono ?_
      rintro e w2 ⟨rfl, hx⟩
      have HX := Lib.hid (HM.out.ext.trans hx)
      clear hx HM
      go_wp2_with fail
      go_ret3
      rw [HO.out]
      exact ⟨rfl, HX.out⟩
end Go.Proofs.YtfablbhkmddnbaaDoor

/-! wal.each: the records of a file, handed on. -/

namespace Go.Proofs.YtfablbhkmddnbaaDoor
open Go.RowKit Go.Sort Go.Lib

/-- The error that ends a file. -/
def endV : EndW → Value
  | .done => .nilIface
  | .torn at' => .iface 72 (.agg #[.int .i64 (at' : Int)])
  | .bad => .iface 27 (.int .i64 24)
theorem rowB_le {w : World} {e : TypeId} {size n m c : Nat} {a : Option Addr} {xs : List Value} (h : Row w e size (.slice a m c) n xs) : m ≤ c := by
  obtain ⟨hl, ⟨e', h0⟩ | ⟨g, cap, cur, e', hb0, hb, h1, h2, h3, h4⟩⟩ := h
  · simp at e'; omega
  · simp at e'; omega
theorem oneW_pos {b r : List UInt8} {n : Nat} (h : oneW b = .got r n) : 22 ≤ n ∧ n ≤ b.length := by
  unfold oneW at h
  split at h
  · cases h
  split at h
  · cases h
  split at h
  · cases h
  split at h
  · cases h
  · cases h
    exact ⟨by omega, by omega⟩

set_option maxHeartbeats 8000000 in
set_option maxRecDepth 100000 in
/-- each, whatever is done with a record. -/
theorem each_any (K : Nat) (caps : Array Value) (a : Option Addr) (n c : Nat) (l : List UInt8) (hnc : n ≤ c) (hn : n ≤ 1099511627776) (A : List (List UInt8) → World → Prop)
    (hcf : ∀ v W, (callFunc K (#[v] ++ caps)).run Tryd.prog W = .ok (.enter K (#[v] ++ caps)) W)
    (hA : ∀ rs w, A rs w → Src w 1 (.slice a n c) n (u8s l))
    (hX : ∀ rs w w', A rs w → Ext w w' → A rs w')
    (hS : ∀ rs w w1 (x : Bs), rs.length < n → A rs w → Ext w w1 → x.Ok w1 → (∀ g, x.v.ownBlock = some g → w.heap.size ≤ g ∧ g < w1.heap.size) → Calls Tryd.prog K (#[x.v] ++ caps) w1 fun e w' => e = .returned (.tuple #[]) ∧ A (rs ++ [x.l]) w')
    (w : World) (h : A [] w) :
    Calls Tryd.prog 32 #[.slice a n c, .func (.func K) #[] caps] w fun e w' => e = .returned (endV (eachW n 0 l).2) ∧ A (eachW n 0 l).1 w' := by
  have H := Lib.hid h
  have HA := Lib.hid hA
  have HX := Lib.hid hX
  have HS := Lib.hid hS
  have hlen := u8s_src_len (hA _ _ h)
  have HN := Lib.hid hlen
  clear h hA hX hS hlen
  go_enter Tryd.func32, Tryd.ntmps32
  go_wp2_with fail
  go_loopw [5, 6, 7, 8, 4, 21, 28] (fun s5 s6 s7 s8 s4 s21 s28 wr => ∃ (at' f : Nat) (rs : List (List UInt8)), s5 = .int .i64 (at' : Int) ∧ at' ≤ n ∧ rs.length ≤ at' ∧ Hid (n ≤ at' + f ∧ eachW n 0 l = (rs ++ (eachW f at' (l.drop at')).1, (eachW f at' (l.drop at')).2) ∧ A rs wr)) (fun s5 _ _ _ _ _ _ _ => n - (RowKit.intOf s5).toNat)
  case atStart => exact ⟨0, n, [], by go_num, by omega, by simp, Lib.hid ⟨by omega, by simp, H.out⟩⟩
  case round =>
    obtain ⟨at', f, rs, rfl, hat, hrl, HR⟩ := hrel
    rcases Nat.lt_or_ge at' n with hlt | hge
    · have hlti : (at' : Int) < (n : Int) := by omega
      obtain ⟨f', hf'⟩ : ∃ f', f = f' + 1 := ⟨f - 1, by have := HR.out.1; omega⟩
      have HE : Hid (eachW f at' (l.drop at') = match oneW (l.drop at') with
        | .fin => ([], .torn at')
        | .bad => ([], .bad)
        | .got r n => (r :: (eachW f' (at' + n) ((l.drop at').drop n)).1, (eachW f' (at' + n) ((l.drop at').drop n)).2)) := Lib.hid (by
        rw [hf', eachW, if_neg (by intro h; have := congrArg List.length h; simp at this; have := HN.out; omega)]
        rfl)
      have hs1 := run_sliceAt_lo (P := Tryd.prog) Tryd.underlying22 fr_u8 a n c at' hat
      have HS1 : Hid (∀ W, Src W 1 (.slice a n c) n (u8s l) → Src W 1 (.slice (cutA a c at') (n - at') (c - at')) (n - at') (u8s (l.drop at'))) := Lib.hid (fun W h => by
        have := src_cut (l := at') (h := n) (m := c) h (by omega) (by omega) (by omega) (by omega)
        rw [u8s_drop, u8s_take, List.take_of_length_le (by simp; have := HN.out; omega)] at this
        exact this)
      have HF := Lib.hid hf'
      have HC1 := Lib.hid (one_any wr (cutA a c at') (n - at') (c - at') (l.drop at') (HS1.out wr (HA.out _ _ HR.out.2.2)) (by omega) (by omega))
      have hdl : (l.drop at').length = n - at' := by have := HN.out; simp; omega
      have HDL := Lib.hid hdl
      have HOP := Lib.hid (fun r m (h : oneW (l.drop at') = .got r m) => oneW_pos h)
      clear hf' hdl
      generalize cutA a c at' = a1 at *
      generalize hn1 : n - at' = n1 at *
      generalize hc1 : c - at' = c1 at *
      clear hc1
      cases ho : oneW (l.drop at') with
      | fin =>
        rw [ho] at HC1 HE
        have HFIN : Hid (eachW n 0 l = (rs, .torn at')) := Lib.hid (by rw [HR.out.2.1, HE.out]; simp)
        clear ho
        go_wp2_with fail
        refine HC1.out.mono ?_
        rintro e w1 ⟨rfl, hx⟩
        have HA1 := Lib.hid (HX.out _ _ _ HR.out.2.2 hx)
        clear hx hs1
        go_wp2_with fail
        refine (is_errno 10 (.inl rfl) w1).mono ?_
        rintro e w2 ⟨rfl, rfl⟩
        go_wp2_with fail
        go_ret
        rw [HFIN.out]
        exact ⟨rfl, HA1.out⟩
      | bad =>
        rw [ho] at HC1 HE
        have HFIN : Hid (eachW n 0 l = (rs, .bad)) := Lib.hid (by rw [HR.out.2.1, HE.out]; simp)
        clear ho
        go_wp2_with fail
        refine HC1.out.mono ?_
        rintro e w1 ⟨rfl, hx⟩
        have HA1 := Lib.hid (HX.out _ _ _ HR.out.2.2 hx)
        clear hx hs1
        go_wp2_with fail
        refine (is_errno 24 (.inr rfl) w1).mono ?_
        rintro e w2 ⟨rfl, rfl⟩
        go_wp2_with fail
        go_ret
        rw [HFIN.out]
        exact ⟨rfl, HA1.out⟩
      | got r m =>
        obtain ⟨hm22, hmn⟩ := HOP.out r m ho
        rw [HDL.out] at hmn
        rw [ho] at HC1 HE
        clear ho
        go_wp2_with fail
        refine HC1.out.mono ?_
        rintro e w1 ⟨a2, c2, rfl, hm⟩
        have HM := Lib.hid hm
        clear hm hs1
        go_wp2_with fail
        refine (is_nil 10 w1).mono ?_
        rintro e w2 ⟨rfl, rfl⟩
        go_wp2_with fail
        refine (HS.out rs wr w2 ⟨a2, r.length, c2, r⟩ (by omega) HR.out.2.2 HM.out.ext ⟨HM.out.row.src (u8s_one _), rowB_le HM.out.row⟩ (fun g hg => ⟨HM.out.own g hg, HM.out.row.lt hg⟩)).mono ?_
        rintro e w3 ⟨rfl, hA3⟩
        have HA3 := Lib.hid hA3
        clear hA3
        go_wp2_with fail
        go_roundw
        case rel =>
          refine ⟨at' + m, f', rs ++ [r], by go_num, by omega, by simp; omega, Lib.hid ⟨by have := HR.out.1; have := HF.out; omega, ?_, HA3.out⟩⟩
          rw [HR.out.2.1, HE.out, List.drop_drop]
          simp
        case measure => simp [RowKit.intOf]; omega
    · obtain rfl : at' = n := by omega
      have HFIN : Hid (eachW at' 0 l = (rs, .done)) := Lib.hid (by
        have hd : l.drop at' = [] := List.drop_of_length_le (by rw [HN.out]; exact Nat.le_refl _)
        rw [HR.out.2.1, hd]
        cases f <;> simp [eachW])
      go_wp2_with fail
      go_ret
      rw [HFIN.out]
      exact ⟨rfl, HR.out.2.2⟩
end Go.Proofs.YtfablbhkmddnbaaDoor
