/- tidemillref03: Read, ReadText, Put, PutText. -/
import Derived.Test.YtgdgjnecgelalaaGreatDoorVpt
namespace Go.Proofs.YtgdgjnecgelalaaGreatDoor
open Go.RowKit Go.Sort Go.Lib

theorem valL_drop (l : List UInt8) (i : Nat) : valL (l.drop i) ≤ valL l := by
  induction i generalizing l with
  | zero => simp
  | succ i ih =>
    cases l with
    | nil => simp
    | cons c l => have := ih l; simp only [List.drop_succ_cons, valL]; omega
theorem valL_at {l : List UInt8} {i : Nat} {x : UInt8} (h : l[i]? = some x) : valL (l.drop i) = x.toNat % 128 + 128 * valL (l.drop (i + 1)) := by
  obtain ⟨h1, h2⟩ := List.getElem?_eq_some_iff.1 h
  rw [List.drop_eq_getElem_cons h1, h2, valL]

set_option maxHeartbeats 8000000 in
set_option maxRecDepth 100000 in
theorem ref3Read_any (w : World) (a : Option Addr) (n c : Nat) (l : List UInt8) (hl : Src w 1 (.slice a n c) n (u8s l)) (hn : n < 4611686018427387904) :
    Calls Tryz.prog 105 #[.slice a n c] w fun e w' => e = .returned (.tuple #[.int .u64 ((varR l).1 : Int), .int .i64 ((varR l).2.1 : Int), .int .i64 (varR l).2.2]) ∧ w = w' := by
  have HL := Lib.hid hl
  have HN := Lib.hid (u8s_src_len hl)
  have HB := Lib.hid (varR_bounds l)
  clear hl
  go_enter Tryz.func105, Tryz.ntmps105
  go_wp2_with fail
  go_loop [5] (fun i => ∃ k : Nat, k ≤ n ∧ k ≤ 10 ∧ i = .int .i64 k ∧ Hid (∀ i, i < k → ∃ c, l[i]? = some c ∧ 128 ≤ c.toNat)) (fun i => n - (RowKit.intOf i).toNat)
  case atStart => exact ⟨0, by omega, by omega, rfl, Lib.hid (fun i h => by omega)⟩
  case round =>
    obtain ⟨k, hk, hk10, rfl, HI⟩ := hrel
    by_cases hlt : k < n
    · obtain ⟨b, off, x, rfl, hx, x0⟩ := byte_src HL.out hlt
      have HX := Lib.hid hx
      clear hx
      by_cases h10 : k = 10
      · subst h10
        have HV : Hid (varR l = (0, 0, 11)) := Lib.hid (varR_big (conts_of HI.out).1)
        go_wp2_with fail
        go_ret3
        rw [HV.out]
        exact ⟨rfl, rfl⟩
      · have hk9 : k < 10 := by omega
        by_cases h128 : 128 ≤ x.toNat
        · have h128' : (128 : Int) ≤ (x.toNat : Int) := by omega
          have HC : Hid (∀ i, i < k + 1 → ∃ c, l[i]? = some c ∧ 128 ≤ c.toNat) := Lib.hid (fun i hi => by
            rcases Nat.lt_or_ge i k with h | h
            · exact HI.out i h
            · obtain rfl : i = k := by omega
              exact ⟨x, HX.out, h128⟩)
          go_wp2_with fail
          go_round
          case rel => exact ⟨k + 1, by omega, by omega, by go_num, HC⟩
          case measure => simp [RowKit.intOf]; omega
        · have h128' : ¬ (128 : Int) ≤ (x.toNat : Int) := by omega
          have HK : Hid (conts l = k) := Lib.hid ((conts_of HI.out).2.1 x HX.out (by omega))
          have hkn : ((k : Int) == (n : Int)) = false := beq_eq_false_iff_ne.2 (by omega)
          have hk10' : ((k : Int) == 10) = false := beq_eq_false_iff_ne.2 (by omega)
          by_cases hbad : (k = 9 ∧ 1 < x.toNat) ∨ (0 < k ∧ x.toNat = 0)
          · have HV : Hid (varR l = (0, 0, 11)) := Lib.hid (varR_bad HK.out hk9 HX.out hbad)
            rcases hbad with ⟨rfl, h1⟩ | ⟨h0, h1⟩
            · have h1' : (1 : Int) < (x.toNat : Int) := by omega
              go_wp2_with fail
              go_ret3
              rw [HV.out]
              exact ⟨rfl, rfl⟩
            · rw [h1] at x0
              have h0' : (0 : Int) < (k : Int) := by omega
              by_cases h9 : k = 9
              · subst h9
                go_wp2_with fail
                go_ret3
                rw [HV.out]
                exact ⟨rfl, rfl⟩
              · have h9' : ((k : Int) == 9) = false := beq_eq_false_iff_ne.2 (by omega)
                go_wp2_with fail
                go_ret3
                rw [HV.out]
                exact ⟨rfl, rfl⟩
          · have hv := varR_ok HK.out hk9 HX.out hbad
            obtain ⟨V, hV⟩ : ∃ V, V = l.take (k + 1) := ⟨_, rfl⟩
            rw [← hV] at hv
            have HV : Hid (varR l = (valL V, k + 1, 0)) := Lib.hid hv
            have hV64 : valL V < 2 ^ 64 := by have := HB.out.1; rw [hv] at this; exact this
            have HVL : Hid (V = l.take (k + 1)) := Lib.hid hV
            clear hv hV
            have hcase : (k = 9 ∧ x.toNat ≤ 1 ∧ 0 < x.toNat) ∨ (k = 0) ∨ (0 < k ∧ k ≠ 9 ∧ 0 < x.toNat) := by
              rcases Nat.eq_zero_or_pos k with h | h
              · exact .inr (.inl h)
              · have : 0 < x.toNat := Nat.pos_of_ne_zero (fun e => hbad (.inr ⟨h, e⟩))
                by_cases h9 : k = 9
                · exact .inl ⟨h9, Nat.le_of_not_lt (fun e => hbad (.inl ⟨h9, e⟩)), this⟩
                · exact .inr (.inr ⟨h, h9, this⟩)
            clear hbad
            have HCELL : Hid (∀ j, j ≤ k → ∃ y : UInt8, V[j]? = some y ∧ w.cell? ⟨b, off + j, none⟩ = some (.int .u8 (y.toNat : Int))) := Lib.hid (fun j hj => by
              obtain ⟨b', off', y, e, hy, y0⟩ := byte_src HL.out (show j < n by omega)
              cases e
              exact ⟨y, by rw [HVL.out, List.getElem?_take, if_pos (by omega)]; exact hy, y0⟩)
            have HVN : Hid (V.length = k + 1) := Lib.hid (by rw [HVL.out, List.length_take]; have := HN.out; omega)
            rcases hcase with ⟨rfl, h1, h2⟩ | rfl | ⟨h0, h9, h2⟩
            case' inl =>
              have h1' : ¬ (1 : Int) < (x.toNat : Int) := by omega
              have h2' : ((x.toNat : Int) == 0) = false := beq_eq_false_iff_ne.2 (by omega)
              go_wp2_with fail
            case' inr.inl =>
              rw [Nat.add_zero] at x0
              go_wp2_with fail
            case' inr.inr =>
              have h9' : ((k : Int) == 9) = false := beq_eq_false_iff_ne.2 (by omega)
              have h2' : ((x.toNat : Int) == 0) = false := beq_eq_false_iff_ne.2 (by omega)
              have h0' : (0 : Int) < (k : Int) := by omega
              go_wp2_with fail
            all_goals
              clear x0
              go_loop [6, 7] (fun su si => ∃ j : Nat, j ≤ V.length ∧ si = .int .i64 ((j : Int) - 1) ∧ su = .int .u64 (valL (V.drop j) : Int)) (fun _ i => (RowKit.intOf i + 1).toNat)
              case atStart => exact ⟨V.length, Nat.le_refl _, by rw [HVN.out]; simp, by rw [List.drop_length]; rfl⟩
              case round =>
                obtain ⟨j, hj, rfl, rfl⟩ := hrel
                cases j with
                | zero =>
                  have h00 : ¬ (0 : Int) ≤ ((0 : Nat) : Int) - 1 := by omega
                  go_wp2_with fail
                  go_ret3
                  rw [HV.out]
                  first | rfl | exact ⟨rfl, rfl⟩
                | succ j =>
                  obtain ⟨y, hy, y0⟩ := HCELL.out j (by have := HVN.out; omega)
                  have hq := valL_at hy
                  have hqle := valL_drop V j
                  have hji : ((j + 1 : Nat) : Int) - 1 = (j : Int) := by omega
                  rw [hji]
                  have hnn : (0 : Int) ≤ (j : Int) := by omega
                  have hjn : j < n := by have := HVN.out; omega
                  obtain ⟨p, hp⟩ : ∃ p, p = valL (V.drop (j + 1)) := ⟨_, rfl⟩
                  obtain ⟨q, hq2⟩ : ∃ q, q = valL (V.drop j) := ⟨_, rfl⟩
                  rw [← hp, ← hq2] at hq
                  rw [← hp]
                  have hq64 : q < 2 ^ 64 := by omega
                  have HQ := Lib.hid hq2
                  clear hp hq2 hy hqle hji
                  go_wp2_with fail
                  have he : ((valL (V.drop j) : Nat) : Int) = (p : Int) * 128 + (y.toNat : Int) % 128 := by rw [← HQ.out]; omega
                  go_round
                  case rel => exact ⟨j, by omega, rfl, congrArg (Value.int .u64) he.symm⟩
                  case measure => simp [RowKit.intOf]
    · obtain rfl : k = n := by omega
      have hno : l[k]? = none := List.getElem?_eq_none (by have := HN.out; omega)
      by_cases h10 : k = 10
      · subst h10
        have HV : Hid (varR l = (0, 0, 11)) := Lib.hid (varR_big (conts_of HI.out).1)
        go_wp2_with fail
        go_ret3
        rw [HV.out]
        exact ⟨rfl, rfl⟩
      · have HV : Hid (varR l = (0, 0, 10)) := Lib.hid (varR_end ((conts_of HI.out).2.2 hno) (by omega) hno)
        have hk10' : ((k : Int) == 10) = false := beq_eq_false_iff_ne.2 (by omega)
        clear hno
        go_wp2_with fail
        go_ret3
        rw [HV.out]
        exact ⟨rfl, rfl⟩

set_option maxHeartbeats 4000000 in
set_option maxRecDepth 100000 in
theorem ref3Text_any (w : World) (a : Option Addr) (n c : Nat) (l : List UInt8) (most : Nat) (hm : most < 4294967296) (hl : Src w 1 (.slice a n c) n (u8s l)) (hnc : n ≤ c) (hn : n < 4611686018427387904) :
    Calls Tryz.prog 107 #[.slice a n c, .int .i64 (most : Int)] w fun e w' => e = .returned (.tuple #[.string ⟨(txtR l most).1.toArray⟩, .int .i64 ((txtR l most).2.1 : Int), .int .i64 (txtR l most).2.2]) ∧ w = w' := by
  have HL := Lib.hid hl
  have hlen := u8s_src_len hl
  clear hl
  obtain ⟨u, k, e, hv⟩ : ∃ u k e, varR l = (u, k, e) := ⟨_, _, _, rfl⟩
  obtain ⟨hb1, hb2, hb3, _⟩ := varR_bounds l
  rw [hv] at hb1 hb2 hb3
  simp only at hb1 hb2 hb3
  rw [hlen] at hb2
  have HV := Lib.hid hv
  have HLEN := Lib.hid hlen
  clear hv hlen
  by_cases he : e = 0
  · subst he
    by_cases h1 : (most : Int) < (u : Int)
    · have HT : Hid (txtR l most = ([], 0, 3)) := Lib.hid (by unfold txtR; rw [HV.out]; simp only; rw [if_neg (by omega), if_pos (.inr h1)])
      go_enter Tryz.func107, Tryz.ntmps107
      go_wp2_with (go_at_call 105; refine (ref3Read_any w a n c l HL.out hn).mono ?_; rw [HV.out]; rintro e' w1 ⟨rfl, rfl⟩)
      go_ret3
      rw [HT.out]
      exact ⟨rfl, rfl⟩
    · obtain ⟨r, hr⟩ : ∃ r : Nat, r = n - k := ⟨_, rfl⟩
      have hnk : (n : Int) - (k : Int) = (r : Int) := by omega
      by_cases h2 : r < u
      · have h2' : (r : Int) < (u : Int) := by omega
        have HT : Hid (txtR l most = ([], 0, 10)) := Lib.hid (by unfold txtR; rw [HV.out]; simp only; rw [if_neg (by omega), if_neg (by omega), if_pos (by rw [HLEN.out]; omega)])
        go_enter Tryz.func107, Tryz.ntmps107
        go_wp2_with (go_at_call 105; refine (ref3Read_any w a n c l HL.out hn).mono ?_; rw [HV.out]; rintro e' w1 ⟨rfl, rfl⟩)
        go_ret3
        rw [HT.out]
        exact ⟨rfl, rfl⟩
      · have h2' : ¬ (r : Int) < (u : Int) := by omega
        have HT : Hid (txtR l most = ((l.drop k).take u, k + u, 0)) := Lib.hid (by unfold txtR; rw [HV.out]; simp only; rw [if_neg (by omega), if_neg (by omega), if_neg (by rw [HLEN.out]; omega)])
        obtain ⟨a', c', hs1, hs2, hsrc⟩ : ∃ a' c', (∀ W, (Instr.slice 56 (.slice a n c) (some (.int .i64 (k : Int))) (some (.int .i64 ((k : Int) + (u : Int)))) none).run Tryz.prog W = .ok (.slice a' u c') W) ∧ (∀ W, (Instr.sliceAt 56 (.slice a n c) (some (.int .i64 (k : Int))) (some (.int .i64 ((k : Int) + (u : Int)))) none).run Tryz.prog W = .ok (.slice a' u c') W) ∧ Src w 1 (.slice a' u c') u (u8s ((l.drop k).take u)) := by
          have e : k + u - k = u := by omega
          refine ⟨cutA a c k, c - k, fun W => ?_, fun W => ?_, ?_⟩
          · have := run_slice_lohi Tryz.underlying56 sz_u8 a n c k (k + u) (by omega) (by omega) W
            rw [e] at this
            simpa using this
          · have := run_sliceAt_lohi Tryz.underlying56 sz_u8 a n c k (k + u) (by omega) (by omega) W
            rw [e] at this
            simpa using this
          · have := src_cut (h := k + u) (l := k) (m := c) HL.out (by omega) (by omega) (by omega) (Nat.le_refl _)
            rw [e] at this
            rw [show u8s ((l.drop k).take u) = ((u8s l).drop k).take u by simp [u8s, List.map_take, List.map_drop]]
            exact this
        have hcv := conv_text hsrc
        clear hsrc
        go_enter Tryz.func107, Tryz.ntmps107
        go_wp2_with (go_at_call 105; refine (ref3Read_any w a n c l HL.out hn).mono ?_; rw [HV.out]; rintro e' w1 ⟨rfl, rfl⟩)
        go_ret3
        rw [HT.out]
        exact ⟨rfl, rfl⟩
  · have HT : Hid (txtR l most = ([], 0, e)) := Lib.hid (by unfold txtR; rw [HV.out]; simp only; rw [if_pos he])
    have he' : (e != 0) = true := by simpa using he
    go_enter Tryz.func107, Tryz.ntmps107
    go_wp2_with (go_at_call 105; refine (ref3Read_any w a n c l HL.out hn).mono ?_; rw [HV.out]; rintro e' w1 ⟨rfl, rfl⟩)
    go_ret3
    rw [HT.out]
    exact ⟨rfl, rfl⟩
end Go.Proofs.YtgdgjnecgelalaaGreatDoor
