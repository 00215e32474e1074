/- varint: Read, ReadText. -/
import Derived.Test.YtgdgjnecgelalaaGreatDoorVas
import Derived.Test.YtgdgjnecgelalaaGreatDoorByt
import Derived.Laws.BytesArg
import Derived.Laws.IdiomStrings
import Derived.Lib.AppendStr
namespace Go.Proofs.YtgdgjnecgelalaaGreatDoor
open Go.RowKit Go.Sort Go.Lib

theorem varR_err (l : List UInt8) : (varR l).2.2 = 0 ∨ (varR l).2.2 = 10 ∨ (varR l).2.2 = 11 := by
  unfold varR
  split
  · exact .inr (.inr rfl)
  · split
    · exact .inr (.inl rfl)
    · split
      · exact .inr (.inr rfl)
      · exact .inl rfl
theorem conts_lt_of_some {l : List UInt8} {c : UInt8} (h : l[conts l]? = some c) : conts l < l.length := (List.getElem?_eq_some_iff.1 h).1
theorem valL_le (l : List UInt8) (k : Nat) (hk : k ≤ 8) : valL (l.take (k + 1)) < 2 ^ 63 := by
  have h1 := valL_lt (l.take (k + 1))
  have h2 : (l.take (k + 1)).length ≤ 9 := by rw [List.length_take]; omega
  have h3 : 128 ^ (l.take (k + 1)).length ≤ 128 ^ 9 := Nat.pow_le_pow_right (by omega) h2
  have : (128 : Nat) ^ 9 = 2 ^ 63 := by decide
  omega
theorem varR_bounds (l : List UInt8) : (varR l).1 < 2 ^ 64 ∧ (varR l).2.1 ≤ l.length ∧ (varR l).2.1 ≤ 10 ∧ ((varR l).2.2 = 0 → 0 < (varR l).2.1) := by
  unfold varR
  split
  · simp
  · rename_i h10
    split
    · simp
    · rename_i c hc
      have hlt := conts_lt_of_some hc
      split
      · simp
      · rename_i hb
        refine ⟨?_, by simp only; omega, by simp only; omega, by simp⟩
        simp only
        by_cases h8 : conts l ≤ 8
        · have := valL_le l (conts l) h8; omega
        · have h9 : conts l = 9 := by omega
          have hc1 : c.toNat ≤ 1 := by
            rcases Nat.lt_or_ge 1 c.toNat with h | h
            · exact absurd (.inl ⟨h9, h⟩) hb
            · exact h
          rw [List.take_add_one, hc]
          simp only [Option.toList_some]
          rw [valL_snoc]
          have h1 := valL_lt (l.take (conts l))
          have h2 : (l.take (conts l)).length = 9 := by rw [List.length_take]; omega
          rw [h2] at h1 ⊢
          have : (128 : Nat) ^ 9 = 2 ^ 63 := by decide
          have : c.toNat % 128 ≤ 1 := by omega
          have : c.toNat % 128 * 128 ^ 9 ≤ 1 * 128 ^ 9 := Nat.mul_le_mul_right _ this
          omega

set_option maxHeartbeats 2000000 in
theorem varRead_any (w : World) (a : Option Addr) (n c : Nat) (l : List UInt8) (hl : Src w 1 (.slice a n c) n (u8s l)) (hn : n < 4611686018427387904) (hg : HasET w) :
    Calls Tryz.prog 100 #[.slice a n c] w fun e w' => e = .returned (.tuple #[.int .u64 ((varR l).1 : Int), .int .i64 ((varR l).2.1 : Int), .int .i64 (varR l).2.2]) ∧ Ext w w' := by
  have HL := Lib.hid hl
  have HG := Lib.hid hg
  clear hl hg
  obtain ⟨u, k, e, hv⟩ : ∃ u k e, varR l = (u, k, e) := ⟨_, _, _, rfl⟩
  have herr := varR_err l
  rw [hv] at herr
  have HV := Lib.hid hv
  clear hv
  rcases herr with he | he
  · simp only at he
    subst he
    go_enter Tryz.func100, Tryz.ntmps100
    go_wp2_with fail
    refine (scan_any w a n c l HL.out hn).mono ?_
    rintro e' w1 ⟨⟨x, rfl⟩, rfl⟩
    rw [HV.out]
    simp only [errOf, if_true]
    go_wp2_with fail
    refine (number_nil _).mono ?_
    rintro e' w1 ⟨rfl, hx⟩
    go_wp2_with fail
    go_ret3
    rw [HV.out]
    exact ⟨rfl, hx⟩
  · simp only at he
    have he0 : e ≠ 0 := by omega
    go_enter Tryz.func100, Tryz.ntmps100
    go_wp2_with fail
    refine (scan_any w a n c l HL.out hn).mono ?_
    rintro e' w1 ⟨⟨x, rfl⟩, rfl⟩
    rw [HV.out]
    simp only [errOf, if_neg he0]
    go_wp2_with fail
    refine (number_fault x e he _ HG.out).mono ?_
    rintro e' w1 ⟨rfl, hx⟩
    go_wp2_with fail
    go_ret3
    rw [HV.out]
    exact ⟨rfl, hx⟩

/-- A text that is read: its bytes, how many bytes it took, the error. -/
def txtR (l : List UInt8) (most : Int) : List UInt8 × Nat × Int :=
  if (varR l).2.2 ≠ 0 then ([], 0, (varR l).2.2)
  else if most < 0 ∨ most < (varR l).1 then ([], 0, 3)
  else if l.length - (varR l).2.1 < (varR l).1 then ([], 0, 10)
  else ((l.drop (varR l).2.1).take (varR l).1, (varR l).2.1 + (varR l).1, 0)

/-- A slice of bytes as a text. -/
theorem conv_text {w : World} {a : Option Addr} {n c : Nat} {l : List UInt8} (h : Src w 1 (.slice a n c) n (u8s l)) : (Go.convert 56 9 (.slice a n c)).run Tryz.prog w = .ok (.string ⟨l.toArray⟩) w := by
  have hl := u8s_src_len h
  rcases h with ⟨e, h0, h1⟩ | ⟨ad, c', e, _, h2, h3⟩
  · simp only [Value.slice.injEq] at e
    obtain ⟨rfl, rfl, rfl⟩ := e
    have : l = [] := List.length_eq_zero_iff.1 (by omega)
    subst this
    exact run_convert_bytes_nil (P := Tryz.prog) (w := w) 56 5 Tryz.underlying56 Tryz.underlying5 0 0 9 Tryz.underlying9
  · simp only [Value.slice.injEq] at e
    obtain ⟨rfl, _, rfl⟩ := e
    subst hl
    exact run_convert_bytes_back (P := Tryz.prog) w 56 9 5 ad c l Tryz.underlying56 Tryz.underlying5 Tryz.underlying9 (fun j hj => h2 j _ (by simp [u8s, List.getElem?_eq_getElem hj]))
theorem sz_u8 : ∀ W, (sizeOf 5).run Tryz.prog W = .ok 1 W := fun _ => by kernel_rfl

set_option maxHeartbeats 4000000 in
set_option maxRecDepth 100000 in
theorem varText_any (w : World) (a : Option Addr) (n c : Nat) (l : List UInt8) (most : Nat) (hm : most < 4294967296) (hl : Src w 1 (.slice a n c) n (u8s l)) (hnc : n ≤ c) (hn : n < 4611686018427387904) (hg : HasET w) :
    Calls Tryz.prog 130 #[.slice a n c, .int .i64 (most : Int)] w fun e w' => e = .returned (.tuple #[.string ⟨(txtR l most).1.toArray⟩, .int .i64 ((txtR l most).2.1 : Int), .int .i64 (txtR l most).2.2]) ∧ Ext w w' := by
  have HL := Lib.hid hl
  have HG := Lib.hid hg
  have hlen := u8s_src_len hl
  clear hl hg
  obtain ⟨u, k, e, hv⟩ : ∃ u k e, varR l = (u, k, e) := ⟨_, _, _, rfl⟩
  obtain ⟨hb1, hb2, hb3, _⟩ := varR_bounds l
  rw [hv] at hb1 hb2 hb3
  simp only at hb1 hb2 hb3
  rw [hlen] at hb2
  have HV := Lib.hid hv
  have HLEN := Lib.hid hlen
  clear hv hlen
  by_cases he : e = 0
  · subst he
    by_cases h1 : (most : Int) < (u : Int)
    · have HT : Hid (txtR l most = ([], 0, 3)) := Lib.hid (by unfold txtR; rw [HV.out]; simp only; rw [if_neg (by omega), if_pos (.inr h1)])
      go_enter Tryz.func130, Tryz.ntmps130
      go_wp2_with (go_at_call 100; refine (varRead_any w a n c l HL.out hn HG.out).mono ?_; rw [HV.out]; rintro e' w1 ⟨rfl, hx⟩; have HX := Lib.hid hx; clear hx)
      go_ret3
      rw [HT.out]
      exact ⟨rfl, HX.out⟩
    · obtain ⟨r, hr⟩ : ∃ r : Nat, r = n - k := ⟨_, rfl⟩
      have hnk : (n : Int) - (k : Int) = (r : Int) := by omega
      by_cases h2 : r < u
      · have h2' : (r : Int) < (u : Int) := by omega
        have HT : Hid (txtR l most = ([], 0, 10)) := Lib.hid (by unfold txtR; rw [HV.out]; simp only; rw [if_neg (by omega), if_neg (by omega), if_pos (by rw [HLEN.out]; omega)])
        go_enter Tryz.func130, Tryz.ntmps130
        go_wp2_with (go_at_call 100; refine (varRead_any w a n c l HL.out hn HG.out).mono ?_; rw [HV.out]; rintro e' w1 ⟨rfl, hx⟩; have HX := Lib.hid hx; clear hx)
        go_ret3
        rw [HT.out]
        exact ⟨rfl, HX.out⟩
      · have h2' : ¬ (r : Int) < (u : Int) := by omega
        have HT : Hid (txtR l most = ((l.drop k).take u, k + u, 0)) := Lib.hid (by unfold txtR; rw [HV.out]; simp only; rw [if_neg (by omega), if_neg (by omega), if_neg (by rw [HLEN.out]; omega)])
        obtain ⟨a', c', hs1, hs2, hsrc⟩ : ∃ a' c', (∀ W, (Instr.slice 56 (.slice a n c) (some (.int .i64 (k : Int))) (some (.int .i64 ((k : Int) + (u : Int)))) none).run Tryz.prog W = .ok (.slice a' u c') W) ∧ (∀ W, (Instr.sliceAt 56 (.slice a n c) (some (.int .i64 (k : Int))) (some (.int .i64 ((k : Int) + (u : Int)))) none).run Tryz.prog W = .ok (.slice a' u c') W) ∧ Src w 1 (.slice a' u c') u (u8s ((l.drop k).take u)) := by
          have e : k + u - k = u := by omega
          refine ⟨cutA a c k, c - k, fun W => ?_, fun W => ?_, ?_⟩
          · have := run_slice_lohi Tryz.underlying56 sz_u8 a n c k (k + u) (by omega) (by omega) W
            rw [e] at this
            simpa using this
          · have := run_sliceAt_lohi Tryz.underlying56 sz_u8 a n c k (k + u) (by omega) (by omega) W
            rw [e] at this
            simpa using this
          · have := src_cut (h := k + u) (l := k) (m := c) HL.out (by omega) (by omega) (by omega) (Nat.le_refl _)
            rw [e] at this
            rw [show u8s ((l.drop k).take u) = ((u8s l).drop k).take u by simp [u8s, List.map_take, List.map_drop]]
            exact this
        have HSRC := Lib.hid hsrc
        clear hsrc
        go_enter Tryz.func130, Tryz.ntmps130
        go_wp2_with (go_at_call 100; refine (varRead_any w a n c l HL.out hn HG.out).mono ?_; rw [HV.out]; rintro e' w1 ⟨rfl, hx⟩; have HX := Lib.hid hx; have hcv := conv_text (HSRC.out.ext hx); clear hx)
        go_ret3
        rw [HT.out]
        exact ⟨rfl, HX.out⟩
  · have HT : Hid (txtR l most = ([], 0, e)) := Lib.hid (by unfold txtR; rw [HV.out]; simp only; rw [if_pos he])
    have he' : (e != 0) = true := by simpa using he
    go_enter Tryz.func130, Tryz.ntmps130
    go_wp2_with (go_at_call 100; refine (varRead_any w a n c l HL.out hn HG.out).mono ?_; rw [HV.out]; rintro e' w1 ⟨rfl, hx⟩; have HX := Lib.hid hx; clear hx)
    go_ret3
    rw [HT.out]
    exact ⟨rfl, HX.out⟩
end Go.Proofs.YtgdgjnecgelalaaGreatDoor

/-! varint: Put, PutText. -/

namespace Go.Proofs.YtgdgjnecgelalaaGreatDoor
open Go.RowKit Go.Sort Go.Lib

/-- A number as bytes. -/
def varP (u : Nat) : List UInt8 := if u < 128 then [UInt8.ofNat u] else UInt8.ofNat (u % 128 + 128) :: varP (u / 128)
termination_by u
decreasing_by omega
theorem varP_lt {u : Nat} (h : u < 128) : varP u = [UInt8.ofNat u] := by rw [varP, if_pos h]
theorem varP_ge {u : Nat} (h : ¬ u < 128) : varP u = UInt8.ofNat (u % 128 + 128) :: varP (u / 128) := by rw [varP, if_neg h]
theorem varP_pos (u : Nat) : 0 < (varP u).length := by
  by_cases h : u < 128
  · rw [varP_lt h]; simp
  · rw [varP_ge h]; simp
theorem varP_len (k : Nat) : ∀ u, u < 128 ^ k → 0 < k → (varP u).length ≤ k := by
  induction k with
  | zero => intro u _ h; omega
  | succ k ih =>
    intro u hu _
    by_cases h : u < 128
    · rw [varP_lt h]; simp
    · rw [varP_ge h, List.length_cons]
      have hk : 0 < k := by
        rcases Nat.eq_zero_or_pos k with rfl | hk
        · simp at hu; omega
        · exact hk
      have := ih (u / 128) (by rw [Nat.pow_succ] at hu; exact Nat.div_lt_of_lt_mul (by rw [Nat.mul_comm]; exact hu)) hk
      omega
theorem varP_10 {u : Nat} (h : u < 2 ^ 64) : (varP u).length ≤ 10 := varP_len 10 u (Nat.lt_of_lt_of_le h (by decide)) (by omega)

theorem elem_u8 : ElemOk Tryz.prog 56 5 1 1 :=
  ⟨Tryz.underlying56, by
    obtain ⟨i0, hi, hz0, hz1, hz2⟩ := info_parts (show (Tryz.prog.info? 5).map (fun i => (i.zero, i.size, i.bytes)) = some (some (.int .u8 0), 1, 1) from by kernel_rfl)
    exact ⟨i0, _, hi, hz0, hz1, hz2, rfl⟩, by decide⟩
theorem src_byte {W : World} {b : Nat} {x : UInt8} {t : TypeId} {fr : Nat × Nat} (h : W.heap[b]? = some (.cells #[.int .u8 (x.toNat : Int)] t fr)) : Src W 1 (.slice (some ⟨b, 0, none⟩) 1 1) 1 (u8s [x]) := by
  refine .inr ⟨_, _, rfl, rfl, fun j u hj => ?_, u8s_one _⟩
  rw [Go.WideShapes.add_plain, Nat.zero_add, cell_of_block h]
  simpa [u8s] using hj
set_option maxRecDepth 10000 in
theorem u8_or128 (x : Nat) (hx : x < 256) : bits .or .u8 (x : Int) 128 = ((x % 128 + 128 : Nat) : Int) := by
  have key : (BitVec.ofInt 8 (x : Int) ||| BitVec.ofInt 8 128).toNat = x % 128 + 128 := by
    rw [BitVec.toNat_or, BitVec.toNat_ofInt]
    have a1 : ((x : Int) % ((2 ^ 8 : Nat) : Int)).toNat = x := by omega
    rw [a1]
    have : ∀ y, y < 256 → y ||| 128 = y % 128 + 128 := by decide
    exact this x hx
  show IntKind.u8.wrap ((BitVec.ofInt 8 (x : Int) ||| BitVec.ofInt 8 128).toNat : Nat) = _
  rw [key, IntKind.wrap_u8]
  omega

/-- What has been put so far. -/
structure PutR (w : World) (xs full : List UInt8) (u n : Nat) (v : Value) (wr : World) : Prop where
  st : Start w wr 5 1 v n (u8s xs)
  len : n = xs.length
  ext : Ext w wr
  eq : xs ++ varP u = full

set_option maxHeartbeats 4000000 in
set_option maxRecDepth 100000 in
theorem varPut_any (w : World) (a : Option Addr) (n c : Nat) (l : List UInt8) (u : Nat) (hu : u < 2 ^ 64) (hl : Src w 1 (.slice a n c) n (u8s l)) (hnc : n ≤ c) (hn : n ≤ 70368744177664) :
    Calls Tryz.prog 41 #[.slice a n c, .int .u64 (u : Int)] w fun e w' => ∃ v, e = .returned v ∧ MadeTo w 5 1 v (l ++ varP u).length (u8s (l ++ varP u)) w' := by
  have HL := Lib.hid hl
  have HLEN := Lib.hid (u8s_src_len hl)
  clear hl
  obtain ⟨a', hs1, hs2, hsrc⟩ : ∃ a', (∀ W, (Instr.slice 56 (.slice a n c) none (some (.int .i64 (n : Int))) (some (.int .i64 (n : Int)))).run Tryz.prog W = .ok (.slice a' n n) W) ∧ (∀ W, (Instr.sliceAt 56 (.slice a n c) none (some (.int .i64 (n : Int))) (some (.int .i64 (n : Int)))).run Tryz.prog W = .ok (.slice a' n n) W) ∧ Src w 1 (.slice a' n n) n (u8s l) := by
    refine ⟨cutA a n 0, run_slice_him Tryz.underlying56 sz_u8 a n c n n (Nat.le_refl _) hnc, run_sliceAt_him Tryz.underlying56 sz_u8 a n c n n (Nat.le_refl _) hnc, ?_⟩
    have := src_cut (h := n) (l := 0) (m := n) HL.out (by omega) (by omega) (by omega) hnc
    rw [List.drop_zero, List.take_of_length_le (by rw [u8s_length]; have := HLEN.out; omega)] at this
    exact this
  have H0 : Hid (PutR w l (l ++ varP u) u n (.slice a' n n) w) := Lib.hid ⟨.inr ⟨a', rfl, hsrc⟩, HLEN.out.symm, Ext.refl _, rfl⟩
  clear hsrc
  go_enter Tryz.func41, Tryz.ntmps41
  go_wp2_with fail
  go_loopw [1, 5] (fun su sv wr => ∃ (u' m : Nat) (va : Option Addr) (vc : Nat) (xs : List UInt8), su = .int .u64 (u' : Int) ∧ sv = .slice va m vc ∧ u' < 2 ^ 64 ∧ m ≤ n + 10 ∧ Hid (PutR w xs (l ++ varP u) u' m (.slice va m vc) wr)) (fun su _ _ => (RowKit.intOf su).toNat)
  case atStart => exact ⟨u, n, a', n, l, rfl, rfl, hu, by omega, H0⟩
  case round =>
    clear H0
    obtain ⟨u', m, va, vc, xs, rfl, rfl, hu', hm, HR⟩ := hrel
    by_cases hlt : u' < 128
    · have hlt' : (u' : Int) < 128 := by omega
      have HF : Hid (xs ++ varP u' = l ++ varP u) := Lib.hid HR.out.eq
      obtain ⟨x, hx⟩ : ∃ x : UInt8, u' = x.toNat := ⟨UInt8.ofNat u', by rw [UInt8.toNat_ofNat']; omega⟩
      have HP : Hid (varP u' = [x]) := Lib.hid (by rw [varP_lt hlt, hx]; simp)
      subst hx
      go_wp2_with (at_builtin; go_must (refine wpList_append_start elem_u8 rfl _ _ rfl rfl rfl (HR.out.st.ext ((Ext.refl _).alloc _)) (HR.out.ext.trans ((Ext.refl _).alloc _)) (src_byte (x := x) (heap_alloc_new _ _)) (by omega) (by unfold maxLen; omega) (by omega) ?_; intro v' w4 hmade); have HM := Lib.hid hmade; clear hmade)
      go_ret
      refine ⟨_, rfl, ?_⟩
      rw [← HF.out, HP.out, u8s_append, List.length_append, ← HR.out.len]
      exact HM.out
    · have hlt' : ¬ (u' : Int) < 128 := by omega
      obtain ⟨x, hx⟩ : ∃ x : UInt8, u' % 128 + 128 = x.toNat := ⟨UInt8.ofNat (u' % 128 + 128), by rw [UInt8.toNat_ofNat']; omega⟩
      obtain ⟨y, hy, hy2⟩ : ∃ y : Nat, IntKind.u8.wrap (u' : Int) = (y : Int) ∧ y = u' % 256 := ⟨u' % 256, by rw [IntKind.wrap_u8]; omega, rfl⟩
      have ho : bits .or .u8 (y : Int) 128 = (x.toNat : Int) := by rw [u8_or128 y (by omega), ← hx]; congr 2; omega
      have HP : Hid (varP u' = x :: varP (u' / 128)) := Lib.hid (by rw [varP_ge hlt, hx]; simp)
      have HU : Hid (y = u' % 256) := Lib.hid hy2
      clear hx hy2
      go_wp2_with (at_builtin; go_must (refine wpList_append_start elem_u8 rfl _ _ rfl rfl rfl (HR.out.st.ext ((Ext.refl _).alloc _)) (HR.out.ext.trans ((Ext.refl _).alloc _)) (src_byte (x := x) (heap_alloc_new _ _)) (by omega) (by unfold maxLen; omega) (by omega) ?_; intro v' w4 hmade); have HM := Lib.hid hmade; obtain ⟨va', vc', rfl⟩ := hmade.row.shape; clear hmade)
      have HE : Hid ((xs ++ [x]) ++ varP (u' / 128) = l ++ varP u ∧ m + 1 ≤ n + 10) := Lib.hid (by
        have h1 := HR.out.eq
        rw [HP.out] at h1
        refine ⟨by rw [← h1]; simp, ?_⟩
        have h2 := congrArg List.length h1
        have h3 := varP_10 hu
        have h4 := HR.out.len
        have h5 := varP_pos (u' / 128)
        have h6 := HLEN.out
        simp at h2
        omega)
      go_roundw
      case rel => exact ⟨u' / 128, m + 1, va', vc', xs ++ [x], by first | rfl | go_num, rfl, by omega, HE.out.2, Lib.hid ⟨Start.row (by rw [u8s_append]; exact HM.out.row) HM.out.own, by simp; exact HR.out.len, HM.out.ext, HE.out.1⟩⟩
      case measure => simp [RowKit.intOf]; omega

theorem MadeTo.owns {w0 w : World} {e : TypeId} {size : Nat} {v : Value} {n : Nat} {xs : List Value} (h : MadeTo w0 e size v n xs w) : w.ownsRow w0.heap.size e size v n xs := by
  obtain ⟨q1, q2⟩ := h.row
  refine ⟨q1, q2.imp id ?_⟩
  rintro ⟨g, cap, cur, rfl, _, p3⟩
  exact ⟨g, cap, cur, rfl, h.own g rfl, p3⟩
theorem MadeTo.of_owns {w0 w : World} {e : TypeId} {size : Nat} {v : Value} {n : Nat} {xs : List Value} (h : w.ownsRow w0.heap.size e size v n xs) (hx : Ext w0 w) : MadeTo w0 e size v n xs w := by
  refine ⟨?_, fun g hg => (h.lt g hg).1, hx⟩
  obtain ⟨q1, q2⟩ := h
  refine ⟨q1, q2.imp id ?_⟩
  rintro ⟨g, cap, cur, p1, _, p3⟩
  exact ⟨g, cap, cur, p1, Nat.zero_le _, p3⟩
theorem wpList_append_str {w0 w : World} {ops : Array Oper} {rest : List Oper} {o : Oper} {a : Act} {Q : Exit → Act → World → Prop} (hgd : o.guard = none) (sl x : Operand)
    (ho : o.op = .call { callee := .builtin .append, args := #[sl, x], argTypes := #[56, 9] }) {v : Value} {n : Nat} {xs : List Value} {s : ByteArray} (hs : a.eval sl = v) (hx : a.eval x = .string s)
    (hm : MadeTo w0 5 1 v n xs w) (h63 : n + s.size ≤ maxLen) (hbytes : n + s.size ≤ 140737488355328)
    (h : ∀ v' w', MadeTo w0 5 1 v' (n + s.size) (xs ++ u8s s.data.toList) w' → wpList Tryz.prog ops Q rest (a.put o.dst v') w') : wpList Tryz.prog ops Q (o :: rest) a w := by
  obtain ⟨i, z, hi, hz, e1, e2, e3⟩ := elem_u8.info
  have hz0 : i.zero = some (.int .u8 0) := by
    have : (Tryz.prog.info? 5).map (fun i => i.zero) = some (some (.int .u8 0)) := by kernel_rfl
    rw [hi] at this; simpa using this
  exact Lib.wpList_append_own_string (P := Tryz.prog) w hgd sl x 56 9 ho w0.heap.size 5 i Tryz.underlying56 Tryz.underlying9 hi hz0 e1 e2 v n xs hs hm.owns s hx h63 hbytes hm.ext.size
    (fun v' w' r1 r2 _ => h v' w' (MadeTo.of_owns r1 (((Chg.of_ext hm.ext).trans (Chg.of_grown r2) (fun _ _ e => e)).ext (fun i hi e => by have := hm.own i e; omega))))

set_option maxHeartbeats 4000000 in
set_option maxRecDepth 100000 in
theorem varPutText_any (w : World) (a : Option Addr) (n c : Nat) (l : List UInt8) (s : ByteArray) (hl : Src w 1 (.slice a n c) n (u8s l)) (hnc : n ≤ c) (hn : n ≤ 35184372088832) (hs : s.size ≤ 35184372088832) :
    Calls Tryz.prog 44 #[.slice a n c, .string s] w fun e w' => ∃ v, e = .returned v ∧ MadeTo w 5 1 v (l ++ (varP s.size ++ s.data.toList)).length (u8s (l ++ (varP s.size ++ s.data.toList))) w' := by
  have HL := Lib.hid hl
  have hlen := u8s_src_len hl
  have hsz : s.data.toList.length = s.size := by simp
  have hP := varP_10 (u := s.size) (by omega)
  have hbd : (l ++ varP s.size).length + s.size ≤ 140737488355328 := by rw [List.length_append]; omega
  have HBD := Lib.hid hbd
  have HSZ := Lib.hid hsz
  clear hl hP hbd hlen hsz
  go_enter Tryz.func44, Tryz.ntmps44
  go_wp2_with fail
  refine (varPut_any w a n c l s.size (by omega) HL.out hnc (by omega)).mono ?_
  rintro e w1 ⟨v, rfl, hm⟩
  obtain ⟨N, hN⟩ : ∃ N, N = (l ++ varP s.size).length := ⟨_, rfl⟩
  rw [← hN] at hm
  have HN := Lib.hid hN
  clear hN
  obtain ⟨va, vc, rfl⟩ := hm.row.shape
  have HM := Lib.hid hm
  clear hm
  go_wp2_with (at_builtin; go_must (refine wpList_append_str rfl _ _ rfl rfl rfl HM.out (by unfold maxLen; rw [HN.out]; have := HBD.out; omega) (by rw [HN.out]; exact HBD.out) ?_; intro v' w4 hmade); have HM4 := Lib.hid hmade; clear hmade)
  go_ret
  refine ⟨_, rfl, ?_⟩
  rw [← List.append_assoc, u8s_append, List.length_append, ← HN.out, HSZ.out]
  exact HM4.out
end Go.Proofs.YtgdgjnecgelalaaGreatDoor
