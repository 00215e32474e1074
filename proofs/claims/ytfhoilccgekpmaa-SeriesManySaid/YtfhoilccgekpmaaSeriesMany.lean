/- SeriesMany: the walk. -/
import Derived.Test.YtfhoilccgekpmaaDict
import Derived.Laws.BytesString
import Derived.Laws.Cells
namespace Go.Proofs.Ytfhoilccgekpmaa
open Go.RowKit Go.Sort

def manyB (i : Nat) : ByteArray := ⟨#[(97 + i % 26).toUInt8, (97 + i / 26 % 26).toUInt8, (97 + i / 676).toUInt8]⟩

theorem manyB_inj {i j : Nat} (hi : i < 2000) (hj : j < 2000) (h : manyB i = manyB j) : i = j := by
  simp only [manyB, ByteArray.mk.injEq, Array.mk.injEq, List.cons.injEq, and_true] at h
  obtain ⟨h1, h2, h3⟩ := h
  have e1 := congrArg UInt8.toNat h1
  have e2 := congrArg UInt8.toNat h2
  have e3 := congrArg UInt8.toNat h3
  simp only [Nat.toUInt8_eq, UInt8.toNat_ofNat'] at e1 e2 e3
  omega

theorem okByte_lower : ∀ n : Fin 26, okByte (97 + n.val).toUInt8 = true := by decide +kernel

theorem manyB_valid {i : Nat} (hi : i < 2000) : validL (manyB i).data.toList = true := by
  have h1 := okByte_lower ⟨i % 26, by omega⟩
  have h2 := okByte_lower ⟨i / 26 % 26, by omega⟩
  have h3 := okByte_lower ⟨i / 676, by omega⟩
  simp only at h1 h2 h3
  show ((okByte _ && (okByte _ && (okByte _ && true))) && _ && _) = true
  rw [h1, h2, h3]; rfl

theorem manyB_size (k : Nat) : (manyB k).size ≤ maxLen := by simp [manyB, ByteArray.size, maxLen]

def manyL (n : Nat) : List ByteArray := (List.range n).map manyB
theorem manyL_length (n : Nat) : (manyL n).length = n := by simp [manyL]
theorem manyL_succ (n : Nat) : manyL (n + 1) = manyL n ++ [manyB n] := by simp [manyL, List.range_succ]
theorem manyL_not {n k : Nat} (hn : n ≤ 2000) (hk : k < 2000) (h : n ≤ k) : manyB k ∉ manyL n := by
  intro hm
  obtain ⟨j, hj, e⟩ := List.mem_map.1 hm
  rw [List.mem_range] at hj
  have := manyB_inj (by omega) hk e
  omega
theorem manyL_nodup {n : Nat} (hn : n ≤ 2000) : (manyL n).Nodup := by
  induction n with
  | zero => simp [manyL]
  | succ n ih =>
    rw [manyL_succ, List.nodup_append]
    exact ⟨ih (by omega), by simp, fun a ha b hb e => by simp at hb; subst hb; subst e; exact manyL_not (by omega) (by omega) (Nat.le_refl _) ha⟩
theorem manyL_idx {n k : Nat} (hn : n ≤ 2000) (hk : k < n) : (manyL n).idxOf (manyB k) = k := by
  have h : (manyL n)[k]? = some (manyB k) := by simp [manyL, hk]
  have h2 := (manyL_nodup hn).idxOf_getElem k (by simp [manyL, hk])
  have h3 : (manyL n)[k]'(by simp [manyL, hk]) = manyB k := by simp [manyL]
  rwa [h3] at h2
theorem manyL_mem {n k : Nat} (hk : k < n) : manyB k ∈ manyL n := List.mem_map.2 ⟨k, List.mem_range.2 hk, rfl⟩

theorem tells_new {n : Nat} (hn : n < 1024) : putTells (manyL n) (manyB n) = ((n : Int), 0) := by
  have h1 := manyB_valid (i := n) (by omega)
  have h2 := manyL_not (n := n) (k := n) (by omega) (by omega) (Nat.le_refl _)
  simp [putTells, h1, h2, manyL_length]; omega
theorem names_new {n : Nat} (hn : n < 1024) : putNames (manyL n) (manyB n) = manyL (n + 1) := by
  have h1 := manyB_valid (i := n) (by omega)
  have h2 := manyL_not (n := n) (k := n) (by omega) (by omega) (Nat.le_refl _)
  rw [manyL_succ]
  simp [putNames, h1, h2, manyL_length]; omega
theorem tells_full {n : Nat} (hn : 1024 ≤ n) (hn2 : n < 2000) : putTells (manyL 1024) (manyB n) = (0, 15) := by
  have h1 := manyB_valid (i := n) (by omega)
  have h2 := manyL_not (n := 1024) (k := n) (by omega) (by omega) hn
  simp [putTells, h1, h2, manyL_length]
theorem names_full {n : Nat} : putNames (manyL 1024) (manyB n) = manyL 1024 := by
  simp [putNames, manyL_length]
theorem tells_old {n : Nat} (hn : 1000 < n) (hn2 : n ≤ 2000) : putTells (manyL n) (manyB 1000) = (1000, 0) := by
  have h1 := manyB_valid (i := 1000) (by omega)
  have h2 := manyL_mem (n := n) (k := 1000) hn
  simp [putTells, h1, h2, manyL_idx hn2 hn]

set_option maxHeartbeats 2000000 in
theorem manyName (i : Nat) (hi : i < 2000) (w : World) :
    Calls Try.prog 6 #[.int .i64 i] w fun e w' => e = .returned (.string (manyB i)) ∧ Ext w w' := by
  go_enter Try.func6, Try.ntmps6
  go_wp2
  rw [run_convert_bytes_string _ _ _ _ _ _ _ Try.underlying24 Try.underlying5 Try.underlying9,
    run_bytesToString _ _ _ _ [97 + (i : Int) % 26, 97 + (i : Int) / 26 % 26, 97 + (i : Int) / 676] (by simp [go_sem])]
  have e : (List.foldl (fun r n => r.push (UInt8.ofNat n.toNat)) ByteArray.empty [97 + (i : Int) % 26, 97 + (i : Int) / 26 % 26, 97 + (i : Int) / 676]) = manyB i := by
    have e1 : (97 + (i : Int) % 26).toNat = 97 + i % 26 := by omega
    have e2 : (97 + (i : Int) / 26 % 26).toNat = 97 + i / 26 % 26 := by omega
    have e3 : (97 + (i : Int) / 676).toNat = 97 + i / 676 := by omega
    simp only [List.foldl_cons, List.foldl_nil, e1, e2, e3, manyB]
    rfl
  rw [e]
  simp only [Result.andThen]
  rw [Oper.upon_value]
  go_wp2
  go_ret
  exact ⟨rfl, (Ext.refl _).alloc _⟩

set_option maxHeartbeats 4000000 in
set_option maxRecDepth 100000 in
theorem seriesMany_any (n : Int) (w : World) :
    Calls Try.prog 3 #[.int .i64 n] w fun e w' => e = .returned (.bool true) ∧ Ext w w' := by
  obtain ⟨m, hm⟩ : ∃ m : Nat, (m : Int) = bits BinOp.and IntKind.i64 n 7 := ⟨(n % 8).toNat, by rw [i64_and7]; omega⟩
  have hm8 : m < 8 := by rw [i64_and7] at hm; omega
  have hm' := hm.symm
  clear hm
  go_enter Try.func3, Try.ntmps3
  go_wp2_with (go_at_call 5; refine (dict_new _).mono ?_; rintro e w1 ⟨rfl, hd1, hx1⟩)
  clear hm'
  have Hx1 := Lib.hid hx1; clear hx1
  generalize hdd : w.heap.size + 1 = d at *
  have Hd := Lib.hid hdd; clear hdd
  go_loopw [5] (fun i wr => ∃ k : Nat, k ≤ 1020 + m ∧ i = .int .i64 k ∧ DictAt wr d w.heap.size (manyL (min k 1024)) ∧ Ext w wr) (fun i _ => 1020 + m - (intOf i).toNat)
  case atStart => exact ⟨0, by omega, rfl, hd1, Hx1.out⟩
  case round =>
    obtain ⟨k, hk, rfl, hd, hx⟩ := hrel
    by_cases hlt : k < 1020 + m
    · by_cases hf : k < 1024
      · have hmin : min k 1024 = k := by omega
        rw [hmin] at hd
        have Ht := Lib.hid (tells_new hf)
        have Hn := Lib.hid (names_new hf)
        have Hd0 := Lib.hid hd; clear hd hmin
        have Hx := Lib.hid hx; clear hx
        go_wp2_with fail
        refine (manyName k (by omega) _).mono ?_
        rintro e w2 ⟨rfl, hx2⟩
        have Hx2 := Lib.hid hx2; clear hx2
        go_wp2_with fail
        refine (dict_put (Hd0.out.ext Hx2.out) (manyB k) (manyB_size k)).mono ?_
        rintro e w3 ⟨rfl, hd3, hc3⟩
        rw [Ht.out, Hn.out] at *
        have Hd3 := Lib.hid hd3; clear hd3
        have Hc3 := Lib.hid hc3; clear hc3
        go_wp2
        go_roundw
        case rel => exact ⟨k + 1, by omega, by go_num, by rw [show min (k + 1) 1024 = k + 1 by omega]; exact Hd3.out, Chg.ext (S := fun _ => False) (((Chg.of_ext Hx.out).trans (Chg.of_ext (S := fun _ => False) Hx2.out) (fun _ _ h => h.elim)).trans Hc3.out (fun i hi e => by omega)) (fun _ _ h => h)⟩
        case measure => simp [intOf]; omega
      · have hmin : min k 1024 = 1024 := by omega
        rw [hmin] at hd
        have Ht := Lib.hid (tells_full (n := k) (by omega) (by omega))
        have Hn := Lib.hid (names_full (n := k))
        have Hd0 := Lib.hid hd; clear hd hmin
        have Hx := Lib.hid hx; clear hx
        go_wp2_with fail
        refine (manyName k (by omega) _).mono ?_
        rintro e w2 ⟨rfl, hx2⟩
        have Hx2 := Lib.hid hx2; clear hx2
        go_wp2_with fail
        refine (dict_put (Hd0.out.ext Hx2.out) (manyB k) (manyB_size k)).mono ?_
        rintro e w3 ⟨rfl, hd3, hc3⟩
        rw [Ht.out, Hn.out] at *
        have Hd3 := Lib.hid hd3; clear hd3
        have Hc3 := Lib.hid hc3; clear hc3
        go_wp2
        go_roundw
        case rel => exact ⟨k + 1, by omega, by go_num, by rw [show min (k + 1) 1024 = 1024 by omega]; exact Hd3.out, Chg.ext (S := fun _ => False) (((Chg.of_ext Hx.out).trans (Chg.of_ext (S := fun _ => False) Hx2.out) (fun _ _ h => h.elim)).trans Hc3.out (fun i hi e => by omega)) (fun _ _ h => h)⟩
        case measure => simp [intOf]; omega
    · have hkm : k = 1020 + m := by omega
      subst hkm
      have Ht := Lib.hid (tells_old (n := min (1020 + m) 1024) (by omega) (by omega))
      have Hn : Hid (putNames (manyL (min (1020 + m) 1024)) (manyB 1000) = manyL (min (1020 + m) 1024)) := by
        show _ = _
        have := manyL_mem (n := min (1020 + m) 1024) (k := 1000) (by omega)
        simp [putNames, this]
      have Hd0 := Lib.hid hd; clear hd
      have Hx := Lib.hid hx; clear hx
      go_wp2_with fail
      refine (manyName 1000 (by omega) _).mono ?_
      rintro e w2 ⟨rfl, hx2⟩
      have Hx2 := Lib.hid hx2; clear hx2
      go_wp2_with fail
      refine (dict_put (Hd0.out.ext Hx2.out) (manyB 1000) (manyB_size 1000)).mono ?_
      rintro e w3 ⟨rfl, hd3, hc3⟩
      rw [Ht.out, Hn.out] at *
      have Hd3 := Lib.hid hd3; clear hd3
      have Hc3 := Lib.hid hc3; clear hc3
      go_wp2_with fail
      refine (dict_len Hd3.out).mono ?_
      rintro e w4 ⟨rfl, rfl⟩
      rw [manyL_length]
      go_wp2
      go_ret
      have hb : (((min (1020 + m) 1024 : Nat) : Int) == min (1020 + (m : Int)) 1024) = true := by rw [beq_iff_eq]; omega
      refine ⟨by show Ending.returned (.bool _) = _; rw [hb], ?_⟩
      exact Chg.ext (S := fun _ => False) (((Chg.of_ext Hx.out).trans (Chg.of_ext (S := fun _ => False) Hx2.out) (fun _ _ h => h.elim)).trans Hc3.out (fun i hi e => by omega)) (fun _ _ h => h)
end Go.Proofs.Ytfhoilccgekpmaa
