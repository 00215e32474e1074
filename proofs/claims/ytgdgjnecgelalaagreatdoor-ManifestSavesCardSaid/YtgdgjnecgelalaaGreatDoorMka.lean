/- The manifest's state in memory; which names, times, files, tiers are right. -/
import Derived.Test.YtgdgjnecgelalaaGreatDoorWte
import Derived.Test.YtgdgjnecgelalaaGreatDoorDiskB
import Derived.WideShapes
import Derived.Test.YtgdgjnecgelalaaGreatDoorVpt
import Derived.Test.YtgdgjnecgelalaaGreatDoorWtd
namespace Go.Proofs.YtgdgjnecgelalaaGreatDoor
open Go.RowKit Go.Sort Go.Lib

structure Fl where
  nm : ByteArray
  a : Int
  b : Int
  k : Int
structure Tr where
  w : Int
  o : Int
  u : Int
  m : Bool
  f : ByteArray
def Fl.cells (p : Fl) : List Value := [.string p.nm, .int .i64 p.a, .int .i64 p.b, .int .i64 p.k]
def Tr.cells (p : Tr) : List Value := [.int .i64 p.w, .int .i64 p.o, .int .i64 p.u, .bool p.m, .string p.f]
abbrev Fl.val (p : Fl) : Value := .agg #[.string p.nm, .int .i64 p.a, .int .i64 p.b, .int .i64 p.k]
abbrev Tr.val (p : Tr) : Value := .agg #[.int .i64 p.w, .int .i64 p.o, .int .i64 p.u, .bool p.m, .string p.f]
def fls (l : List Fl) : List Value := l.flatMap Fl.cells
def trs (l : List Tr) : List Value := l.flatMap Tr.cells
theorem fls_len (l : List Fl) : (fls l).length = l.length * 4 := by
  induction l with
  | nil => rfl
  | cons p l ih => simp [fls, Fl.cells] at ih ⊢; omega
theorem trs_len (l : List Tr) : (trs l).length = l.length * 5 := by
  induction l with
  | nil => rfl
  | cons p l ih => simp [trs, Tr.cells] at ih ⊢; omega
theorem fls_one (l : List Fl) : ∀ u ∈ fls l, u.oneCell' = true := by
  intro u hu
  simp only [fls, List.mem_flatMap, Fl.cells] at hu
  obtain ⟨p, _, hu⟩ := hu
  simp at hu
  rcases hu with rfl | rfl | rfl | rfl <;> rfl
theorem trs_one (l : List Tr) : ∀ u ∈ trs l, u.oneCell' = true := by
  intro u hu
  simp only [trs, List.mem_flatMap, Tr.cells] at hu
  obtain ⟨p, _, hu⟩ := hu
  simp at hu
  rcases hu with rfl | rfl | rfl | rfl | rfl <;> rfl
theorem fls_append (a b : List Fl) : fls (a ++ b) = fls a ++ fls b := by simp [fls]
theorem trs_append (a b : List Tr) : trs (a ++ b) = trs a ++ trs b := by simp [trs]
theorem fls_at (l : List Fl) (k : Nat) (p : Fl) (h : l[k]? = some p) : (fls l)[k * 4]? = some (.string p.nm) ∧ (fls l)[k * 4 + 1]? = some (.int .i64 p.a) ∧ (fls l)[k * 4 + 2]? = some (.int .i64 p.b) ∧ (fls l)[k * 4 + 3]? = some (.int .i64 p.k) := by
  induction l generalizing k with
  | nil => simp at h
  | cons q l ih =>
    cases k with
    | zero => simp at h; subst h; simp [fls, Fl.cells]
    | succ k =>
      simp at h
      have := ih k h
      rw [show (k + 1) * 4 = k * 4 + 4 by omega]
      simpa [fls, Fl.cells] using this
theorem trs_at (l : List Tr) (k : Nat) (p : Tr) (h : l[k]? = some p) : (trs l)[k * 5]? = some (.int .i64 p.w) ∧ (trs l)[k * 5 + 1]? = some (.int .i64 p.o) ∧ (trs l)[k * 5 + 2]? = some (.int .i64 p.u) ∧ (trs l)[k * 5 + 3]? = some (.bool p.m) ∧ (trs l)[k * 5 + 4]? = some (.string p.f) := by
  induction l generalizing k with
  | nil => simp at h
  | cons q l ih =>
    cases k with
    | zero => simp at h; subst h; simp [trs, Tr.cells]
    | succ k =>
      simp at h
      have := ih k h
      rw [show (k + 1) * 5 = k * 5 + 5 by omega]
      simpa [trs, Tr.cells] using this
theorem fls_src {w : World} {a : Option Addr} {n c : Nat} {l : List Fl} (h : Src w 4 (.slice a n c) n (fls l)) {k : Nat} (hk : k < n) :
    ∃ b off p, a = some ⟨b, off, none⟩ ∧ l[k]? = some p ∧ w.cell? ⟨b, off + k * 4, none⟩ = some (.string p.nm) ∧ w.cell? ⟨b, off + k * 4 + 1, none⟩ = some (.int .i64 p.a) ∧ w.cell? ⟨b, off + k * 4 + 2, none⟩ = some (.int .i64 p.b) ∧ w.cell? ⟨b, off + k * 4 + 3, none⟩ = some (.int .i64 p.k) := by
  rcases h with ⟨_, h, _⟩ | ⟨ad, c', h, hl, h2, _⟩
  · omega
  · simp at h
    obtain ⟨rfl, rfl⟩ := h
    rw [fls_len] at hl
    have hkl : k < l.length := by omega
    obtain ⟨e0, e1, e2, e3⟩ := fls_at l k l[k] (List.getElem?_eq_getElem hkl)
    have c0 := h2 _ _ e0
    have c1 := h2 _ _ e1
    have c2 := h2 _ _ e2
    have c3 := h2 _ _ e3
    obtain ⟨b, off, spot⟩ := ad
    have hz := h2 0 _ (fls_at l 0 _ (List.getElem?_eq_getElem (show 0 < l.length by omega))).1
    have hspot : spot = none := by simpa [Addr.add] using World.cell?_spot hz
    subst hspot
    rw [Go.WideShapes.add_plain] at c0 c1 c2 c3
    exact ⟨b, off, l[k], rfl, List.getElem?_eq_getElem hkl, c0, c1, c2, c3⟩
theorem trs_src {w : World} {a : Option Addr} {n c : Nat} {l : List Tr} (h : Src w 5 (.slice a n c) n (trs l)) {k : Nat} (hk : k < n) :
    ∃ b off p, a = some ⟨b, off, none⟩ ∧ l[k]? = some p ∧ w.cell? ⟨b, off + k * 5, none⟩ = some (.int .i64 p.w) ∧ w.cell? ⟨b, off + k * 5 + 1, none⟩ = some (.int .i64 p.o) ∧ w.cell? ⟨b, off + k * 5 + 2, none⟩ = some (.int .i64 p.u) ∧ w.cell? ⟨b, off + k * 5 + 3, none⟩ = some (.bool p.m) ∧ w.cell? ⟨b, off + k * 5 + 4, none⟩ = some (.string p.f) := by
  rcases h with ⟨_, h, _⟩ | ⟨ad, c', h, hl, h2, _⟩
  · omega
  · simp at h
    obtain ⟨rfl, rfl⟩ := h
    rw [trs_len] at hl
    have hkl : k < l.length := by omega
    obtain ⟨e0, e1, e2, e3, e4⟩ := trs_at l k l[k] (List.getElem?_eq_getElem hkl)
    have c0 := h2 _ _ e0
    have c1 := h2 _ _ e1
    have c2 := h2 _ _ e2
    have c3 := h2 _ _ e3
    have c4 := h2 _ _ e4
    obtain ⟨b, off, spot⟩ := ad
    have hz := h2 0 _ (trs_at l 0 _ (List.getElem?_eq_getElem (show 0 < l.length by omega))).1
    have hspot : spot = none := by simpa [Addr.add] using World.cell?_spot hz
    subst hspot
    rw [Go.WideShapes.add_plain] at c0 c1 c2 c3 c4
    exact ⟨b, off, l[k], rfl, List.getElem?_eq_getElem hkl, c0, c1, c2, c3, c4⟩
theorem fls_src_len {w : World} {v : Value} {n : Nat} {l : List Fl} (h : Src w 4 v n (fls l)) : l.length = n := by
  rcases h with ⟨_, rfl, h⟩ | ⟨_, _, _, h, _⟩
  · have := fls_len l; rw [h] at this; simp at this; omega
  · rw [fls_len] at h; omega
theorem trs_src_len {w : World} {v : Value} {n : Nat} {l : List Tr} (h : Src w 5 v n (trs l)) : l.length = n := by
  rcases h with ⟨_, rfl, h⟩ | ⟨_, _, _, h, _⟩
  · have := trs_len l; rw [h] at this; simp at this; omega
  · rw [trs_len] at h; omega

theorem toList_nil (b : ByteArray) : b.toList = [] ↔ b.size = 0 := by
  rw [ByteArray.toList_eq]
  constructor
  · intro h
    have := congrArg List.length h
    simpa using this
  · intro h
    have : b.data.toList.length = 0 := by simpa using h
    exact List.eq_nil_of_length_eq_zero this
def nmB (s : ByteArray) : Bool := decide (1 ≤ s.size) && decide (s.size ≤ 64)
def inB (z lo hi : Int) : Bool := decide (lo ≤ z) && decide (z ≤ hi)
def z60 (z : Int) : Bool := inB z 0 1152921504606846976
def flR (p : Fl) : Bool := nmB p.nm && tmB p.a && tmB p.b && decide (p.a ≤ p.b) && decide (0 < p.k) && z60 p.k
def trR (p : Tr) : Bool := (decide (1 ≤ p.w) && decide (p.w ≤ 1099511627776) && decide (0 ≤ p.o) && decide (p.o < p.w)) && (if p.m then nmB p.f && tmB p.u else decide (p.u = 0) && decide (p.f.size = 0))

set_option maxHeartbeats 2000000 in
theorem manTime_any (z : Int) (w : World) :
    Calls Tryz.prog 111 #[.int .i64 z] w fun e w' => e = .returned (.bool (tmB z)) ∧ w = w' := by
  by_cases h0 : -1152921504606846976 ≤ z
  · by_cases h1 : z ≤ 1152921504606846976
    · have HF : Hid (tmB z = true) := Lib.hid (by simp [tmB, h0, h1])
      go_enter Tryz.func111, Tryz.ntmps111
      go_wp2_with fail
      go_ret
      rw [HF.out]
      exact ⟨rfl, rfl⟩
    · have HF : Hid (tmB z = false) := Lib.hid (by simp [tmB, h1])
      go_enter Tryz.func111, Tryz.ntmps111
      go_wp2_with fail
      go_ret
      rw [HF.out]
      exact ⟨rfl, rfl⟩
  · have HF : Hid (tmB z = false) := Lib.hid (by simp [tmB, h0])
    go_enter Tryz.func111, Tryz.ntmps111
    go_wp2_with fail
    go_ret
    rw [HF.out]
    exact ⟨rfl, rfl⟩
set_option maxHeartbeats 2000000 in
theorem ref18in_any (z lo hi : Int) (w : World) :
    Calls Tryz.prog 89 #[.int .i64 z, .int .i64 lo, .int .i64 hi] w fun e w' => e = .returned (.bool (inB z lo hi)) ∧ w = w' := by
  by_cases h0 : lo ≤ z
  · by_cases h1 : z ≤ hi
    · have HF : Hid (inB z lo hi = true) := Lib.hid (by simp [inB, h0, h1])
      go_enter Tryz.func89, Tryz.ntmps89
      go_wp2_with fail
      go_ret
      rw [HF.out]
      exact ⟨rfl, rfl⟩
    · have HF : Hid (inB z lo hi = false) := Lib.hid (by simp [inB, h1])
      go_enter Tryz.func89, Tryz.ntmps89
      go_wp2_with fail
      go_ret
      rw [HF.out]
      exact ⟨rfl, rfl⟩
  · have HF : Hid (inB z lo hi = false) := Lib.hid (by simp [inB, h0])
    go_enter Tryz.func89, Tryz.ntmps89
    go_wp2_with fail
    go_ret
    rw [HF.out]
    exact ⟨rfl, rfl⟩
set_option maxHeartbeats 2000000 in
theorem manName_any (s : ByteArray) (w : World) :
    Calls Tryz.prog 110 #[.string s] w fun e w' => e = .returned (.bool (nmB s)) ∧ w = w' := by
  have HF : Hid (nmB s = (decide (1 ≤ s.size) && decide (s.size ≤ 64))) := Lib.hid rfl
  generalize nmB s = R at *
  by_cases h0 : s.toList = []
  · have hR : Hid (R = false) := Lib.hid (by have := (toList_nil s).mp h0; rw [HF.out]; simp; omega)
    clear HF
    go_enter Tryz.func110, Tryz.ntmps110
    go_wp2_with fail
    go_ret
    rw [hR.out]
    exact ⟨rfl, rfl⟩
  · have hs : Hid (¬ s.size = 0) := Lib.hid (fun h => h0 ((toList_nil s).mpr h))
    have hie : s.toList.isEmpty = false := by simpa using h0
    by_cases h1 : (s.size : Int) ≤ 64
    · have hR : Hid (R = true) := Lib.hid (by have := hs.out; rw [HF.out]; simp; omega)
      clear HF
      go_enter Tryz.func110, Tryz.ntmps110
      go_wp2_with fail
      go_ret
      rw [hR.out]
      exact ⟨rfl, rfl⟩
    · have hR : Hid (R = false) := Lib.hid (by have := hs.out; rw [HF.out]; simp; omega)
      clear HF
      go_enter Tryz.func110, Tryz.ntmps110
      go_wp2_with fail
      go_ret
      rw [hR.out]
      exact ⟨rfl, rfl⟩
set_option maxHeartbeats 2000000 in
theorem ref18name_any (s : ByteArray) (w : World) :
    Calls Tryz.prog 91 #[.string s] w fun e w' => e = .returned (.bool (nmB s)) ∧ w = w' := by
  have HF : Hid (nmB s = (decide (1 ≤ s.size) && decide (s.size ≤ 64))) := Lib.hid rfl
  generalize nmB s = R at *
  by_cases h0 : 1 ≤ (s.size : Int)
  · by_cases h1 : (s.size : Int) ≤ 64
    · have hR : Hid (R = true) := Lib.hid (by rw [HF.out]; simp; omega)
      clear HF
      go_enter Tryz.func91, Tryz.ntmps91
      go_wp2_with fail
      go_ret
      rw [hR.out]
      exact ⟨rfl, rfl⟩
    · have hR : Hid (R = false) := Lib.hid (by rw [HF.out]; simp; omega)
      clear HF
      go_enter Tryz.func91, Tryz.ntmps91
      go_wp2_with fail
      go_ret
      rw [hR.out]
      exact ⟨rfl, rfl⟩
  · have hR : Hid (R = false) := Lib.hid (by rw [HF.out]; simp; omega)
    clear HF
    go_enter Tryz.func91, Tryz.ntmps91
    go_wp2_with fail
    go_ret
    rw [hR.out]
    exact ⟨rfl, rfl⟩
end Go.Proofs.YtgdgjnecgelalaaGreatDoor

/-! Slices of ints in memory. -/

namespace Go.Proofs.YtgdgjnecgelalaaGreatDoor
open Go.RowKit Go.Sort Go.Lib

def zints (l : List Int) : List Value := l.map (Value.int .i64)

theorem zints_src {w : World} {a : Option Addr} {n c : Nat} {l : List Int} (h : Src w 1 (.slice a n c) n (zints l)) {k : Nat} (hk : k < n) :
    ∃ b off z, a = some ⟨b, off, none⟩ ∧ l[k]? = some z ∧ w.cell? ⟨b, off + k, none⟩ = some (.int .i64 z) := by
  rcases h with ⟨_, h, _⟩ | ⟨ad, c', h, hl, h2, _⟩
  · omega
  · simp at h
    obtain ⟨rfl, rfl⟩ := h
    have hl' : l.length = n := by simpa [zints] using hl
    have hkl : k < l.length := by omega
    have hcell := h2 k (.int .i64 l[k]) (by simp [zints, List.getElem?_eq_getElem hkl])
    have hcell0 := h2 0 (.int .i64 (l[0]'(by omega))) (by simp [zints, List.getElem?_eq_getElem (show 0 < l.length by omega)])
    obtain ⟨b, off, spot⟩ := ad
    have hspot : spot = none := by simpa [Addr.add] using World.cell?_spot hcell0
    subst hspot
    refine ⟨b, off, l[k], rfl, List.getElem?_eq_getElem hkl, ?_⟩
    rw [← Go.WideShapes.add_plain]; exact hcell
theorem zints_src_len {w : World} {v : Value} {n : Nat} {l : List Int} (h : Src w 1 v n (zints l)) : l.length = n := by
  rcases h with ⟨_, h, h2⟩ | ⟨_, _, _, h, _⟩
  · have : (zints l).length = 0 := by rw [h2]; rfl
    simp [zints] at this; simp [this, h]
  · simpa [zints] using h

end Go.Proofs.YtgdgjnecgelalaaGreatDoor

/-! manifest.from0. -/

namespace Go.Proofs.YtgdgjnecgelalaaGreatDoor
open Go.RowKit Go.Sort Go.Lib

def allZ (l : List Int) : Bool := l.all z60
theorem allZ_not {l : List Int} {k : Nat} {z : Int} (h : l[k]? = some z) (hz : z60 z = false) : allZ l = false := by
  unfold allZ
  rw [List.all_eq_false]
  exact ⟨z, List.mem_of_getElem? h, by simp [hz]⟩
theorem allZ_all {l : List Int} (h : ∀ (k : Nat) (z : Int), l[k]? = some z → z60 z = true) : allZ l = true := by
  unfold allZ
  rw [List.all_eq_true]
  intro z hz
  obtain ⟨k, hk⟩ := List.getElem?_of_mem hz
  exact h k z hk
set_option maxHeartbeats 4000000 in
set_option maxRecDepth 100000 in
theorem from0_any (w : World) (a : Option Addr) (n c : Nat) (l : List Int) (hl : Src w 1 (.slice a n c) n (zints l)) (hn : n < 4611686018427387904) :
    Calls Tryz.prog 78 #[.slice a n c] w fun e w' => e = .returned (.bool (allZ l)) ∧ w = w' := by
  have HL := Lib.hid hl
  have HLN := Lib.hid (zints_src_len hl)
  clear hl
  go_enter Tryz.func78, Tryz.ntmps78
  go_wp2_with fail
  go_loopw [7] (fun i wr => ∃ k : Nat, k ≤ n ∧ i = .int .i64 k ∧ w = wr ∧ Hid (∀ (j : Nat) (z : Int), j < k → l[j]? = some z → z60 z = true)) (fun i _ => n - (RowKit.intOf i).toNat)
  case atStart => exact ⟨0, by omega, rfl, rfl, Lib.hid (fun j z hj => by omega)⟩
  case round =>
    obtain ⟨k, hk, rfl, rfl, HK⟩ := hrel
    by_cases hlt : k < n
    · obtain ⟨b, off, z, rfl, hz, c0⟩ := zints_src HL.out hlt
      by_cases h0 : z < 0
      · have hR : Hid (allZ l = false) := Lib.hid (allZ_not hz (by simp [z60, inB]; omega))
        clear hz
        go_wp2_with fail
        go_ret
        rw [hR.out]
        exact ⟨rfl, rfl⟩
      · by_cases h1 : 1152921504606846976 < z
        · have hR : Hid (allZ l = false) := Lib.hid (allZ_not hz (by simp [z60, inB]; omega))
          clear hz
          go_wp2_with fail
          go_ret
          rw [hR.out]
          exact ⟨rfl, rfl⟩
        · have hK' : Hid (∀ (j : Nat) (z : Int), j < k + 1 → l[j]? = some z → z60 z = true) := Lib.hid (fun j y hj hy => by
            by_cases e : j = k
            · subst e; rw [hz] at hy; cases hy; simp [z60, inB]; omega
            · exact HK.out j y (by omega) hy)
          clear hz
          go_wp2_with fail
          go_roundw
          case rel => exact ⟨k + 1, by omega, by go_num, (by first | rfl | trivial), hK'⟩
          case measure => simp [RowKit.intOf]; omega
    · obtain rfl : k = n := by omega
      have hR : Hid (allZ l = true) := Lib.hid (allZ_all (fun j z hz => HK.out j z (by
        have h1 := HLN.out
        have h2 : j < l.length := by
          by_cases h : j < l.length
          · exact h
          · rw [List.getElem?_eq_none (by omega)] at hz; cases hz
        omega) hz))
      clear HK
      go_wp2_with fail
      go_ret
      rw [hR.out]
      exact ⟨rfl, rfl⟩
end Go.Proofs.YtgdgjnecgelalaaGreatDoor

/-! (manifest.File).right, (manifest.Tier).right. Printed by tools/gen_mfc.py. -/

namespace Go.Proofs.YtgdgjnecgelalaaGreatDoor
open Go.RowKit Go.Sort Go.Lib

theorem src_z1 {W : World} {b : Nat} {z : Int} {t : TypeId} {fr : Nat × Nat} (h : W.heap[b]? = some (.cells #[.int .i64 z] t fr)) : Src W 1 (.slice (some ⟨b, 0, none⟩) 1 1) 1 (zints [z]) := by
  refine .inr ⟨_, _, rfl, rfl, fun j u hj => ?_, fun u hu => by simp [zints] at hu; subst hu; rfl⟩
  rw [Go.WideShapes.add_plain, Nat.zero_add, cell_of_block h]
  simpa [zints] using hj

set_option maxHeartbeats 8000000 in
set_option maxRecDepth 100000 in
theorem fileRight_any (p : Fl) (w : World) :
    Calls Tryz.prog 79 #[p.val] w fun e w' => e = .returned (.bool (flR p)) ∧ Ext w w' := by
  obtain ⟨nm, a, b, k⟩ := p
  have HF : Hid (flR ⟨nm, a, b, k⟩ = (nmB nm && tmB a && tmB b && decide (a ≤ b) && decide (0 < k) && z60 k)) := Lib.hid rfl
  have HZ : Hid (allZ [k] = z60 k) := Lib.hid (by simp [allZ])
  generalize flR ⟨nm, a, b, k⟩ = R at *
  have H0 := Lib.hid (fun w => from0_any w)
  have HN := Lib.hid (fun w => manName_any nm w)
  have HA := Lib.hid (fun w => manTime_any a w)
  have HB := Lib.hid (fun w => manTime_any b w)
  generalize nmB nm = cn at *
  generalize tmB a = ca at *
  generalize tmB b = cb at *
  generalize z60 k = ck at *
  cases cn
  · as_aux_lemma =>
      have hR : Hid (R = false) := Lib.hid (by rw [HF.out]; simp)
      clear HF
      go_enter Tryz.func79, Tryz.ntmps79
      go_wp2_with fail
      refine (HN.out _).mono ?_
      rintro e w' ⟨rfl, rfl⟩
      go_wp2_with fail
      go_ret
      rw [hR.out]
      exact ⟨rfl, (Ext.refl _).alloc _⟩
  · cases ca
    · as_aux_lemma =>
        have hR : Hid (R = false) := Lib.hid (by rw [HF.out]; simp)
        clear HF
        go_enter Tryz.func79, Tryz.ntmps79
        go_wp2_with fail
        refine (HN.out _).mono ?_
        rintro e w' ⟨rfl, rfl⟩
        go_wp2_with fail
        refine (HA.out _).mono ?_
        rintro e w' ⟨rfl, rfl⟩
        go_wp2_with fail
        go_ret
        rw [hR.out]
        exact ⟨rfl, (Ext.refl _).alloc _⟩
    · cases cb
      · as_aux_lemma =>
          have hR : Hid (R = false) := Lib.hid (by rw [HF.out]; simp)
          clear HF
          go_enter Tryz.func79, Tryz.ntmps79
          go_wp2_with fail
          refine (HN.out _).mono ?_
          rintro e w' ⟨rfl, rfl⟩
          go_wp2_with fail
          refine (HA.out _).mono ?_
          rintro e w' ⟨rfl, rfl⟩
          go_wp2_with fail
          refine (HB.out _).mono ?_
          rintro e w' ⟨rfl, rfl⟩
          go_wp2_with fail
          go_ret
          rw [hR.out]
          exact ⟨rfl, (Ext.refl _).alloc _⟩
      · by_cases hab : a ≤ b
        · by_cases hk : 0 < k
          · have H1 := Lib.hid (fun (w : World) (b : Nat) (h : w.heap[b]? = some (Obj.cells #[.int .i64 k] 3 (0, 0))) => H0.out w _ 1 1 [k] (src_z1 h) (by decide))
            rw [HZ.out] at H1
            clear H0 HZ
            cases ck
            · as_aux_lemma =>
                have hR : Hid (R = false) := Lib.hid (by rw [HF.out]; simp)
                clear HF
                go_enter Tryz.func79, Tryz.ntmps79
                go_wp2_with fail
                refine (HN.out _).mono ?_
                rintro e w' ⟨rfl, rfl⟩
                go_wp2_with fail
                refine (HA.out _).mono ?_
                rintro e w' ⟨rfl, rfl⟩
                go_wp2_with fail
                refine (HB.out _).mono ?_
                rintro e w' ⟨rfl, rfl⟩
                go_wp2_with fail
                refine (H1.out _ _ (heap_alloc2 w _ _)).mono ?_
                rintro e w' ⟨rfl, rfl⟩
                go_wp2_with fail
                go_ret
                rw [hR.out]
                exact ⟨rfl, ((Ext.refl _).alloc _).alloc _⟩
            · as_aux_lemma =>
                have hR : Hid (R = true) := Lib.hid (by rw [HF.out]; simp [hab, hk])
                clear HF
                go_enter Tryz.func79, Tryz.ntmps79
                go_wp2_with fail
                refine (HN.out _).mono ?_
                rintro e w' ⟨rfl, rfl⟩
                go_wp2_with fail
                refine (HA.out _).mono ?_
                rintro e w' ⟨rfl, rfl⟩
                go_wp2_with fail
                refine (HB.out _).mono ?_
                rintro e w' ⟨rfl, rfl⟩
                go_wp2_with fail
                refine (H1.out _ _ (heap_alloc2 w _ _)).mono ?_
                rintro e w' ⟨rfl, rfl⟩
                go_wp2_with fail
                go_ret
                rw [hR.out]
                exact ⟨rfl, ((Ext.refl _).alloc _).alloc _⟩
          · as_aux_lemma =>
              have hR : Hid (R = false) := Lib.hid (by rw [HF.out]; simp [hk])
              clear HF
              go_enter Tryz.func79, Tryz.ntmps79
              go_wp2_with fail
              refine (HN.out _).mono ?_
              rintro e w' ⟨rfl, rfl⟩
              go_wp2_with fail
              refine (HA.out _).mono ?_
              rintro e w' ⟨rfl, rfl⟩
              go_wp2_with fail
              refine (HB.out _).mono ?_
              rintro e w' ⟨rfl, rfl⟩
              go_wp2_with fail
              go_ret
              rw [hR.out]
              exact ⟨rfl, (Ext.refl _).alloc _⟩
        · as_aux_lemma =>
            have hR : Hid (R = false) := Lib.hid (by rw [HF.out]; simp [hab])
            clear HF
            go_enter Tryz.func79, Tryz.ntmps79
            go_wp2_with fail
            refine (HN.out _).mono ?_
            rintro e w' ⟨rfl, rfl⟩
            go_wp2_with fail
            refine (HA.out _).mono ?_
            rintro e w' ⟨rfl, rfl⟩
            go_wp2_with fail
            refine (HB.out _).mono ?_
            rintro e w' ⟨rfl, rfl⟩
            go_wp2_with fail
            go_ret
            rw [hR.out]
            exact ⟨rfl, (Ext.refl _).alloc _⟩
set_option maxHeartbeats 8000000 in
set_option maxRecDepth 100000 in
theorem tierRight_any (p : Tr) (w : World) :
    Calls Tryz.prog 80 #[p.val] w fun e w' => e = .returned (.bool (trR p)) ∧ Ext w w' := by
  obtain ⟨d, q, u, m, f⟩ := p
  have HF : Hid (trR ⟨d, q, u, m, f⟩ = ((decide (1 ≤ d) && decide (d ≤ 1099511627776) && decide (0 ≤ q) && decide (q < d)) && (if m then nmB f && tmB u else decide (u = 0) && decide (f.size = 0)))) := Lib.hid rfl
  generalize trR ⟨d, q, u, m, f⟩ = R at *
  have HN := Lib.hid (fun w => manName_any f w)
  have HU := Lib.hid (fun w => manTime_any u w)
  generalize nmB f = cn at *
  generalize tmB u = cu at *
  by_cases h1 : d < 1
  · as_aux_lemma =>
      have hR : Hid (R = false) := Lib.hid (by rw [HF.out]; have : ¬ 1 ≤ d := (by omega); simp [this])
      clear HF
      go_enter Tryz.func80, Tryz.ntmps80
      go_wp2_with fail
      go_ret
      rw [hR.out]
      exact ⟨rfl, (Ext.refl _).alloc _⟩
  · by_cases h2 : 1099511627776 < d
    · as_aux_lemma =>
        have hR : Hid (R = false) := Lib.hid (by rw [HF.out]; have : ¬ d ≤ 1099511627776 := (by omega); simp [this])
        clear HF
        go_enter Tryz.func80, Tryz.ntmps80
        go_wp2_with fail
        go_ret
        rw [hR.out]
        exact ⟨rfl, (Ext.refl _).alloc _⟩
    · by_cases h3 : q < 0
      · as_aux_lemma =>
          have hR : Hid (R = false) := Lib.hid (by rw [HF.out]; have : ¬ 0 ≤ q := (by omega); simp [this])
          clear HF
          go_enter Tryz.func80, Tryz.ntmps80
          go_wp2_with fail
          go_ret
          rw [hR.out]
          exact ⟨rfl, (Ext.refl _).alloc _⟩
      · by_cases h4 : d ≤ q
        · as_aux_lemma =>
            have hR : Hid (R = false) := Lib.hid (by rw [HF.out]; have : ¬ q < d := (by omega); simp [this])
            clear HF
            go_enter Tryz.func80, Tryz.ntmps80
            go_wp2_with fail
            go_ret
            rw [hR.out]
            exact ⟨rfl, (Ext.refl _).alloc _⟩
        · have HG : Hid ((decide (1 ≤ d) && decide (d ≤ 1099511627776) && decide (0 ≤ q) && decide (q < d)) = true) := Lib.hid (by simp; omega)
          rw [HG.out, Bool.true_and] at HF
          clear HG
          cases m
          · by_cases hu : u = 0
            · have hue : (u == 0) = true := by simp [hu]
              by_cases hf : f.toList = []
              · as_aux_lemma =>
                  have hR : Hid (R = true) := Lib.hid (by rw [HF.out]; have := (toList_nil f).mp hf; simp [hu, this])
                  clear HF
                  go_enter Tryz.func80, Tryz.ntmps80
                  go_wp2_with fail
                  go_ret
                  rw [hR.out]
                  exact ⟨rfl, ((Ext.refl _).alloc _).alloc _⟩
              · as_aux_lemma =>
                  have hR : Hid (R = false) := Lib.hid (by rw [HF.out]; have : ¬ f.size = 0 := fun h => hf ((toList_nil f).mpr h); simp [this])
                  clear HF
                  go_enter Tryz.func80, Tryz.ntmps80
                  go_wp2_with fail
                  go_ret
                  rw [hR.out]
                  exact ⟨rfl, ((Ext.refl _).alloc _).alloc _⟩
            · have hue : (u == 0) = false := by simp [hu]
              · as_aux_lemma =>
                  have hR : Hid (R = false) := Lib.hid (by rw [HF.out]; simp [hu])
                  clear HF
                  go_enter Tryz.func80, Tryz.ntmps80
                  go_wp2_with fail
                  go_ret
                  rw [hR.out]
                  exact ⟨rfl, ((Ext.refl _).alloc _).alloc _⟩
          · cases cn
            · as_aux_lemma =>
                have hR : Hid (R = false) := Lib.hid (by rw [HF.out]; simp)
                clear HF
                go_enter Tryz.func80, Tryz.ntmps80
                go_wp2_with fail
                refine (HN.out _).mono ?_
                rintro e w' ⟨rfl, rfl⟩
                go_wp2_with fail
                go_ret
                rw [hR.out]
                exact ⟨rfl, ((Ext.refl _).alloc _).alloc _⟩
            · cases cu
              · as_aux_lemma =>
                  have hR : Hid (R = false) := Lib.hid (by rw [HF.out]; simp)
                  clear HF
                  go_enter Tryz.func80, Tryz.ntmps80
                  go_wp2_with fail
                  refine (HN.out _).mono ?_
                  rintro e w' ⟨rfl, rfl⟩
                  go_wp2_with fail
                  refine (HU.out _).mono ?_
                  rintro e w' ⟨rfl, rfl⟩
                  go_wp2_with fail
                  go_ret
                  rw [hR.out]
                  exact ⟨rfl, ((Ext.refl _).alloc _).alloc _⟩
              · as_aux_lemma =>
                  have hR : Hid (R = true) := Lib.hid (by rw [HF.out]; simp)
                  clear HF
                  go_enter Tryz.func80, Tryz.ntmps80
                  go_wp2_with fail
                  refine (HN.out _).mono ?_
                  rintro e w' ⟨rfl, rfl⟩
                  go_wp2_with fail
                  refine (HU.out _).mono ?_
                  rintro e w' ⟨rfl, rfl⟩
                  go_wp2_with fail
                  go_ret
                  rw [hR.out]
                  exact ⟨rfl, ((Ext.refl _).alloc _).alloc _⟩
end Go.Proofs.YtgdgjnecgelalaaGreatDoor

/-! What is put is read: numbers (plain). -/

namespace Go.Proofs.YtgdgjnecgelalaaGreatDoor
open Go.RowKit Go.Sort Go.Lib

theorem ofNat_toNat {x : Nat} (h : x < 256) : (UInt8.ofNat x).toNat = x := by rw [UInt8.toNat_ofNat']; omega
/-- A number's bytes: all but the last one go on. -/
theorem varP_parts (u : Nat) : ∃ init last, varP u = init ++ [last] ∧ (∀ c ∈ init, 128 ≤ c.toNat) ∧ last.toNat < 128 ∧ (0 < init.length → 0 < last.toNat) ∧ valL (varP u) = u := by
  induction u using Nat.strongRecOn with
  | _ u ih =>
    by_cases h : u < 128
    · refine ⟨[], UInt8.ofNat u, by rw [varP_lt h]; rfl, by simp, by rw [ofNat_toNat (by omega)]; exact h, by simp, ?_⟩
      rw [varP_lt h]
      simp only [valL]
      rw [ofNat_toNat (by omega)]
      omega
    · obtain ⟨init, last, e, h1, h2, h3, h4⟩ := ih (u / 128) (by omega)
      refine ⟨UInt8.ofNat (u % 128 + 128) :: init, last, by rw [varP_ge h, e]; rfl, ?_, h2, fun _ => ?_, ?_⟩
      · intro c hc
        rcases List.mem_cons.1 hc with rfl | hc
        · rw [ofNat_toNat (by omega)]; omega
        · exact h1 c hc
      · rcases Nat.eq_zero_or_pos init.length with h0 | h0
        · have hi : init = [] := List.length_eq_zero_iff.1 h0
          subst hi
          rw [List.nil_append] at e
          rw [e] at h4
          simp only [valL] at h4
          omega
        · exact h3 h0
      · rw [varP_ge h]
        simp only [valL]
        rw [h4, ofNat_toNat (by omega)]
        omega

theorem varR_put {u : Nat} (hu : u < 2 ^ 64) (rest : List UInt8) : varR (varP u ++ rest) = (u, (varP u).length, 0) := by
  obtain ⟨init, last, e, h1, h2, h3, h4⟩ := varP_parts u
  have h10 := varP_10 hu
  have hlen : (varP u).length = init.length + 1 := by rw [e]; simp
  have hl : (varP u ++ rest)[init.length]? = some last := by rw [e]; simp
  have hc : conts (varP u ++ rest) = init.length := (conts_of (fun i hi => by
    refine ⟨init[i], ?_, h1 _ (List.getElem_mem hi)⟩
    rw [e, List.append_assoc, List.getElem?_append_left hi, List.getElem?_eq_getElem hi])).2.1 last hl h2
  have ht : (varP u ++ rest).take (init.length + 1) = varP u := by rw [← hlen]; exact List.take_left
  rw [varR_ok hc (by omega) hl ?_, ht, h4, hlen]
  rintro (⟨h9, hb⟩ | ⟨h0, hz⟩)
  · have : valL (varP u) = valL init + last.toNat % 128 * 128 ^ init.length := by rw [e, valL_snoc]
    rw [h4, h9] at this
    have e9 : (128 : Nat) ^ 9 = 2 ^ 63 := by decide
    have : 2 ≤ last.toNat % 128 := by omega
    have : 2 * 128 ^ 9 ≤ last.toNat % 128 * 128 ^ 9 := Nat.mul_le_mul_right _ this
    omega
  · have := h3 h0; omega

end Go.Proofs.YtgdgjnecgelalaaGreatDoor

/-! A mark that is put is read (plain). -/

namespace Go.Proofs.YtgdgjnecgelalaaGreatDoor
open Go.RowKit Go.Sort Go.Lib

theorem i64n_u64n {g : Int} (h0 : -9223372036854775808 ≤ g) (h1 : g ≤ 9223372036854775807) : i64n (u64n g) = g := by
  unfold i64n u64n wrap64
  omega
theorem varR_one (u : Nat) (hu : u < 2 ^ 64) : varR (varP u) = (u, (varP u).length, 0) := by
  have := varR_put hu []
  simpa using this
theorem mark_back (m : Mk) (hm : m.ok) : ((markR (markP m)).2.2 = 0 ∧ (markR (markP m)).1 = m) ↔ mkR m = true := by
  obtain ⟨s, t, g⟩ := m
  have hg := i64n_u64n hm.g0 hm.g1
  have hz := i64_zig hm.t0 hm.t1
  simp only at hg hz
  cases s
  · have e1 : markR (markP ⟨false, t, g⟩) = markIf ⟨false, 0, g⟩ ((varP (u64n g)).length + (varP 0).length) := by
      unfold markR markP
      rw [varR_put (u64n_lt g)]
      simp only [ne_eq, not_true, if_false, hg]
      unfold markC
      simp only [Bool.false_eq_true, if_false, List.drop_left']
      rw [varR_one 0 (by decide)]
      simp
    rw [e1]
    unfold markIf
    split
    · rename_i h
      have : mkR ⟨false, t, g⟩ = true ↔ t = 0 := by
        simp [mkR] at h ⊢
        rintro rfl; exact h
      rw [this]
      constructor
      · rintro ⟨_, h⟩; exact ((Mk.mk.injEq ..).mp h).2.1.symm
      · rintro rfl; exact ⟨rfl, rfl⟩
    · rename_i h
      constructor
      · rintro ⟨h, _⟩; simp [markE] at h
      · intro h2
        exfalso
        apply h
        simp [mkR] at h2 ⊢
        obtain ⟨h3, rfl⟩ := h2
        exact h3
  · have e1 : markR (markP ⟨true, t, g⟩) = markIf ⟨true, t, g⟩ ((varP (u64n g)).length + (varP 1).length + (varP (zig t)).length) := by
      unfold markR markP
      rw [varR_put (u64n_lt g)]
      simp only [ne_eq, not_true, if_false, hg]
      unfold markC
      simp only [if_true, List.drop_left']
      rw [varR_put (by decide)]
      simp only [ne_eq, not_true, if_false, if_true, Nat.one_ne_zero]
      unfold markD
      rw [← List.append_assoc, List.drop_left' (by rw [List.length_append]), varR_one _ hz]
      simp only [ne_eq, not_true, if_false, zag_zig]
    rw [e1]
    unfold markIf
    split
    · rename_i h; simp [h]
    · rename_i h; simp [h, markE]
end Go.Proofs.YtgdgjnecgelalaaGreatDoor
