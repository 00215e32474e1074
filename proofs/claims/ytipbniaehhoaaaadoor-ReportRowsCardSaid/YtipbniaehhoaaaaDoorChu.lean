/- wide.chunk: the digits of a part, so many. -/
import Derived.Test.YtipbniaehhoaaaaDoorByt
import Derived.Test.YtipbniaehhoaaaaDoorPlan
import Derived.Deep.DeepCutAuto
namespace Go.Proofs.YtipbniaehhoaaaaDoor
open Go.RowKit Go.Sort Go.Lib

/-- A digit; the lowest k digits, the lowest first. -/
def dgt (u : Nat) : UInt8 := UInt8.ofNat (48 + u % 10)
def lows (k u : Nat) : List UInt8 := (List.range k).map fun i => dgt (u / 10 ^ i)
def dec (k u : Nat) : List UInt8 := (lows k u).reverse
theorem lows_len (k u : Nat) : (lows k u).length = k := by simp [lows]
theorem lows_succ (k u : Nat) : lows (k + 1) u = lows k u ++ [dgt (u / 10 ^ k)] := by simp [lows, List.range_succ]
theorem dgt_nat (u : Nat) : (dgt u).toNat = 48 + u % 10 := by
  unfold dgt
  rw [UInt8.toNat_ofNat']
  omega

/-- A row of which i ends have been changed. -/
structure RevL (L : List UInt8) (i : Nat) (M : List UInt8) : Prop where
  len : M.length = L.length
  at' : ∀ k, k < L.length → M[k]? = if k < i ∨ L.length - i ≤ k then L[L.length - 1 - k]? else L[k]?
theorem RevL.start (L : List UInt8) : RevL L 0 L := ⟨rfl, fun k hk => by rw [if_neg (by omega)]⟩
theorem RevL.step {L M : List UInt8} {i j : Nat} {x y : UInt8} (h : RevL L i M) (hj : i + j + 1 = L.length) (hij : i < j) (hx : M[i]? = some x) (hy : M[j]? = some y) : RevL L (i + 1) ((M.set i y).set j x) := by
  have hl := h.len
  refine ⟨by simp [h.len], fun k hk => ?_⟩
  have hxi := h.at' i (by omega)
  have hyj := h.at' j (by omega)
  rw [hx, if_neg (by omega)] at hxi
  rw [hy, if_neg (by omega)] at hyj
  by_cases h1 : k = j
  · subst h1
    rw [List.getElem?_set_self (by simp; omega), if_pos (by omega), show L.length - 1 - k = i by omega, hxi]
  · rw [List.getElem?_set_ne (by omega)]
    by_cases h2 : k = i
    · subst h2
      rw [List.getElem?_set_self (by omega), if_pos (by omega), show L.length - 1 - k = j by omega, hyj]
    · rw [List.getElem?_set_ne (by omega), h.at' k hk]
      by_cases h3 : k < i ∨ L.length - i ≤ k
      · rw [if_pos h3, if_pos (by omega)]
      · rw [if_neg h3, if_neg (by omega)]
theorem RevL.done {L M : List UInt8} {i : Nat} (h : RevL L i M) (hi : L.length ≤ 2 * i + 1) : M = L.reverse := by
  refine List.ext_getElem? (fun k => ?_)
  rcases Nat.lt_or_ge k L.length with hk | hk
  · rw [h.at' k hk, List.getElem?_reverse hk]
    split
    · rfl
    · rw [show L.length - 1 - k = k by omega]
  · rw [List.getElem?_eq_none (by rw [h.len]; exact hk), List.getElem?_eq_none (by simpa using hk)]

set_option maxHeartbeats 4000000 in
set_option maxRecDepth 100000 in
theorem chunk_any (u least : Nat) (w : World) (hu : u < 10 ^ least) (h1 : 1 ≤ least) (h2 : least ≤ 19) :
    Calls Tryd.prog 15 #[.int .u64 (u : Int), .int .i64 (least : Int)] w fun e w' => e = .returned (.string ⟨(dec least u).toArray⟩) ∧ Ext w w' := by
  have HU := Lib.hid hu
  have HUL : Hid (u < 18446744073709551616) := Lib.hid (Nat.lt_of_lt_of_le hu (Nat.le_trans (Nat.pow_le_pow_right (by omega) h2) (by decide)))
  clear hu
  go_enter Tryd.func15, Tryd.ntmps15
  go_wp2_with fail
  go_loopw [0, 5] (fun su sv wr => ∃ (k u' : Nat) (va : Option Addr) (vc : Nat), su = .int .u64 (u' : Int) ∧ sv = .slice va k vc ∧ k ≤ least ∧ Hid (u' = u / 10 ^ k ∧ u' < 18446744073709551616) ∧ Hid (MadeTo w 5 1 sv k (u8s (lows k u)) wr)) (fun _ sv _ => match sv with | .slice _ n _ => least - n | _ => 0)
  case atStart => exact ⟨0, u, none, 0, rfl, rfl, by omega, Lib.hid ⟨by simp, HUL.out⟩, Lib.hid ⟨Row.nil _ _ _, fun g hg => by simp [Value.ownBlock] at hg, Ext.refl w⟩⟩
  case round =>
    obtain ⟨k, u', va, vc, rfl, rfl, hk, HU', HM⟩ := hrel
    have hul := HU'.out.2
    by_cases hlt : k < least
    · obtain ⟨x, hx⟩ : ∃ x : UInt8, x = dgt u' := ⟨_, rfl⟩
      have hxe : 48 + (u' : Int) % 10 = (x.toNat : Int) := by rw [hx, dgt_nat]; omega
      have hxl : x.toNat ≤ 57 := by rw [hx, dgt_nat]; omega
      have hxw : IntKind.u8.wrap (x.toNat : Int) = (x.toNat : Int) := by rw [IntKind.wrap_u8]; omega
      have HN : Hid (u8s (lows k u) ++ u8s [x] = u8s (lows (k + 1) u) ∧ u' / 10 = u / 10 ^ (k + 1)) := Lib.hid ⟨by rw [lows_succ, u8s_append, hx, HU'.out.1], by rw [HU'.out.1, Nat.div_div_eq_div_mul, Nat.pow_succ]⟩
      have hx0 : u' = 0 → x = 48 := fun e => by rw [hx, e]; rfl
      clear hx
      rcases Nat.eq_zero_or_pos u' with h0 | h0
      case' inl =>
        obtain rfl := hx0 h0
        clear hxe hxl hxw hx0
        subst h0
        go_wp2_with (at_builtin; go_must (refine wpList_append_start byt_elem rfl _ _ rfl rfl rfl (Start.row (HM.out.row.ext ((Ext.refl _).alloc _)) HM.out.own) (HM.out.ext.trans ((Ext.refl _).alloc _)) (byt_src (x := 48) (heap_alloc_new _ _)) (by omega) (by unfold maxLen; omega) (by omega) ?_; intro v' w4 hmade); rw [HN.out.1] at hmade; have HM4 := Lib.hid hmade; obtain ⟨va', vc', rfl⟩ := hmade.row.shape; clear hmade)
      case' inr =>
        have hz : (0 : Int) < (u' : Int) := by omega
        clear h0
        go_wp2_with (at_builtin; go_must (refine wpList_append_start byt_elem rfl _ _ rfl rfl rfl (Start.row (HM.out.row.ext ((Ext.refl _).alloc _)) HM.out.own) (HM.out.ext.trans ((Ext.refl _).alloc _)) (byt_src (x := x) (heap_alloc_new _ _)) (by omega) (by unfold maxLen; omega) (by omega) ?_; intro v' w4 hmade); rw [HN.out.1] at hmade; have HM4 := Lib.hid hmade; obtain ⟨va', vc', rfl⟩ := hmade.row.shape; clear hmade)
      all_goals
        go_roundw
        case rel => exact ⟨k + 1, _, va', vc', by first | rfl | go_num, rfl, by omega, Lib.hid ⟨HN.out.2, by omega⟩, HM4⟩
        case measure => simp; omega
    · obtain rfl : k = least := by omega
      have hz0 : u' = 0 := by rw [HU'.out.1]; exact Nat.div_eq_of_lt HU.out
      have hz : ¬ (0 : Int) < (u' : Int) := by omega
      go_wp2_with fail
      go_loopw [6, 7] (fun si sj wq => ∃ (i : Nat) (j : Int) (M : List UInt8), si = .int .i64 (i : Int) ∧ sj = .int .i64 j ∧ (i : Int) + j + 1 = k ∧ (i : Int) ≤ j + 2 ∧ Hid (RevL (lows k u) i M ∧ MadeTo w 5 1 (.slice va k vc) k (u8s M) wq)) (fun si _ _ => 20 - (RowKit.intOf si).toNat)
      case atStart => exact ⟨0, (k : Int) - 1, _, rfl, rfl, by omega, by omega, Lib.hid ⟨RevL.start _, HM.out⟩⟩
      case round =>
        obtain ⟨i, j, M, rfl, rfl, hij, hij2, HR⟩ := hrel
        by_cases hlt2 : (i : Int) < j
        · obtain ⟨jn, rfl⟩ : ∃ jn : Nat, j = (jn : Int) := ⟨j.toNat, by omega⟩
          obtain ⟨g, rfl, hg, hcells, hfree⟩ := madeB_at HR.out.2 (by omega)
          have hML : M.length = k := by rw [HR.out.1.len, lows_len]
          obtain ⟨x, hx⟩ : ∃ x, M[i]? = some x := ⟨_, List.getElem?_eq_getElem (by omega)⟩
          obtain ⟨y, hy⟩ : ∃ y, M[jn]? = some y := ⟨_, List.getElem?_eq_getElem (by omega)⟩
          have ci := hcells i x hx
          have cj := hcells jn y hy
          have fi := hfree i
          have fj := hfree jn
          have HST := Lib.hid (HR.out.1.step (j := jn) (by rw [lows_len]; omega) (by omega) hx hy)
          clear hcells hfree hx hy hML
          go_wp2_with fail
          refine wp_region_split_lit [2, 3] [0, 1, 4, 5, 6, 7, 8, 9, 10, 11, 12] [13, 14, 15] (by kernel_rfl) (by kernel_rfl) (fun _ _ dd _ _ hh => by cases dd <;> exact hh) ?_
          simp only [pickOps, List.getElem?_cons_succ, List.getElem?_cons_zero]
          repeat (go_big_quiet_step (fail))
          refine wpQuiet_nil ?_
          repeat (go_big_quiet_step (fail))
          refine wpQuiet_nil ?_
          intro w4 hw'
          have HX4 : Hid (Ext wr w4) := Lib.hid (by obtain ⟨k, rfl⟩ := hw'; exact Ext.drewN _ _)
          have HM4 : Hid (MadeTo w 5 1 (.slice (some ⟨g, 0, none⟩) k vc) k (u8s M) w4) := Lib.hid ⟨HR.out.2.row.ext HX4.out, HR.out.2.own, HR.out.2.ext.trans HX4.out⟩
          clear hw'
          have di := (HX4.out.cell (World.block_lt_of_cell? wr _ ci)).trans ci
          have dj := (HX4.out.cell (World.block_lt_of_cell? wr _ cj)).trans cj
          clear ci cj fi fj
          have fi : w4.frozen? ⟨g, i, none⟩ = false := by obtain ⟨g', e, _, _, h⟩ := madeB_at HM4.out (by omega); cases e; exact h i
          have fj : (w4.setCell ⟨g, i, none⟩ (.int .u8 (y.toNat : Int))).frozen? ⟨g, jn, none⟩ = false := by obtain ⟨g', e, _, _, h⟩ := madeB_at (HM4.out.setB (k := i) y) (by omega); cases e; exact h jn
          have fk : w4.frozen? ⟨g, jn, none⟩ = false := by obtain ⟨g', e, _, _, h⟩ := madeB_at HM4.out (by omega); cases e; exact h jn
          go_wp2_with fail
          have HM5 := Lib.hid ((HM4.out.setB (k := i) y).setB (k := jn) x)
          exact ⟨⟨i + 1, (jn : Int) - 1, _, by go_num, rfl, by omega, by omega, Lib.hid ⟨HST.out, HM5.out⟩⟩, by simp [RowKit.intOf]; omega⟩
        · have HD := Lib.hid (HR.out.1.done (by rw [lows_len]; omega))
          have hcv := byt_conv (HR.out.2.row.src (u8s_one _))
          have HX := Lib.hid HR.out.2.ext
          rw [HD.out] at hcv
          go_wp2_with fail
          go_ret
          exact ⟨rfl, HX.out⟩
end Go.Proofs.YtipbniaehhoaaaaDoor
