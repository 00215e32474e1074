/- The document's limbs: Text. -/
import Derived.Test.YtipbniaehhoaaaaDoorR7m
import Derived.Test.YtipbniaehhoaaaaDoorDcm
namespace Go.Proofs.YtipbniaehhoaaaaDoor
open Go.RowKit Go.Lib Go.Sort

def rtK (u : Int) : Nat → Array Value
  | 0 => #[.int .i64 (u % 65536), .int .i64 (u / 65536 % 65536), .int .i64 (u / 4294967296 % 65536), .int .i64 (u / 281474976710656 % 65536), .int .i64 (u / 18446744073709551616 % 65536), .int .i64 (u / 1208925819614629174706176 % 65536), .int .i64 (u / 79228162514264337593543950336 % 65536), .int .i64 (u / 5192296858534827628530496329220096 % 65536)]
  | 1 => #[.int .i64 (u % 65536), .int .i64 (u / 65536 % 65536), .int .i64 (u / 4294967296 % 65536), .int .i64 (u / 281474976710656 % 65536), .int .i64 (u / 18446744073709551616 % 65536), .int .i64 (u / 1208925819614629174706176 % 65536), .int .i64 (u / 79228162514264337593543950336 % 65536), .int .i64 ((u / 10) / 5192296858534827628530496329220096 % 65536)]
  | 2 => #[.int .i64 (u % 65536), .int .i64 (u / 65536 % 65536), .int .i64 (u / 4294967296 % 65536), .int .i64 (u / 281474976710656 % 65536), .int .i64 (u / 18446744073709551616 % 65536), .int .i64 (u / 1208925819614629174706176 % 65536), .int .i64 ((u / 10) / 79228162514264337593543950336 % 65536), .int .i64 ((u / 10) / 5192296858534827628530496329220096 % 65536)]
  | 3 => #[.int .i64 (u % 65536), .int .i64 (u / 65536 % 65536), .int .i64 (u / 4294967296 % 65536), .int .i64 (u / 281474976710656 % 65536), .int .i64 (u / 18446744073709551616 % 65536), .int .i64 ((u / 10) / 1208925819614629174706176 % 65536), .int .i64 ((u / 10) / 79228162514264337593543950336 % 65536), .int .i64 ((u / 10) / 5192296858534827628530496329220096 % 65536)]
  | 4 => #[.int .i64 (u % 65536), .int .i64 (u / 65536 % 65536), .int .i64 (u / 4294967296 % 65536), .int .i64 (u / 281474976710656 % 65536), .int .i64 ((u / 10) / 18446744073709551616 % 65536), .int .i64 ((u / 10) / 1208925819614629174706176 % 65536), .int .i64 ((u / 10) / 79228162514264337593543950336 % 65536), .int .i64 ((u / 10) / 5192296858534827628530496329220096 % 65536)]
  | 5 => #[.int .i64 (u % 65536), .int .i64 (u / 65536 % 65536), .int .i64 (u / 4294967296 % 65536), .int .i64 ((u / 10) / 281474976710656 % 65536), .int .i64 ((u / 10) / 18446744073709551616 % 65536), .int .i64 ((u / 10) / 1208925819614629174706176 % 65536), .int .i64 ((u / 10) / 79228162514264337593543950336 % 65536), .int .i64 ((u / 10) / 5192296858534827628530496329220096 % 65536)]
  | 6 => #[.int .i64 (u % 65536), .int .i64 (u / 65536 % 65536), .int .i64 ((u / 10) / 4294967296 % 65536), .int .i64 ((u / 10) / 281474976710656 % 65536), .int .i64 ((u / 10) / 18446744073709551616 % 65536), .int .i64 ((u / 10) / 1208925819614629174706176 % 65536), .int .i64 ((u / 10) / 79228162514264337593543950336 % 65536), .int .i64 ((u / 10) / 5192296858534827628530496329220096 % 65536)]
  | 7 => #[.int .i64 (u % 65536), .int .i64 ((u / 10) / 65536 % 65536), .int .i64 ((u / 10) / 4294967296 % 65536), .int .i64 ((u / 10) / 281474976710656 % 65536), .int .i64 ((u / 10) / 18446744073709551616 % 65536), .int .i64 ((u / 10) / 1208925819614629174706176 % 65536), .int .i64 ((u / 10) / 79228162514264337593543950336 % 65536), .int .i64 ((u / 10) / 5192296858534827628530496329220096 % 65536)]
  | _ => #[.int .i64 ((u / 10) % 65536), .int .i64 ((u / 10) / 65536 % 65536), .int .i64 ((u / 10) / 4294967296 % 65536), .int .i64 ((u / 10) / 281474976710656 % 65536), .int .i64 ((u / 10) / 18446744073709551616 % 65536), .int .i64 ((u / 10) / 1208925819614629174706176 % 65536), .int .i64 ((u / 10) / 79228162514264337593543950336 % 65536), .int .i64 ((u / 10) / 5192296858534827628530496329220096 % 65536)]
def rtC (u : Int) : Nat → Int
  | 0 => u / 340282366920938463463374607431768211456 % 10
  | 1 => u / 5192296858534827628530496329220096 % 10
  | 2 => u / 79228162514264337593543950336 % 10
  | 3 => u / 1208925819614629174706176 % 10
  | 4 => u / 18446744073709551616 % 10
  | 5 => u / 281474976710656 % 10
  | 6 => u / 4294967296 % 10
  | 7 => u / 65536 % 10
  | _ => u % 10
theorem rtK_start (u : Int) : rtK u 0 = lmA u := rfl
theorem rtK_done (u : Int) : rtK u 8 = lmA (u / 10) := rfl
theorem lm_zero : lmA 0 = #[.int .i64 0, .int .i64 0, .int .i64 0, .int .i64 0, .int .i64 0, .int .i64 0, .int .i64 0, .int .i64 0] := by
  unfold lmA
  rfl
/-- Limbs of what is not nothing are not all nothing. -/
theorem lm_ne (u : Int) (h0 : -170141183460469231731687303715884105728 ≤ u) (h1 : u < 340282366920938463463374607431768211456) (hz : u ≠ 0) : ¬ (u % 65536 = 0 ∧ u / 65536 % 65536 = 0 ∧ u / 4294967296 % 65536 = 0 ∧ u / 281474976710656 % 65536 = 0 ∧ u / 18446744073709551616 % 65536 = 0 ∧ u / 1208925819614629174706176 % 65536 = 0 ∧ u / 79228162514264337593543950336 % 65536 = 0 ∧ u / 5192296858534827628530496329220096 % 65536 = 0) := by omega

theorem limb_step (v : Int) (h : 0 ≤ v) : (v / 65536 % 10 * 65536 + v % 65536) / 10 = v / 10 % 65536 ∧ (v / 65536 % 10 * 65536 + v % 65536) % 10 = v % 10 := by omega
theorem div_div' (u a b c : Int) (ha : 0 ≤ a) (h : c = a * b) : u / c = u / a / b := by rw [h, Int.ediv_ediv_of_nonneg ha]

theorem decDigits_len39 (a : Nat) (h : a < 340282366920938463463374607431768211456) : (decDigits a).length ≤ 39 := by
  by_cases ha : a = 0
  · subst ha
    rw [decDigits, dif_pos (by decide)]
    simp
  · have e := three_trim a h
    rw [if_neg ha] at e
    rw [← e]
    have h1 : (trimLeftB (dec 39 a) 48).length ≤ (dec 39 a).length := (List.dropWhile_sublist _).length_le
    rw [dec_len] at h1
    exact h1

/-- What has been told of a number, the last digits first. -/
structure TlR (w : World) (ab a u : Nat) (t : ByteArray) (wr : World) : Prop where
  blk : wr.heap[ab]? = some (.cells (lmA (u : Int)) 28 (0, 0))
  ext : Ext w wr
  eq : decDigits a = (if u = 0 then [] else decDigits u) ++ t.data.toList
theorem TlR.size {w wr : World} {ab a u : Nat} {t : ByteArray} (h : TlR w ab a u t wr) (ha : a < 340282366920938463463374607431768211456) : t.size ≤ 39 := by
  have h1 := congrArg List.length h.eq
  have h2 := decDigits_len39 a ha
  rw [List.length_append] at h1
  have h3 : t.size = t.data.toList.length := rfl
  omega
theorem digits_step (u : Nat) (hu : u ≠ 0) : decDigits u = (if u / 10 = 0 then [] else decDigits (u / 10)) ++ [dgt u] := by
  by_cases h : u < 10
  · rw [if_pos (by omega), decDigits, dif_pos h]
    unfold dgt
    rw [Nat.mod_eq_of_lt h]
    rfl
  · rw [if_neg (by omega)]
    conv => lhs; rw [decDigits, dif_neg h]
    rfl

set_option maxHeartbeats 4000000 in
set_option maxRecDepth 100000 in
theorem rtext_any (s : Int) (w : World) (h1 : -170141183460469231731687303715884105728 ≤ s) (h2 : s < 170141183460469231731687303715884105728) :
    Calls Tryd.prog 4 #[.agg (lmA s)] w fun e w' => e = .returned (.string ⟨(itoa s).toArray⟩) ∧ Ext w w' := by
  by_cases hz : s = 0
  · subst hz
    rw [lm_zero]
    have heq : ∀ W, (Op.equalIn 10000 28 (.agg #[.int .i64 0, .int .i64 0, .int .i64 0, .int .i64 0, .int .i64 0, .int .i64 0, .int .i64 0, .int .i64 0]) (.agg #[.int .i64 0, .int .i64 0, .int .i64 0, .int .i64 0, .int .i64 0, .int .i64 0, .int .i64 0, .int .i64 0])).run Tryd.prog W = .ok true W := fun W => run_eq8z 9998 W
    have hs0 : itoa 0 = [48] := by
      unfold itoa
      rw [if_neg (by decide)]
      show decDigits 0 = [48]
      rw [decDigits, dif_pos (by decide)]
      rfl
    rw [hs0]
    clear hs0
    go_enter Tryd.func4, Tryd.ntmps4
    go_wp2_with fail
    go_ret
    exact ⟨rfl, (Ext.refl w).alloc _⟩
  · obtain ⟨a, ha⟩ : ∃ a : Nat, a = s.natAbs := ⟨_, rfl⟩
    have HS := Lib.hid ha
    have HAL : Hid (a < 340282366920938463463374607431768211456 ∧ a ≠ 0) := Lib.hid (by omega)
    obtain ⟨A, hA⟩ : ∃ A, A = lmA s := ⟨_, rfl⟩
    have HA := Lib.hid hA
    have HEQ : Hid (∀ (u : Int), -170141183460469231731687303715884105728 ≤ u → u < 340282366920938463463374607431768211456 → u ≠ 0 → ∀ W, (Op.equalIn 10000 28 (.agg (lmA u)) (.agg #[.int .i64 0, .int .i64 0, .int .i64 0, .int .i64 0, .int .i64 0, .int .i64 0, .int .i64 0, .int .i64 0])).run Tryd.prog W = .ok false W) := Lib.hid (fun u q1 q2 q3 W => run_eq8 9998 _ _ _ _ _ _ _ _ W (lm_ne u q1 q2 q3))
    have heq := HEQ.out s h1 (by omega) hz
    have HN := Lib.hid (fun W => negative_any s W h1 h2)
    have HM := Lib.hid (fun W => rminus_any s W)
    rw [← hA] at heq HN HM ⊢
    clear hA ha h1 h2 hz
    go_enter Tryd.func4, Tryd.ntmps4
    obtain ⟨ab, hab⟩ : ∃ ab, ab = w.heap.size := ⟨_, rfl⟩
    have HAB : Hid (w.heap.size ≤ ab) := Lib.hid (by omega)
    have HB0 : Hid ((w.alloc (.cells A 28 (0, 0))).heap[w.heap.size]? = some (.cells A 28 (0, 0))) := Lib.hid (heap_alloc_new w _)
    have hai : (Tryd.prog.info? 28).map (·.size) = some A.size := by rw [HA.out]; exact lm_info
    go_upto_if 12 with (first | (refine wpList_load_box rfl _ _ rfl _ _ _ _ _ rfl HB0.out Tryd.underlying28 rfl hai ?_) | (go_at_call 7; refine (HN.out _).mono ?_; rintro e w1 ⟨rfl, hx1⟩; have HX1 := Lib.hid hx1; clear hx1))
    rw [← hab] at HB0 ⊢
    clear hab
    have HXW : Hid (Ext w w1) := Lib.hid (((Ext.refl w).alloc _).trans HX1.out)
    have HB1 := Lib.hid ((HX1.out.block (block_lt HB0.out)).trans HB0.out)
    clear HX1 HB0
    go_cut [3] (fun s3 wx => s3 = .bool (decide (s < 0)) ∧ Hid (wx.heap[ab]? = some (.cells (lmA (a : Int)) 28 (0, 0)) ∧ Ext w wx))
    case first =>
      by_cases hs : s < 0
      · have hd : decide (s < 0) = true := decide_eq_true hs
        have HB : Hid (lmA (-s) = lmA (a : Int)) := Lib.hid (by rw [show -s = (a : Int) by have := HS.out; omega])
        rw [hd]
        rw [HB.out] at HM
        obtain ⟨B, hB⟩ : ∃ B, B = lmA (a : Int) := ⟨_, rfl⟩
        have HBB := Lib.hid hB
        rw [← hB] at HM
        clear hB hs
        go_wp2_with (first | (refine wpList_load_box rfl _ _ rfl _ _ _ _ _ rfl HB1.out Tryd.underlying28 rfl hai ?_) | (go_at_call 8; refine (HM.out _).mono ?_; rintro e w2 ⟨rfl, hx2⟩; have HX2 := Lib.hid hx2; have HB2 := Lib.hid ((hx2.block (block_lt HB1.out)).trans HB1.out); clear hx2) | (refine wpList_store_box rfl _ _ _ rfl _ _ _ _ rfl rfl HB2.out (by rw [HA.out, HBB.out]; rfl) (by rw [HBB.out]; exact lm_info) (by rw [HBB.out]; simp [lmA, Value.oneCell']) ?_; rintro w5 hb5 hc5; have HB5 := Lib.hid hb5; have HC5 := Lib.hid hc5; clear hb5 hc5))
        go_meet
        exact ⟨by rw [hd], Lib.hid ⟨by rw [← HBB.out]; exact HB5.out, ((Chg.of_ext (S := fun _ => False) (HXW.out.trans HX2.out)).trans HC5.out (fun i hi e => by have := HAB.out; omega)).ext (fun _ _ e => e)⟩⟩
      · have hd : decide (s < 0) = false := decide_eq_false hs
        have HB : Hid (A = lmA (a : Int)) := Lib.hid (by rw [HA.out, show s = (a : Int) by have := HS.out; omega])
        rw [hd]
        clear hs
        go_wp2_with fail
        go_meet
        exact ⟨by rw [hd], Lib.hid ⟨by rw [← HB.out]; exact HB1.out, HXW.out⟩⟩
    case rest =>
      obtain ⟨rfl, HI0⟩ := hcut
      clear heq hai HM HN HB1 HXW
      go_wp2_with fail
      go_loopw [4, 5, 6] (fun s4 s5 s6 wr => ∃ (u : Nat) (t : ByteArray), s4 = .string t ∧ t.size ≤ 39 ∧ u < 340282366920938463463374607431768211456 ∧ Hid (TlR w ab a u t wr)) (fun s4 _ _ _ => match s4 with | .string t => 40 - t.size | _ => 0)
      case atStart => exact ⟨a, ⟨#[]⟩, rfl, by decide, HAL.out.1, Lib.hid ⟨HI0.out.1, HI0.out.2, by rw [if_neg HAL.out.2]; simp⟩⟩
      case round =>
        obtain ⟨u, t, rfl, ht, hu, HI⟩ := hrel
        by_cases hz : u = 0
        · subst hz
          have heq : ∀ W, (Op.equalIn 10000 28 (.agg #[.int .i64 0, .int .i64 0, .int .i64 0, .int .i64 0, .int .i64 0, .int .i64 0, .int .i64 0, .int .i64 0]) (.agg #[.int .i64 0, .int .i64 0, .int .i64 0, .int .i64 0, .int .i64 0, .int .i64 0, .int .i64 0, .int .i64 0])).run Tryd.prog W = .ok true W := fun W => run_eq8z 9998 W
          have HB : Hid (wr.heap[ab]? = some (.cells #[.int .i64 0, .int .i64 0, .int .i64 0, .int .i64 0, .int .i64 0, .int .i64 0, .int .i64 0, .int .i64 0] 28 (0, 0))) := Lib.hid (by rw [HI.out.blk]; exact congrArg (fun z => some (Obj.cells z _ _)) lm_zero)
          have HT : Hid (decDigits a = t.data.toList) := Lib.hid (by have := HI.out.eq; simpa using this)
          by_cases hs : s < 0
          · have hd : decide (s < 0) = true := decide_eq_true hs
            have HS0 : Hid (itoa s = 45 :: decDigits a) := Lib.hid (by unfold itoa; rw [if_pos hs, HS.out])
            clear hs
            go_wp2_with (first | (refine wpList_load_box rfl _ _ rfl _ _ _ _ _ rfl HB.out Tryd.underlying28 rfl (by kernel_rfl) ?_))
            go_ret
            exact ⟨by rw [HS0.out, HT.out]; rfl, HI.out.ext⟩
          · have hd : decide (s < 0) = false := decide_eq_false hs
            have HS0 : Hid (itoa s = decDigits a) := Lib.hid (by unfold itoa; rw [if_neg hs]; congr 1; have := HS.out; omega)
            clear hs
            go_wp2_with (first | (refine wpList_load_box rfl _ _ rfl _ _ _ _ _ rfl HB.out Tryd.underlying28 rfl (by kernel_rfl) ?_))
            go_ret
            exact ⟨by rw [HS0.out, HT.out]; rfl, HI.out.ext⟩
        · have heq := HEQ.out (u : Int) (by omega) (by omega) (by omega)
          obtain ⟨U, hU⟩ : ∃ U, U = lmA (u : Int) := ⟨_, rfl⟩
          have HU := Lib.hid hU
          rw [← hU] at heq
          have HB : Hid (wr.heap[ab]? = some (.cells U 28 (0, 0))) := Lib.hid (by rw [hU]; exact HI.out.blk)
          clear hU
          go_wp2_with (first | (refine wpList_load_box rfl _ _ rfl _ _ _ _ _ rfl HB.out Tryd.underlying28 rfl (by rw [HU.out]; exact lm_info) ?_))
          go_loopw [5, 6] (fun s5 s6 wq => ∃ k : Nat, k ≤ 8 ∧ s6 = .int .i64 (7 - (k : Int)) ∧ s5 = .int .i64 (rtC u k) ∧ Hid (LmR wr ab (rtK u k) wq)) (fun _ s6 _ => (RowKit.intOf s6 + 1).toNat)
          case atStart => exact ⟨0, by omega, rfl, by show Value.int .i64 0 = .int .i64 ((u : Int) / 340282366920938463463374607431768211456 % 10); rw [show (u : Int) / 340282366920938463463374607431768211456 % 10 = 0 by omega], Lib.hid ⟨by rw [HB.out, HU.out]; rfl, Chg.refl _ _⟩⟩
          case round =>
            obtain ⟨k, hk, rfl, rfl, HR⟩ := hrel
            have z0 := free_of_block HR.out.blk
            have hk9 : k = 0 ∨ k = 1 ∨ k = 2 ∨ k = 3 ∨ k = 4 ∨ k = 5 ∨ k = 6 ∨ k = 7 ∨ k = 8 := by omega
            clear heq
            rcases hk9 with rfl | rfl | rfl | rfl | rfl | rfl | rfl | rfl | rfl
            · obtain ⟨x, hx⟩ : ∃ x : Int, x = (u : Int) / 5192296858534827628530496329220096 % 65536 := ⟨_, rfl⟩
              obtain ⟨c, hc⟩ : ∃ c : Int, c = (u : Int) / 340282366920938463463374607431768211456 % 10 := ⟨_, rfl⟩
              have hcc : rtC u 0 = c := hc.symm
              have c0 : wr.cell? ⟨ab, 7, none⟩ = some (.int .i64 x) := by have := cell_of_block HR.out.blk 7; rw [hx]; simpa [rtK] using this
              have f0 := z0 7
              have x0 : 0 ≤ x := by omega
              have x1 : x < 65536 := by omega
              have c1 : 0 ≤ c := by omega
              have c2 : c < 10 := by omega
              obtain ⟨v, hv⟩ : ∃ v : Int, v = (u : Int) / 5192296858534827628530496329220096 := ⟨_, rfl⟩
              have e1 : (u : Int) / 340282366920938463463374607431768211456 = v / 65536 := by rw [hv]; exact div_div' _ 5192296858534827628530496329220096 65536 _ (by decide) (by decide)
              have e2 : (u : Int) / 10 / 5192296858534827628530496329220096 = v / 10 := by rw [hv]; rw [← div_div' _ 10 5192296858534827628530496329220096 51922968585348276285304963292200960 (by decide) (by decide), ← div_div' _ 5192296858534827628530496329220096 10 51922968585348276285304963292200960 (by decide) (by decide)]
              have HE : Hid ((c * 65536 + x) / 10 = ((u : Int) / 10) / 5192296858534827628530496329220096 % 65536 ∧ (c * 65536 + x) % 10 = (u : Int) / 5192296858534827628530496329220096 % 10) := Lib.hid (by
                have h := limb_step v (by rw [hv]; omega)
                rw [hc, hx, e1, e2, ← hv]
                exact h)
              clear e1 e2 hv
              rw [hcc]
              clear z0 hx hc hcc
              go_wp2_with fail
              have h1 := HR.out.set 7 (.int .i64 ((c * 65536 + x) / 10))
              refine ⟨⟨1, by omega, rfl, by rw [HE.out.2]; rfl, Lib.hid (by rw [HE.out.1] at h1 ⊢; simpa [rtK] using h1)⟩, by simp [RowKit.intOf]⟩
            · obtain ⟨x, hx⟩ : ∃ x : Int, x = (u : Int) / 79228162514264337593543950336 % 65536 := ⟨_, rfl⟩
              obtain ⟨c, hc⟩ : ∃ c : Int, c = (u : Int) / 5192296858534827628530496329220096 % 10 := ⟨_, rfl⟩
              have hcc : rtC u 1 = c := hc.symm
              have c0 : wr.cell? ⟨ab, 6, none⟩ = some (.int .i64 x) := by have := cell_of_block HR.out.blk 6; rw [hx]; simpa [rtK] using this
              have f0 := z0 6
              have x0 : 0 ≤ x := by omega
              have x1 : x < 65536 := by omega
              have c1 : 0 ≤ c := by omega
              have c2 : c < 10 := by omega
              obtain ⟨v, hv⟩ : ∃ v : Int, v = (u : Int) / 79228162514264337593543950336 := ⟨_, rfl⟩
              have e1 : (u : Int) / 5192296858534827628530496329220096 = v / 65536 := by rw [hv]; exact div_div' _ 79228162514264337593543950336 65536 _ (by decide) (by decide)
              have e2 : (u : Int) / 10 / 79228162514264337593543950336 = v / 10 := by rw [hv]; rw [← div_div' _ 10 79228162514264337593543950336 792281625142643375935439503360 (by decide) (by decide), ← div_div' _ 79228162514264337593543950336 10 792281625142643375935439503360 (by decide) (by decide)]
              have HE : Hid ((c * 65536 + x) / 10 = ((u : Int) / 10) / 79228162514264337593543950336 % 65536 ∧ (c * 65536 + x) % 10 = (u : Int) / 79228162514264337593543950336 % 10) := Lib.hid (by
                have h := limb_step v (by rw [hv]; omega)
                rw [hc, hx, e1, e2, ← hv]
                exact h)
              clear e1 e2 hv
              rw [hcc]
              clear z0 hx hc hcc
              go_wp2_with fail
              have h1 := HR.out.set 6 (.int .i64 ((c * 65536 + x) / 10))
              refine ⟨⟨2, by omega, rfl, by rw [HE.out.2]; rfl, Lib.hid (by rw [HE.out.1] at h1 ⊢; simpa [rtK] using h1)⟩, by simp [RowKit.intOf]⟩
            · obtain ⟨x, hx⟩ : ∃ x : Int, x = (u : Int) / 1208925819614629174706176 % 65536 := ⟨_, rfl⟩
              obtain ⟨c, hc⟩ : ∃ c : Int, c = (u : Int) / 79228162514264337593543950336 % 10 := ⟨_, rfl⟩
              have hcc : rtC u 2 = c := hc.symm
              have c0 : wr.cell? ⟨ab, 5, none⟩ = some (.int .i64 x) := by have := cell_of_block HR.out.blk 5; rw [hx]; simpa [rtK] using this
              have f0 := z0 5
              have x0 : 0 ≤ x := by omega
              have x1 : x < 65536 := by omega
              have c1 : 0 ≤ c := by omega
              have c2 : c < 10 := by omega
              obtain ⟨v, hv⟩ : ∃ v : Int, v = (u : Int) / 1208925819614629174706176 := ⟨_, rfl⟩
              have e1 : (u : Int) / 79228162514264337593543950336 = v / 65536 := by rw [hv]; exact div_div' _ 1208925819614629174706176 65536 _ (by decide) (by decide)
              have e2 : (u : Int) / 10 / 1208925819614629174706176 = v / 10 := by rw [hv]; rw [← div_div' _ 10 1208925819614629174706176 12089258196146291747061760 (by decide) (by decide), ← div_div' _ 1208925819614629174706176 10 12089258196146291747061760 (by decide) (by decide)]
              have HE : Hid ((c * 65536 + x) / 10 = ((u : Int) / 10) / 1208925819614629174706176 % 65536 ∧ (c * 65536 + x) % 10 = (u : Int) / 1208925819614629174706176 % 10) := Lib.hid (by
                have h := limb_step v (by rw [hv]; omega)
                rw [hc, hx, e1, e2, ← hv]
                exact h)
              clear e1 e2 hv
              rw [hcc]
              clear z0 hx hc hcc
              go_wp2_with fail
              have h1 := HR.out.set 5 (.int .i64 ((c * 65536 + x) / 10))
              refine ⟨⟨3, by omega, rfl, by rw [HE.out.2]; rfl, Lib.hid (by rw [HE.out.1] at h1 ⊢; simpa [rtK] using h1)⟩, by simp [RowKit.intOf]⟩
            · obtain ⟨x, hx⟩ : ∃ x : Int, x = (u : Int) / 18446744073709551616 % 65536 := ⟨_, rfl⟩
              obtain ⟨c, hc⟩ : ∃ c : Int, c = (u : Int) / 1208925819614629174706176 % 10 := ⟨_, rfl⟩
              have hcc : rtC u 3 = c := hc.symm
              have c0 : wr.cell? ⟨ab, 4, none⟩ = some (.int .i64 x) := by have := cell_of_block HR.out.blk 4; rw [hx]; simpa [rtK] using this
              have f0 := z0 4
              have x0 : 0 ≤ x := by omega
              have x1 : x < 65536 := by omega
              have c1 : 0 ≤ c := by omega
              have c2 : c < 10 := by omega
              obtain ⟨v, hv⟩ : ∃ v : Int, v = (u : Int) / 18446744073709551616 := ⟨_, rfl⟩
              have e1 : (u : Int) / 1208925819614629174706176 = v / 65536 := by rw [hv]; exact div_div' _ 18446744073709551616 65536 _ (by decide) (by decide)
              have e2 : (u : Int) / 10 / 18446744073709551616 = v / 10 := by rw [hv]; rw [← div_div' _ 10 18446744073709551616 184467440737095516160 (by decide) (by decide), ← div_div' _ 18446744073709551616 10 184467440737095516160 (by decide) (by decide)]
              have HE : Hid ((c * 65536 + x) / 10 = ((u : Int) / 10) / 18446744073709551616 % 65536 ∧ (c * 65536 + x) % 10 = (u : Int) / 18446744073709551616 % 10) := Lib.hid (by
                have h := limb_step v (by rw [hv]; omega)
                rw [hc, hx, e1, e2, ← hv]
                exact h)
              clear e1 e2 hv
              rw [hcc]
              clear z0 hx hc hcc
              go_wp2_with fail
              have h1 := HR.out.set 4 (.int .i64 ((c * 65536 + x) / 10))
              refine ⟨⟨4, by omega, rfl, by rw [HE.out.2]; rfl, Lib.hid (by rw [HE.out.1] at h1 ⊢; simpa [rtK] using h1)⟩, by simp [RowKit.intOf]⟩
            · obtain ⟨x, hx⟩ : ∃ x : Int, x = (u : Int) / 281474976710656 % 65536 := ⟨_, rfl⟩
              obtain ⟨c, hc⟩ : ∃ c : Int, c = (u : Int) / 18446744073709551616 % 10 := ⟨_, rfl⟩
              have hcc : rtC u 4 = c := hc.symm
              have c0 : wr.cell? ⟨ab, 3, none⟩ = some (.int .i64 x) := by have := cell_of_block HR.out.blk 3; rw [hx]; simpa [rtK] using this
              have f0 := z0 3
              have x0 : 0 ≤ x := by omega
              have x1 : x < 65536 := by omega
              have c1 : 0 ≤ c := by omega
              have c2 : c < 10 := by omega
              obtain ⟨v, hv⟩ : ∃ v : Int, v = (u : Int) / 281474976710656 := ⟨_, rfl⟩
              have e1 : (u : Int) / 18446744073709551616 = v / 65536 := by rw [hv]; exact div_div' _ 281474976710656 65536 _ (by decide) (by decide)
              have e2 : (u : Int) / 10 / 281474976710656 = v / 10 := by rw [hv]; rw [← div_div' _ 10 281474976710656 2814749767106560 (by decide) (by decide), ← div_div' _ 281474976710656 10 2814749767106560 (by decide) (by decide)]
              have HE : Hid ((c * 65536 + x) / 10 = ((u : Int) / 10) / 281474976710656 % 65536 ∧ (c * 65536 + x) % 10 = (u : Int) / 281474976710656 % 10) := Lib.hid (by
                have h := limb_step v (by rw [hv]; omega)
                rw [hc, hx, e1, e2, ← hv]
                exact h)
              clear e1 e2 hv
              rw [hcc]
              clear z0 hx hc hcc
              go_wp2_with fail
              have h1 := HR.out.set 3 (.int .i64 ((c * 65536 + x) / 10))
              refine ⟨⟨5, by omega, rfl, by rw [HE.out.2]; rfl, Lib.hid (by rw [HE.out.1] at h1 ⊢; simpa [rtK] using h1)⟩, by simp [RowKit.intOf]⟩
            · obtain ⟨x, hx⟩ : ∃ x : Int, x = (u : Int) / 4294967296 % 65536 := ⟨_, rfl⟩
              obtain ⟨c, hc⟩ : ∃ c : Int, c = (u : Int) / 281474976710656 % 10 := ⟨_, rfl⟩
              have hcc : rtC u 5 = c := hc.symm
              have c0 : wr.cell? ⟨ab, 2, none⟩ = some (.int .i64 x) := by have := cell_of_block HR.out.blk 2; rw [hx]; simpa [rtK] using this
              have f0 := z0 2
              have x0 : 0 ≤ x := by omega
              have x1 : x < 65536 := by omega
              have c1 : 0 ≤ c := by omega
              have c2 : c < 10 := by omega
              obtain ⟨v, hv⟩ : ∃ v : Int, v = (u : Int) / 4294967296 := ⟨_, rfl⟩
              have e1 : (u : Int) / 281474976710656 = v / 65536 := by rw [hv]; exact div_div' _ 4294967296 65536 _ (by decide) (by decide)
              have e2 : (u : Int) / 10 / 4294967296 = v / 10 := by rw [hv]; rw [← div_div' _ 10 4294967296 42949672960 (by decide) (by decide), ← div_div' _ 4294967296 10 42949672960 (by decide) (by decide)]
              have HE : Hid ((c * 65536 + x) / 10 = ((u : Int) / 10) / 4294967296 % 65536 ∧ (c * 65536 + x) % 10 = (u : Int) / 4294967296 % 10) := Lib.hid (by
                have h := limb_step v (by rw [hv]; omega)
                rw [hc, hx, e1, e2, ← hv]
                exact h)
              clear e1 e2 hv
              rw [hcc]
              clear z0 hx hc hcc
              go_wp2_with fail
              have h1 := HR.out.set 2 (.int .i64 ((c * 65536 + x) / 10))
              refine ⟨⟨6, by omega, rfl, by rw [HE.out.2]; rfl, Lib.hid (by rw [HE.out.1] at h1 ⊢; simpa [rtK] using h1)⟩, by simp [RowKit.intOf]⟩
            · obtain ⟨x, hx⟩ : ∃ x : Int, x = (u : Int) / 65536 % 65536 := ⟨_, rfl⟩
              obtain ⟨c, hc⟩ : ∃ c : Int, c = (u : Int) / 4294967296 % 10 := ⟨_, rfl⟩
              have hcc : rtC u 6 = c := hc.symm
              have c0 : wr.cell? ⟨ab, 1, none⟩ = some (.int .i64 x) := by have := cell_of_block HR.out.blk 1; rw [hx]; simpa [rtK] using this
              have f0 := z0 1
              have x0 : 0 ≤ x := by omega
              have x1 : x < 65536 := by omega
              have c1 : 0 ≤ c := by omega
              have c2 : c < 10 := by omega
              obtain ⟨v, hv⟩ : ∃ v : Int, v = (u : Int) / 65536 := ⟨_, rfl⟩
              have e1 : (u : Int) / 4294967296 = v / 65536 := by rw [hv]; exact div_div' _ 65536 65536 _ (by decide) (by decide)
              have e2 : (u : Int) / 10 / 65536 = v / 10 := by rw [hv]; rw [← div_div' _ 10 65536 655360 (by decide) (by decide), ← div_div' _ 65536 10 655360 (by decide) (by decide)]
              have HE : Hid ((c * 65536 + x) / 10 = ((u : Int) / 10) / 65536 % 65536 ∧ (c * 65536 + x) % 10 = (u : Int) / 65536 % 10) := Lib.hid (by
                have h := limb_step v (by rw [hv]; omega)
                rw [hc, hx, e1, e2, ← hv]
                exact h)
              clear e1 e2 hv
              rw [hcc]
              clear z0 hx hc hcc
              go_wp2_with fail
              have h1 := HR.out.set 1 (.int .i64 ((c * 65536 + x) / 10))
              refine ⟨⟨7, by omega, rfl, by rw [HE.out.2]; rfl, Lib.hid (by rw [HE.out.1] at h1 ⊢; simpa [rtK] using h1)⟩, by simp [RowKit.intOf]⟩
            · obtain ⟨x, hx⟩ : ∃ x : Int, x = (u : Int) % 65536 := ⟨_, rfl⟩
              obtain ⟨c, hc⟩ : ∃ c : Int, c = (u : Int) / 65536 % 10 := ⟨_, rfl⟩
              have hcc : rtC u 7 = c := hc.symm
              have c0 : wr.cell? ⟨ab, 0, none⟩ = some (.int .i64 x) := by have := cell_of_block HR.out.blk 0; rw [hx]; simpa [rtK] using this
              have f0 := z0 0
              have x0 : 0 ≤ x := by omega
              have x1 : x < 65536 := by omega
              have c1 : 0 ≤ c := by omega
              have c2 : c < 10 := by omega
              obtain ⟨v, hv⟩ : ∃ v : Int, v = (u : Int) := ⟨_, rfl⟩
              have e1 : (u : Int) / 65536 = v / 65536 := by rw [hv]
              have e2 : (u : Int) / 10 = v / 10 := by rw [hv]
              have HE : Hid ((c * 65536 + x) / 10 = ((u : Int) / 10) % 65536 ∧ (c * 65536 + x) % 10 = (u : Int) % 10) := Lib.hid (by
                have h := limb_step v (by rw [hv]; omega)
                rw [hc, hx, e1, e2, ← hv]
                exact h)
              clear e1 e2 hv
              rw [hcc]
              clear z0 hx hc hcc
              go_wp2_with fail
              have h1 := HR.out.set 0 (.int .i64 ((c * 65536 + x) / 10))
              refine ⟨⟨8, by omega, rfl, by rw [HE.out.2]; rfl, Lib.hid (by rw [HE.out.1] at h1 ⊢; simpa [rtK] using h1)⟩, by simp [RowKit.intOf]⟩
            · obtain ⟨d, hd⟩ : ∃ d : Nat, d = u % 10 := ⟨_, rfl⟩
              have hcc : rtC u 8 = (d : Int) := by rw [hd]; rfl
              have HD := Lib.hid hd
              rw [hcc]
              have HST : Hid (decDigits u = (if u / 10 = 0 then [] else decDigits (u / 10)) ++ [dgt u]) := Lib.hid (digits_step u hz)
              have HN : Hid (∀ (t2 : ByteArray), t2.data.toList = dgt u :: t.data.toList → TlR w ab a (u / 10) t2 wr ) := Lib.hid (fun t2 h2 => ⟨by have e := HR.out.blk; rw [rtK_done] at e; rw [e]; rfl, ((Chg.of_ext (S := fun _ => False) HI.out.ext).trans HR.out.chg (fun i hi e => by have := HAB.out; omega)).ext (fun _ _ e => e), by
                have e := HI.out.eq
                rw [if_neg hz, HST.out] at e
                rw [h2, e]
                simp⟩)
              have hd10 : d = 0 ∨ d = 1 ∨ d = 2 ∨ d = 3 ∨ d = 4 ∨ d = 5 ∨ d = 6 ∨ d = 7 ∨ d = 8 ∨ d = 9 := by omega
              have HN2 : Hid (∀ x : UInt8, dgt u = x → TlR w ab a (u / 10) (⟨#[x]⟩ ++ t) wr ∧ (⟨#[x]⟩ ++ t : ByteArray).size ≤ 39 ∧ (⟨#[x]⟩ ++ t : ByteArray).size = t.size + 1) := Lib.hid (fun x hx => by
                have h1 := HN.out (⟨#[x]⟩ ++ t) (by rw [hx]; simp)
                refine ⟨h1, h1.size HAL.out.1, ?_⟩
                rw [ByteArray.size_append]
                show 1 + t.size = t.size + 1
                omega)
              clear hcc hd z0
              rcases hd10 with rfl | rfl | rfl | rfl | rfl | rfl | rfl | rfl | rfl | rfl
              all_goals
                go_wp2_with fail
                have hq : dgt u = UInt8.ofNat (48 + u % 10) := rfl
                rw [← HD.out] at hq
                have hx := HN2.out _ hq
                refine ⟨⟨u / 10, _, ?_, hx.2.1, by omega, Lib.hid hx.1⟩, ?_⟩
                · rfl
                · exact Nat.lt_of_le_of_lt (Nat.le_of_eq (congrArg (40 - ·) hx.2.2)) (by have := hx.2.1; have := hx.2.2; show 40 - (t.size + 1) < 40 - t.size; omega)
end Go.Proofs.YtipbniaehhoaaaaDoor
