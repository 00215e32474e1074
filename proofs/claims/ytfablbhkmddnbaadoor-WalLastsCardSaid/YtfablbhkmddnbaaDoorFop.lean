/- Frames: Seal (frame's and the document's). -/
import Derived.Test.YtfablbhkmddnbaaDoorFrl
import Derived.Test.YtfablbhkmddnbaaDoorBls
import Derived.Deep.DeepCutAuto
import Derived.Test.YtfablbhkmddnbaaDoorPlan
import Derived.Test.YtfablbhkmddnbaaDoorZin
namespace Go.Proofs.YtfablbhkmddnbaaDoor
open Go.RowKit Go.Sort Go.Lib

/-- A frame without its sum, and with it. -/
def headL (k : UInt8) (l : List UInt8) : List UInt8 := k :: (le4 l.length ++ l)
def sealL (k : UInt8) (l : List UInt8) : List UInt8 := headL k l ++ le4 (csum (headL k l))
theorem le4_len (u : Nat) : (le4 u).length = 4 := rfl
theorem headL_len (k : UInt8) (l : List UInt8) : (headL k l).length = l.length + 5 := by simp [headL, le4_len]; omega
theorem sealL_len (k : UInt8) (l : List UInt8) : (sealL k l).length = l.length + 9 := by simp [sealL, headL_len, le4_len]
theorem src_four {W : World} {b u : Nat} {t : TypeId} (h : W.heap[b]? = some (.cells (four4 u) t (0, 0))) : Src W 1 (.slice (some ⟨b, 0, none⟩) 4 4) 4 (u8s (le4 u)) := by
  refine .inr ⟨_, _, rfl, rfl, fun j u hj => ?_, u8s_one _⟩
  rw [Go.WideShapes.add_plain, Nat.zero_add, cell_of_block h]
  rw [← four4_u8s] at hj
  simpa using hj

def SealPost (w : World) (k : UInt8) (l : List UInt8) (e : Ending) (w' : World) : Prop := ∃ a c, e = .returned (.tuple #[.slice a (sealL k l).length c, .int .i64 0]) ∧ MadeTo w 5 1 (.slice a (sealL k l).length c) (sealL k l).length (u8s (sealL k l)) w'

set_option maxHeartbeats 4000000 in
set_option maxRecDepth 100000 in
theorem seal_big (w : World) (k : UInt8) (a : Option Addr) (n c : Nat) (hn : 1048576 < n) :
    Calls Tryd.prog 36 #[.int .u8 (k.toNat : Int), .slice a n c] w fun e w' => e = .returned (.tuple #[.slice none 0 0, .int .i64 3]) ∧ w = w' := by
  go_enter Tryd.func36, Tryd.ntmps36
  go_wp2_with fail
  go_ret2
  exact ⟨rfl, rfl⟩

set_option maxHeartbeats 4000000 in
set_option maxRecDepth 100000 in
theorem seal_any (w : World) (k : UInt8) (a : Option Addr) (n c : Nat) (l : List UInt8) (hl : Src w 1 (.slice a n c) n (u8s l)) (hn : n ≤ 1048576) :
    Calls Tryd.prog 36 #[.int .u8 (k.toNat : Int), .slice a n c] w (SealPost w k l) := by
  have HL := Lib.hid hl
  have hlen := u8s_src_len hl
  have HN := Lib.hid hlen
  have hnn : ¬ 1048576 < n := by omega
  have hmod : (n : Int) % 4294967296 = (n : Int) := by omega
  clear hl hlen
  go_enter Tryd.func36, Tryd.ntmps36
  go_wp2_with fail
  clear hmod
  refine (four_any _ n (by omega)).mono ?_
  rintro e w1 ⟨rfl, hx1⟩
  have HX1 := Lib.hid hx1
  obtain ⟨q0, q1, q2, q3, hq⟩ : ∃ q0 q1 q2 q3 : Int, four4 n = #[.int .u8 q0, .int .u8 q1, .int .u8 q2, .int .u8 q3] := ⟨_, _, _, _, rfl⟩
  rw [hq]
  have HQ := Lib.hid hq
  clear hx1 hq
  go_upto_region 4 with fail
  obtain ⟨bm, hbm⟩ : ∃ bm, bm = w1.heap.size := ⟨_, rfl⟩
  rw [← hbm]
  have HW : Hid (Ext w1 (w1.alloc (.cells #[.int .u8 q0, .int .u8 q1, .int .u8 q2, .int .u8 q3] 99)) ∧ (w1.alloc (.cells #[.int .u8 q0, .int .u8 q1, .int .u8 q2, .int .u8 q3] 99)).heap[bm]? = some (.cells (four4 n) 99 (0, 0))) := Lib.hid ⟨(Ext.refl _).alloc _, by rw [hbm, HQ.out]; exact heap_alloc_new w1 _⟩
  generalize World.alloc _ _ = W at *
  obtain ⟨m, hw9⟩ : ∃ m : Nat, (n : Int) + 9 = (m : Int) := ⟨n + 9, by omega⟩
  obtain ⟨w3, hmk, hmade⟩ := make_room byt_elem W m (by omega) (by omega)
  have HMK := Lib.hid hmade
  have HBM : Hid (w3.heap[bm]? = some (.cells (four4 n) 99 (0, 0))) := Lib.hid ((HMK.out.ext.block (block_lt HW.out.2)).trans HW.out.2)
  clear hmade hbm
  go_upto_region 5 with (first
    | (at_make; refine wpList_makeS_run rfl _ _ _ rfl _ _ _ w3 rfl rfl hmk ?_; clear hmk hw9)
    | (at_builtin; go_must (refine wpList_append_to (n := 0) (m := 1) byt_elem rfl _ _ rfl (v := .slice _ _ _) rfl rfl (HMK.out.row.ext ((Ext.refl _).alloc _)) (byt_src (x := k) (heap_alloc_new _ _)) (by unfold maxLen; omega) (by omega) ?_; intro v4 w4 happ); obtain ⟨a4, c4, rfl⟩ := happ.row.shape; have H4 := Lib.hid (HMK.out.more ((Ext.refl _).alloc _) happ); have HX4 := Lib.hid (((Chg.of_ext (S := fun b => W.heap.size ≤ b) (HMK.out.ext.alloc (.cells #[.int .u8 (k.toNat : Int)] 5 (0, 0)))).trans happ.chg (fun i hi e => HMK.out.own i e)).block bm (block_lt HW.out.2) (by have := block_lt HW.out.2; omega)); clear happ))
  have H4' : Hid (MadeTo w 5 1 (.slice a4 1 c4) 1 (u8s [k]) w4) := Lib.hid (by
    have := H4.out
    exact MadeTo.trans (HX1.out.trans HW.out.1) this)
  have HB4 : Hid (w4.heap[bm]? = some (.cells (four4 n) 99 (0, 0))) := Lib.hid (HX4.out.trans HW.out.2)
  clear H4 HX4 HMK HW HX1
  go_upto_region 6 with (first
    | (refine wpList_append_to (n := 1) (m := 4) byt_elem rfl (.tmp 23) (.tmp 24) rfl rfl rfl H4'.out.row (src_four HB4.out) (by unfold maxLen; omega) (by omega) ?_; intro v5 w5 happ; obtain ⟨a5, c5, rfl⟩ := happ.row.shape; have H5 := Lib.hid (H4'.out.more (Ext.refl _) happ); clear happ)
    | (refine wpList_append_to (n := 1 + 4) (m := n) byt_elem rfl (.tmp 25) (.tmp 26) rfl rfl rfl H5.out.row (HL.out.ext H5.out.ext) (by unfold maxLen; omega) (by omega) ?_; intro v6 w6 happ; obtain ⟨a6, c6, rfl⟩ := happ.row.shape; have H6 := Lib.hid (H5.out.more (Ext.refl _) happ); clear happ))
  have HM : Hid (MadeTo w 5 1 (.slice a6 (5 + n) c6) (5 + n) (u8s (headL k l)) w6) := Lib.hid (by
    have := H6.out
    have e2 : headL k l = [k] ++ le4 n ++ l := by rw [headL, HN.out]; rfl
    rw [e2, u8s_append, u8s_append]
    rw [show 1 + 4 + n = 5 + n by omega] at this
    exact this)
  clear H6 H5 H4' HB4 HQ
  go_wp2_with fail
  refine (frameSum_any w6 _ _ _ _ (HM.out.row.src (u8s_one _)) (by omega)).mono ?_
  rintro e w' ⟨rfl, rfl⟩
  have hcl := csum_lt (headL k l)
  obtain ⟨cs, hcs⟩ : ∃ cs, cs = csum (headL k l) := ⟨_, rfl⟩
  rw [← hcs] at hcl ⊢
  have HCS := Lib.hid hcs
  clear hcs
  go_wp2_with fail
  refine (four_any _ cs hcl).mono ?_
  rintro e w7 ⟨rfl, hx7⟩
  have HX7 := Lib.hid hx7
  obtain ⟨p0, p1, p2, p3, hq⟩ : ∃ q0 q1 q2 q3 : Int, four4 cs = #[.int .u8 q0, .int .u8 q1, .int .u8 q2, .int .u8 q3] := ⟨_, _, _, _, rfl⟩
  rw [hq]
  have HQ := Lib.hid hq
  clear hx7 hq
  go_upto_region 7 with fail
  obtain ⟨bs, hbs⟩ : ∃ bs, bs = w7.heap.size := ⟨_, rfl⟩
  rw [← hbs]
  have HW : Hid (Ext w7 (w7.alloc (.cells #[.int .u8 p0, .int .u8 p1, .int .u8 p2, .int .u8 p3] 99)) ∧ (w7.alloc (.cells #[.int .u8 p0, .int .u8 p1, .int .u8 p2, .int .u8 p3] 99)).heap[bs]? = some (.cells (four4 cs) 99 (0, 0))) := Lib.hid ⟨(Ext.refl _).alloc _, by rw [hbs, HQ.out]; exact heap_alloc_new w7 _⟩
  generalize World.alloc _ _ = W8 at *
  clear hbs
  go_wp2_with (refine wpList_append_to (n := 5 + n) (m := 4) byt_elem rfl (.tmp 31) (.tmp 32) rfl rfl rfl (HM.out.row.ext (HX7.out.trans HW.out.1)) (src_four HW.out.2) (by unfold maxLen; omega) (by omega) ?_; intro v9 w9 happ; obtain ⟨a9, c9, rfl⟩ := happ.row.shape; have H9 := Lib.hid (HM.out.more (HX7.out.trans HW.out.1) happ); clear happ)
  go_ret2
  have e : 5 + n + 4 = (sealL k l).length := by rw [sealL_len, HN.out]; omega
  have h5 := H9.out
  rw [← u8s_append, HCS.out, e] at h5
  exact ⟨a9, c9, by rw [← e]; rfl, h5⟩
end Go.Proofs.YtfablbhkmddnbaaDoor

/-! Frames: Open (frame's and the document's). -/

namespace Go.Proofs.YtfablbhkmddnbaaDoor
open Go.RowKit Go.Sort Go.Lib

def lenL (l : List UInt8) : Nat := leN ((l.drop 1).take 4)
/-- What opened bytes tell: the kind, what is within, the error. -/
def openR (l : List UInt8) : UInt8 × List UInt8 × Int :=
  if l.length < 9 then (0, [], 10)
  else if 1048576 < lenL l then (0, [], 3)
  else if l.length < lenL l + 9 then (0, [], 10)
  else if l.length ≠ lenL l + 9 then (0, [], 11)
  else if leN (l.drop (l.length - 4)) ≠ csum (l.take (l.length - 4)) then (0, [], 12)
  else (l.headD 0, (l.drop 5).take (l.length - 9), 0)
def OpenPost (w : World) (r : UInt8 × List UInt8 × Int) (e : Ending) (w' : World) : Prop :=
  ∃ a c, e = .returned (.tuple #[.int .u8 (r.1.toNat : Int), .slice a r.2.1.length c, .int .i64 r.2.2]) ∧ MadeTo w 5 1 (.slice a r.2.1.length c) r.2.1.length (u8s r.2.1) w'
theorem OpenPost.bad {w w' : World} {x : Int} (hx : Ext w w') : OpenPost w (0, [], x) (.returned (.tuple #[.int .u8 0, .slice none 0 0, .int .i64 x])) w' :=
  ⟨none, 0, rfl, Row.nil _ _ _, fun g hg => by simp [Value.ownBlock] at hg, hx⟩
theorem fr_u8 : ∀ W, (sizeOf 5).run Tryd.prog W = .ok 1 W := fun _ => by kernel_rfl
theorem lenL_lt (l : List UInt8) : lenL l < 4294967296 := by
  have h1 := leN_lt ((l.drop 1).take 4)
  have h2 : 256 ^ ((l.drop 1).take 4).length ≤ 256 ^ 4 := Nat.pow_le_pow_right (by decide) (by rw [List.length_take]; omega)
  unfold lenL
  omega
theorem u8s_take (l : List UInt8) (k : Nat) : (u8s l).take k = u8s (l.take k) := by unfold u8s; rw [List.map_take]
theorem u8s_drop (l : List UInt8) (k : Nat) : (u8s l).drop k = u8s (l.drop k) := by unfold u8s; rw [List.map_drop]

def longR (l : List UInt8) : Nat × Int :=
  if l.length < 9 then (0, 10) else if 1048576 < lenL l then (0, 3) else if l.length < lenL l + 9 then (0, 10) else (lenL l + 9, 0)

set_option maxHeartbeats 4000000 in
set_option maxRecDepth 100000 in
theorem long_any (w : World) (a : Option Addr) (n c : Nat) (l : List UInt8) (hl : Src w 1 (.slice a n c) n (u8s l)) (hnc : n ≤ c) (hn : n < 4611686018427387904) :
    Calls Tryd.prog 82 #[.slice a n c] w fun e w' => e = .returned (.tuple #[.int .i64 ((longR l).1 : Int), .int .i64 (longR l).2]) ∧ Ext w w' := by
  have HL := Lib.hid hl
  have hlen := u8s_src_len hl
  by_cases h9 : n < 9
  · have HR : Hid (longR l = (0, 10)) := Lib.hid (by unfold longR; rw [if_pos (by omega)])
    clear hl hlen
    go_enter Tryd.func82, Tryd.ntmps82
    go_wp2_with fail
    go_ret2
    rw [HR.out]
    exact ⟨rfl, Ext.refl _⟩
  · have hlt := lenL_lt l
    have HS : Hid (Src w 1 (.slice (cutA a c 1) 4 (c - 1)) 4 (u8s ((l.drop 1).take 4))) := Lib.hid (by
      have := src_cut (l := 1) (h := 5) (m := c) hl (by omega) (by omega) (by omega) (by omega)
      rw [u8s_drop, u8s_take] at this
      exact this)
    have hs1 : ∀ W, (Instr.slice 22 (.slice a n c) (some (.int .i64 1)) (some (.int .i64 5)) none).run Tryd.prog W = .ok (.slice (cutA a c 1) 4 (c - 1)) W := run_slice_lohi Tryd.underlying22 fr_u8 a n c 1 5 (by omega) (by omega)
    have hs2 : ∀ W, (Instr.sliceAt 22 (.slice a n c) (some (.int .i64 1)) (some (.int .i64 5)) none).run Tryd.prog W = .ok (.slice (cutA a c 1) 4 (c - 1)) W := run_sliceAt_lohi Tryd.underlying22 fr_u8 a n c 1 5 (by omega) (by omega)
    have hr : longR l = if 1048576 < lenL l then (0, 3) else if n < lenL l + 9 then (0, 10) else (lenL l + 9, 0) := by unfold longR; rw [if_neg (by omega), hlen]
    have hle : leN ((l.drop 1).take 4) = lenL l := rfl
    have HLI := Lib.hid (fun w' (hx : Ext w w') => little_any w' _ _ _ (HS.out.ext hx))
    rw [hle] at HLI
    generalize lenL l = m at *
    generalize cutA a c 1 = a1 at *
    generalize c - 1 = c1 at *
    generalize longR l = r at *
    have HR := Lib.hid hr
    clear hl hlen hle HS hr
    go_enter Tryd.func82, Tryd.ntmps82
    go_wp2_with fail
    refine (HLI.out _ (Ext.refl _)).mono ?_
    rintro e w1 ⟨rfl, hx1⟩
    have HX1 := Lib.hid hx1
    clear hs1 hs2 hx1 HLI
    by_cases hb : 1048576 < m
    · have HR2 := Lib.hid (HR.out.trans (if_pos hb))
      go_wp2_with fail
      go_ret2
      rw [HR2.out]
      exact ⟨rfl, HX1.out⟩
    · by_cases hs : (n : Int) - 9 < (m : Int)
      · have HR2 := Lib.hid ((HR.out.trans (if_neg hb)).trans (if_pos (by omega)))
        go_wp2_with fail
        go_ret2
        rw [HR2.out]
        exact ⟨rfl, HX1.out⟩
      · have HR2 := Lib.hid ((HR.out.trans (if_neg hb)).trans (if_neg (by omega)))
        go_wp2_with fail
        go_ret2
        rw [HR2.out]
        exact ⟨by simp, HX1.out⟩

/-- What the bytes of one frame tell, if its sum is right. -/
def withinR (l : List UInt8) : UInt8 × List UInt8 × Int :=
  if leN (l.drop (l.length - 4)) ≠ csum (l.take (l.length - 4)) then (0, [], 12) else (l.headD 0, (l.drop 5).take (l.length - 9), 0)

set_option maxHeartbeats 8000000 in
set_option maxRecDepth 100000 in
theorem within_any (w : World) (a : Option Addr) (n c : Nat) (l : List UInt8) (hl : Src w 1 (.slice a n c) n (u8s l)) (hnc : n ≤ c) (h9 : 9 ≤ n) (hn : n ≤ 1099511627776) :
    Calls Tryd.prog 83 #[.slice a n c] w (OpenPost w (withinR l)) := by
  have HL := Lib.hid hl
  have hlen := u8s_src_len hl
  obtain ⟨m, hm⟩ : ∃ m, n = m + 4 := ⟨n - 4, by omega⟩
  have HR : Hid (withinR l = if leN (l.drop m) ≠ csum (l.take m) then (0, [], 12) else (l.headD 0, (l.drop 5).take (m - 5), 0)) := Lib.hid (by
    unfold withinR
    rw [show l.length - 4 = m by omega, show l.length - 9 = m - 5 by omega])
  have HS1 : Hid (Src w 1 (.slice (cutA a c m) 4 (c - m)) 4 (u8s (l.drop m))) := Lib.hid (by
    have := src_cut (l := m) (h := n) (m := c) hl (by omega) (by omega) (by omega) (by omega)
    rw [u8s_drop, u8s_take, show n - m = 4 by omega, List.take_of_length_le (by simp; omega)] at this
    exact this)
  have HS2 : Hid (Src w 1 (.slice (cutA a c 0) m c) m (u8s (l.take m))) := Lib.hid (by
    have := src_cut (l := 0) (h := m) (m := c) hl (by omega) (by omega) (by omega) (by omega)
    rw [u8s_drop, u8s_take, List.drop_zero, Nat.sub_zero, Nat.sub_zero] at this
    exact this)
  have HS3 : Hid (Src w 1 (.slice (cutA a c 5) (m - 5) (c - 5)) (m - 5) (u8s ((l.drop 5).take (m - 5)))) := Lib.hid (by
    have := src_cut (l := 5) (h := m) (m := c) hl (by omega) (by omega) (by omega) (by omega)
    rw [u8s_drop, u8s_take] at this
    exact this)
  have hs1 := run_sliceAt_lo (P := Tryd.prog) Tryd.underlying22 fr_u8 a n c m (by omega)
  have hs2 := run_sliceAt_hi (P := Tryd.prog) Tryd.underlying22 fr_u8 a n c m (by omega)
  have hs3 : ∀ W, (Instr.sliceAt 22 (.slice a n c) (some (.int .i64 5)) (some (.int .i64 (m : Int))) none).run Tryd.prog W = .ok (.slice (cutA a c 5) (m - 5) (c - 5)) W := run_sliceAt_lohi Tryd.underlying22 fr_u8 a n c 5 m (by omega) (by omega)
  rw [show n - m = 4 by omega] at hs1
  have hsub : (n : Int) - 4 = (m : Int) := by omega
  obtain ⟨b, off, k, rfl, hk, ck⟩ := byte_src hl (show 0 < n by omega)
  have HK : Hid (l.headD 0 = k) := Lib.hid (by
    cases l with
    | nil => simp at hk
    | cons x l => simp at hk ⊢; exact hk)
  rw [Nat.add_zero] at ck
  generalize cutA (some ⟨b, off, none⟩) c m = a1 at *
  generalize cutA (some ⟨b, off, none⟩) c 0 = a2 at *
  generalize cutA (some ⟨b, off, none⟩) c 5 = a3 at *
  generalize c - m = c1 at *
  generalize c - 5 = c3 at *
  have hvl : leN (l.drop m) < 4294967296 := by
    have h1 := leN_lt (l.drop m)
    have h2 : (l.drop m).length = 4 := by rw [List.length_drop]; omega
    rw [h2] at h1; exact h1
  have HLI := Lib.hid (fun w' (hx : Ext w w') => little_any w' _ _ _ (HS1.out.ext hx))
  have HSU := Lib.hid (fun w' (hx : Ext w w') => frameSum_any w' _ _ _ _ (HS2.out.ext hx) (by omega))
  obtain ⟨u, hu⟩ : ∃ u, u = leN (l.drop m) := ⟨_, rfl⟩
  obtain ⟨s, hs⟩ : ∃ s, s = csum (l.take m) := ⟨_, rfl⟩
  have hsl : s < 4294967296 := by rw [hs]; exact csum_lt _
  rw [← hu] at HLI HR hvl
  rw [← hs] at HSU HR
  have hmod : (u : Int) % 4294967296 = (u : Int) := by omega
  have hm5 : 5 ≤ m := by omega
  have HLN : Hid (m + 4 = l.length) := Lib.hid (by omega)
  have hmn : m ≤ 1099511627776 := by omega
  clear hl hlen hm hk hu hs HS1 HS2
  go_enter Tryd.func83, Tryd.ntmps83
  go_upto_region 2 with fail
  clear hsub
  refine wp_region_quiet_below (by kernel_rfl) (by kernel_rfl) ?_
  iterate 2 (go_big_quiet_step (fail))
  refine wpQuiet_slice rfl 22 (.tmp 9) (some (.tmp 10)) none rfl _ _ _ _ hs1 rfl rfl rfl ?_
  simp only [Act.put, List.setIfInBounds_toArray, List.set_cons_succ, List.set_cons_zero]
  go_big_quiet_step ((go_at_call 69; exact Calls.grown_of (HLI.out _ (Ext.regrown _ _ _))))
  iterate 3 (go_big_quiet_step (fail))
  refine wpQuiet_slice rfl 22 (.tmp 14) none (some (.tmp 15)) rfl _ _ _ _ hs2 rfl rfl rfl ?_
  simp only [Act.put, List.setIfInBounds_toArray, List.set_cons_succ, List.set_cons_zero]
  go_big_quiet_step ((go_at_call 54; exact Calls.grown_of_same (HSU.out _ (Ext.regrown _ _ _))))
  go_big_quiet_step (fail)
  refine wpQuiet_nil ?_
  intro W hw'
  have HX : Hid (Ext w W) := Lib.hid (by obtain ⟨pr, rfl⟩ := hw'; exact Ext.regrown _ _ _)
  clear hw' hs1 hs2 HLI HSU
  by_cases hus : u = s
  · have HR2 : Hid (withinR l = (k, (l.drop 5).take (m - 5), 0)) := Lib.hid (by rw [HR.out, if_neg (fun h => h hus), HK.out])
    have hne : ((u : Int) != (s : Int)) = false := by simp [hus]
    have ck2 : W.cell? ⟨b, off, none⟩ = some (.int .u8 (k.toNat : Int)) := by rw [HX.out.cell (World.block_lt_of_cell? w _ ck)]; exact ck
    have f0 := cell_turned (T := fun _ => false) ck2 rfl
    clear hus ck ck2 hmod
    go_wp2_with fail
    refine wp_region_plan 8 (fun w' => ∃ p : Turned, w' = turned W (fun _ => false) p.d p.f p.os) (.reads [0, 1, 2, 4, 5, 6] (.one 3 (.one 7 (.one 8 (.one 9 (.one 10 .done)))))) (by kernel_rfl) (by kernel_rfl) (fun _ _ dd _ _ hh => by cases dd <;> exact hh) ?_ ?_
    · exact turned_of_ext (Ext.drewN W 1)
    refine wpPlan_reads ?_
    simp only [pickOps, List.getElem?_cons_succ, List.getElem?_cons_zero]
    iterate 5 (go_big_quiet_step (fail))
    refine wpQuiet_slice rfl 22 (.tmp 23) (some (.const (.int .i64 5))) (some (.tmp 24)) rfl _ _ _ _ hs3 rfl rfl rfl ?_
    simp only [Act.put, List.setIfInBounds_toArray, List.set_cons_succ, List.set_cons_zero]
    refine wpQuiet_nil ?_
    clear f0 hs3
    refine wpPlan_one ?_
    simp only [pickOps, List.getElem?_cons_succ, List.getElem?_cons_zero]
    go_wp2_with fail
    refine thenX_mk (turned_of_ext (((Ext.refl W).alloc _).drew)) (wpPlan_one ?_)
    simp only [pickOps, List.getElem?_cons_succ, List.getElem?_cons_zero]
    refine wpList_append_to (n := 0) (m := m - 5) byt_elem rfl (.tmp 22) (.tmp 25) rfl rfl rfl (row_empty (W := (W.alloc (.cells #[] 5 (0, 0))).drew) (heap_alloc_new W _)) ((HS3.out.ext HX.out).ext (((Ext.refl W).alloc _).drew)) (by unfold maxLen; omega) (by omega) ?_
    intro v3 w3 happ
    simp only [Nat.zero_add, List.nil_append] at happ ⊢
    obtain ⟨a4, c4, rfl⟩ := happ.row.shape
    have hb : ∀ g, (Value.slice (some ⟨W.heap.size, 0, none⟩) 0 0).ownBlock = some g → W.heap.size ≤ g := fun g hg => by
      have e2 : W.heap.size = g := Option.some.inj hg
      omega
    have HM := Lib.hid (MadeTo.app hb (((Ext.refl W).alloc (.cells #[] 5 (0, 0))).drew) happ)
    clear happ hb
    go_wp2_with fail
    refine thenX_mk (turned_of_ext HM.out.ext) (wpPlan_one ?_)
    simp only [pickOps, List.getElem?_cons_succ, List.getElem?_cons_zero]
    go_wp2_with fail
    refine thenX_last (wpPlan_one ?_)
    simp only [pickOps, List.getElem?_cons_succ, List.getElem?_cons_zero]
    go_wp2_with fail
    refine thenX_last (wpPlan_one ?_)
    simp only [pickOps, List.getElem?_cons_succ, List.getElem?_cons_zero]
    go_wp2_with fail
    refine thenX_last (wpPlan_done ?_)
    go_wp2_with fail
    have e : (withinR l).2.1.length = m - 5 := by
      rw [HR2.out]
      simp only [List.length_take, List.length_drop]
      have := HLN.out
      omega
    refine bodyPost_ret (v := .tuple #[.int .u8 (k.toNat : Int), .slice a4 (m - 5) c4, .int .i64 0]) (by simp [results, Tryd.results83, go_sem]) rfl ⟨a4, c4, ?_, ?_⟩
    · rw [e, HR2.out]
    · rw [e, HR2.out]
      exact MadeTo.trans HX.out HM.out
  · have HR2 : Hid (withinR l = (0, [], 12)) := Lib.hid (by rw [HR.out, if_pos hus])
    have hne : ((u : Int) != (s : Int)) = true := by simp; omega
    clear hus
    go_wp2_with fail
    refine bodyPost_ret (v := .tuple #[.int .u8 0, .slice none 0 0, .int .i64 12]) (by simp [results, Tryd.results83, go_sem]) rfl ?_
    rw [HR2.out]
    exact OpenPost.bad HX.out

theorem openR_long {l : List UInt8} : openR l = if (longR l).2 ≠ 0 then (0, [], (longR l).2) else if (longR l).1 ≠ l.length then (0, [], 11) else withinR l := by
  unfold openR longR withinR
  by_cases h1 : l.length < 9
  · simp [h1]
  · by_cases h2 : 1048576 < lenL l
    · simp [h1, h2]
    · by_cases h3 : l.length < lenL l + 9
      · simp [h1, h2, h3]
      · simp only [h1, h2, h3, if_false, ne_eq, not_true_eq_false]
        by_cases h4 : l.length = lenL l + 9
        · have : lenL l + 9 = l.length := h4.symm
          simp only [h4, not_true_eq_false, if_false]
        · have : ¬ lenL l + 9 = l.length := fun e => h4 e.symm
          simp [h4, this]
theorem longR_nine {l : List UInt8} (h : (longR l).2 = 0) : 9 ≤ l.length := by
  unfold longR at h
  split at h
  · simp at h
  · omega
theorem longR_err (l : List UInt8) : (longR l).2 = 0 ∨ (longR l).2 = 3 ∨ (longR l).2 = 10 := by
  unfold longR
  split
  · simp
  · split
    · simp
    · split <;> simp

set_option maxHeartbeats 4000000 in
set_option maxRecDepth 100000 in
theorem open_any (w : World) (a : Option Addr) (n c : Nat) (l : List UInt8) (hl : Src w 1 (.slice a n c) n (u8s l)) (hnc : n ≤ c) (hn : n ≤ 1099511627776) :
    Calls Tryd.prog 68 #[.slice a n c] w (OpenPost w (openR l)) := by
  have HL := Lib.hid hl
  have hlen := u8s_src_len hl
  have HN := Lib.hid hlen
  have hr := openR_long (l := l)
  have herr := longR_err l
  have h9 := longR_nine (l := l)
  have HLO := Lib.hid (fun w' (hx : Ext w w') => long_any w' a n c l (HL.out.ext hx) hnc (by omega))
  rw [hlen] at hr h9
  generalize longR l = r at *
  obtain ⟨x, y⟩ := r
  simp only at hr herr h9 HLO
  have HR := Lib.hid hr
  have H9 := Lib.hid h9
  clear hl hlen hr h9
  go_enter Tryd.func68, Tryd.ntmps68
  go_wp2_with fail
  refine (HLO.out _ (Ext.refl _)).mono ?_
  rintro e w1 ⟨rfl, hx1⟩
  have HX1 := Lib.hid hx1
  clear hx1 HLO
  by_cases hy : y = 0
  · subst hy
    by_cases hxn : x = n
    · have HR2 := Lib.hid ((HR.out.trans (if_neg (fun h => h rfl))).trans (if_neg (fun h => h hxn)))
      have hne : ((x : Int) != (n : Int)) = false := by simp [hxn]
      have h9 := H9.out rfl
      clear hxn
      go_wp2_with fail
      refine (within_any w1 a n c l (HL.out.ext HX1.out) hnc h9 hn).mono ?_
      rintro e w2 ⟨a2, c2, rfl, h2⟩
      have H2 := Lib.hid h2
      clear h2
      go_wp2_with fail
      refine bodyPost_ret (v := .tuple #[.int .u8 ((withinR l).1.toNat : Int), .slice a2 (withinR l).2.1.length c2, .int .i64 (withinR l).2.2]) (by simp [results, Tryd.results68, go_sem]) rfl ?_
      rw [HR2.out]
      exact ⟨a2, c2, rfl, MadeTo.trans HX1.out H2.out⟩
    · have HR2 := Lib.hid ((HR.out.trans (if_neg (fun h => h rfl))).trans (if_pos hxn))
      have hne : ((x : Int) != (n : Int)) = true := by simp; omega
      clear hxn
      go_wp2_with fail
      refine bodyPost_ret (v := .tuple #[.int .u8 0, .slice none 0 0, .int .i64 11]) (by simp [results, Tryd.results68, go_sem]) rfl ?_
      rw [HR2.out]
      exact OpenPost.bad HX1.out
  · have HR2 := Lib.hid (HR.out.trans (if_pos hy))
    have hne : (y != 0) = true := by simp [hy]
    clear hy herr
    go_wp2_with fail
    refine bodyPost_ret (v := .tuple #[.int .u8 0, .slice none 0 0, .int .i64 y]) (by simp [results, Tryd.results68, go_sem]) rfl ?_
    rw [HR2.out]
    exact OpenPost.bad HX1.out

def Read4Post (w : World) (l : List UInt8) (e : Ending) (w' : World) : Prop :=
  ∃ a c u, e = .returned (.tuple #[.int .u8 ((openR l).1.toNat : Int), .slice a (openR l).2.1.length c, .int .i64 u, .int .i64 (openR l).2.2]) ∧ MadeTo w 5 1 (.slice a (openR l).2.1.length c) (openR l).2.1.length (u8s (openR l).2.1) w'
theorem Read4Post.bad {w w' : World} {l : List UInt8} {x : Int} (h : openR l = (0, [], x)) (hx : Ext w w') : Read4Post w l (.returned (.tuple #[.int .u8 0, .slice none 0 0, .int .i64 0, .int .i64 x])) w' := by
  unfold Read4Post
  rw [h]
  exact ⟨none, 0, 0, rfl, Row.nil _ _ _, fun g hg => by simp [Value.ownBlock] at hg, hx⟩

end Go.Proofs.YtfablbhkmddnbaaDoor

/-! Plain: a sealed frame is opened; one of which bits are turned is none. -/

namespace Go.Proofs.YtfablbhkmddnbaaDoor
open Go.RowKit Go.Sort Go.Lib

theorem openR_seal (k : UInt8) (l : List UInt8) (hl : l.length ≤ 1048576) : openR (sealL k l) = (k, l, 0) := by
  have h1 : lenL (sealL k l) = l.length := by
    unfold lenL sealL headL
    simp only [List.cons_append, List.drop_succ_cons, List.drop_zero, List.append_assoc]
    rw [List.take_left' (le4_len _), leN_le4 (by omega)]
  have h2 := sealL_len k l
  have h3 : (sealL k l).drop ((sealL k l).length - 4) = le4 (csum (headL k l)) := by
    rw [h2]
    unfold sealL
    exact List.drop_left' (by rw [headL_len]; omega)
  have h4 : (sealL k l).take ((sealL k l).length - 4) = headL k l := by
    rw [h2]
    unfold sealL
    exact List.take_left' (by rw [headL_len]; omega)
  unfold openR
  rw [if_neg (by omega), h1, if_neg (by omega), if_neg (by omega), if_neg (by omega), h3, h4, leN_le4 (csum_lt _), if_neg (by simp)]
  have h5 : ((sealL k l).drop 5).take ((sealL k l).length - 9) = l := by
    rw [h2]
    unfold sealL headL
    rw [List.cons_append, List.append_assoc, List.drop_succ_cons, List.drop_left' (le4_len _)]
    exact List.take_left' (by omega)
  rw [h5]
  rfl
/-- Bits that are turned make no frame. -/
theorem openR_turned {k : UInt8} {l : List UInt8} {b p : Nat} (hp : p ≤ 8 * (sealL k l).length) (hb : turnsAny b p (8 * (sealL k l).length)) : (openR (flipL b p (sealL k l))).2.2 ≠ 0 := by
  have hlen := flipL_len b p (sealL k l)
  have h2 := sealL_len k l
  have hs : leN ((flipL b p (sealL k l)).drop ((flipL b p (sealL k l)).length - 4)) ≠ csum ((flipL b p (sealL k l)).take ((flipL b p (sealL k l)).length - 4)) := by
    refine sum_turned (l := headL k l) (t := le4 (csum (headL k l))) (b := b) (p := p) (le4_len _) ?_ (leN_le4 (csum_lt _)) hp hb ?_
    · rw [List.length_drop, hlen, h2]; omega
    · rw [List.take_append_drop]
      rfl
  unfold openR
  split
  · simp
  split
  · simp
  split
  · simp
  split
  · simp
  simp
end Go.Proofs.YtfablbhkmddnbaaDoor
