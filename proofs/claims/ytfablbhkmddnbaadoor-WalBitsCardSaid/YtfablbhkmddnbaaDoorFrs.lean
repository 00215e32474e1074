/- Frames: Seal (frame's and the document's). -/
import Derived.Test.YtfablbhkmddnbaaDoorFrl
import Derived.Test.YtfablbhkmddnbaaDoorBls
import Derived.Deep.DeepCutAuto
namespace Go.Proofs.YtfablbhkmddnbaaDoor
open Go.RowKit Go.Sort Go.Lib

/-- A frame without its sum, and with it. -/
def headL (k : UInt8) (l : List UInt8) : List UInt8 := k :: (le4 l.length ++ l)
def sealL (k : UInt8) (l : List UInt8) : List UInt8 := headL k l ++ le4 (csum (headL k l))
theorem le4_len (u : Nat) : (le4 u).length = 4 := rfl
theorem headL_len (k : UInt8) (l : List UInt8) : (headL k l).length = l.length + 5 := by simp [headL, le4_len]; omega
theorem sealL_len (k : UInt8) (l : List UInt8) : (sealL k l).length = l.length + 9 := by simp [sealL, headL_len, le4_len]
theorem src_four {W : World} {b u : Nat} {t : TypeId} (h : W.heap[b]? = some (.cells (four4 u) t (0, 0))) : Src W 1 (.slice (some ⟨b, 0, none⟩) 4 4) 4 (u8s (le4 u)) := by
  refine .inr ⟨_, _, rfl, rfl, fun j u hj => ?_, u8s_one _⟩
  rw [Go.WideShapes.add_plain, Nat.zero_add, cell_of_block h]
  rw [← four4_u8s] at hj
  simpa using hj

def SealPost (w : World) (k : UInt8) (l : List UInt8) (e : Ending) (w' : World) : Prop := ∃ a c, e = .returned (.tuple #[.slice a (sealL k l).length c, .int .i64 0]) ∧ MadeTo w 5 1 (.slice a (sealL k l).length c) (sealL k l).length (u8s (sealL k l)) w'

set_option maxHeartbeats 4000000 in
set_option maxRecDepth 100000 in
theorem seal_big (w : World) (k : UInt8) (a : Option Addr) (n c : Nat) (hn : 1048576 < n) :
    Calls Tryd.prog 36 #[.int .u8 (k.toNat : Int), .slice a n c] w fun e w' => e = .returned (.tuple #[.slice none 0 0, .int .i64 3]) ∧ w = w' := by
  go_enter Tryd.func36, Tryd.ntmps36
  go_wp2_with fail
  go_ret2
  exact ⟨rfl, rfl⟩

set_option maxHeartbeats 4000000 in
set_option maxRecDepth 100000 in
theorem seal_any (w : World) (k : UInt8) (a : Option Addr) (n c : Nat) (l : List UInt8) (hl : Src w 1 (.slice a n c) n (u8s l)) (hn : n ≤ 1048576) :
    Calls Tryd.prog 36 #[.int .u8 (k.toNat : Int), .slice a n c] w (SealPost w k l) := by
  have HL := Lib.hid hl
  have hlen := u8s_src_len hl
  have HN := Lib.hid hlen
  have hnn : ¬ 1048576 < n := by omega
  have hmod : (n : Int) % 4294967296 = (n : Int) := by omega
  clear hl hlen
  go_enter Tryd.func36, Tryd.ntmps36
  go_wp2_with fail
  clear hmod
  refine (four_any _ n (by omega)).mono ?_
  rintro e w1 ⟨rfl, hx1⟩
  have HX1 := Lib.hid hx1
  obtain ⟨q0, q1, q2, q3, hq⟩ : ∃ q0 q1 q2 q3 : Int, four4 n = #[.int .u8 q0, .int .u8 q1, .int .u8 q2, .int .u8 q3] := ⟨_, _, _, _, rfl⟩
  rw [hq]
  have HQ := Lib.hid hq
  clear hx1 hq
  go_upto_region 4 with fail
  obtain ⟨bm, hbm⟩ : ∃ bm, bm = w1.heap.size := ⟨_, rfl⟩
  rw [← hbm]
  have HW : Hid (Ext w1 (w1.alloc (.cells #[.int .u8 q0, .int .u8 q1, .int .u8 q2, .int .u8 q3] 99)) ∧ (w1.alloc (.cells #[.int .u8 q0, .int .u8 q1, .int .u8 q2, .int .u8 q3] 99)).heap[bm]? = some (.cells (four4 n) 99 (0, 0))) := Lib.hid ⟨(Ext.refl _).alloc _, by rw [hbm, HQ.out]; exact heap_alloc_new w1 _⟩
  generalize World.alloc _ _ = W at *
  obtain ⟨m, hw9⟩ : ∃ m : Nat, (n : Int) + 9 = (m : Int) := ⟨n + 9, by omega⟩
  obtain ⟨w3, hmk, hmade⟩ := make_room byt_elem W m (by omega) (by omega)
  have HMK := Lib.hid hmade
  have HBM : Hid (w3.heap[bm]? = some (.cells (four4 n) 99 (0, 0))) := Lib.hid ((HMK.out.ext.block (block_lt HW.out.2)).trans HW.out.2)
  clear hmade hbm
  go_upto_region 5 with (first
    | (at_make; refine wpList_makeS_run rfl _ _ _ rfl _ _ _ w3 rfl rfl hmk ?_; clear hmk hw9)
    | (at_builtin; go_must (refine wpList_append_to (n := 0) (m := 1) byt_elem rfl _ _ rfl (v := .slice _ _ _) rfl rfl (HMK.out.row.ext ((Ext.refl _).alloc _)) (byt_src (x := k) (heap_alloc_new _ _)) (by unfold maxLen; omega) (by omega) ?_; intro v4 w4 happ); obtain ⟨a4, c4, rfl⟩ := happ.row.shape; have H4 := Lib.hid (HMK.out.more ((Ext.refl _).alloc _) happ); have HX4 := Lib.hid (((Chg.of_ext (S := fun b => W.heap.size ≤ b) (HMK.out.ext.alloc (.cells #[.int .u8 (k.toNat : Int)] 5 (0, 0)))).trans happ.chg (fun i hi e => HMK.out.own i e)).block bm (block_lt HW.out.2) (by have := block_lt HW.out.2; omega)); clear happ))
  have H4' : Hid (MadeTo w 5 1 (.slice a4 1 c4) 1 (u8s [k]) w4) := Lib.hid (by
    have := H4.out
    exact MadeTo.trans (HX1.out.trans HW.out.1) this)
  have HB4 : Hid (w4.heap[bm]? = some (.cells (four4 n) 99 (0, 0))) := Lib.hid (HX4.out.trans HW.out.2)
  clear H4 HX4 HMK HW HX1
  go_upto_region 6 with (first
    | (refine wpList_append_to (n := 1) (m := 4) byt_elem rfl (.tmp 23) (.tmp 24) rfl rfl rfl H4'.out.row (src_four HB4.out) (by unfold maxLen; omega) (by omega) ?_; intro v5 w5 happ; obtain ⟨a5, c5, rfl⟩ := happ.row.shape; have H5 := Lib.hid (H4'.out.more (Ext.refl _) happ); clear happ)
    | (refine wpList_append_to (n := 1 + 4) (m := n) byt_elem rfl (.tmp 25) (.tmp 26) rfl rfl rfl H5.out.row (HL.out.ext H5.out.ext) (by unfold maxLen; omega) (by omega) ?_; intro v6 w6 happ; obtain ⟨a6, c6, rfl⟩ := happ.row.shape; have H6 := Lib.hid (H5.out.more (Ext.refl _) happ); clear happ))
  have HM : Hid (MadeTo w 5 1 (.slice a6 (5 + n) c6) (5 + n) (u8s (headL k l)) w6) := Lib.hid (by
    have := H6.out
    have e2 : headL k l = [k] ++ le4 n ++ l := by rw [headL, HN.out]; rfl
    rw [e2, u8s_append, u8s_append]
    rw [show 1 + 4 + n = 5 + n by omega] at this
    exact this)
  clear H6 H5 H4' HB4 HQ
  go_wp2_with fail
  refine (frameSum_any w6 _ _ _ _ (HM.out.row.src (u8s_one _)) (by omega)).mono ?_
  rintro e w' ⟨rfl, rfl⟩
  have hcl := csum_lt (headL k l)
  obtain ⟨cs, hcs⟩ : ∃ cs, cs = csum (headL k l) := ⟨_, rfl⟩
  rw [← hcs] at hcl ⊢
  have HCS := Lib.hid hcs
  clear hcs
  go_wp2_with fail
  refine (four_any _ cs hcl).mono ?_
  rintro e w7 ⟨rfl, hx7⟩
  have HX7 := Lib.hid hx7
  obtain ⟨p0, p1, p2, p3, hq⟩ : ∃ q0 q1 q2 q3 : Int, four4 cs = #[.int .u8 q0, .int .u8 q1, .int .u8 q2, .int .u8 q3] := ⟨_, _, _, _, rfl⟩
  rw [hq]
  have HQ := Lib.hid hq
  clear hx7 hq
  go_upto_region 7 with fail
  obtain ⟨bs, hbs⟩ : ∃ bs, bs = w7.heap.size := ⟨_, rfl⟩
  rw [← hbs]
  have HW : Hid (Ext w7 (w7.alloc (.cells #[.int .u8 p0, .int .u8 p1, .int .u8 p2, .int .u8 p3] 99)) ∧ (w7.alloc (.cells #[.int .u8 p0, .int .u8 p1, .int .u8 p2, .int .u8 p3] 99)).heap[bs]? = some (.cells (four4 cs) 99 (0, 0))) := Lib.hid ⟨(Ext.refl _).alloc _, by rw [hbs, HQ.out]; exact heap_alloc_new w7 _⟩
  generalize World.alloc _ _ = W8 at *
  clear hbs
  go_wp2_with (refine wpList_append_to (n := 5 + n) (m := 4) byt_elem rfl (.tmp 31) (.tmp 32) rfl rfl rfl (HM.out.row.ext (HX7.out.trans HW.out.1)) (src_four HW.out.2) (by unfold maxLen; omega) (by omega) ?_; intro v9 w9 happ; obtain ⟨a9, c9, rfl⟩ := happ.row.shape; have H9 := Lib.hid (HM.out.more (HX7.out.trans HW.out.1) happ); clear happ)
  go_ret2
  have e : 5 + n + 4 = (sealL k l).length := by rw [sealL_len, HN.out]; omega
  have h5 := H9.out
  rw [← u8s_append, HCS.out, e] at h5
  exact ⟨a9, c9, by rw [← e]; rfl, h5⟩
end Go.Proofs.YtfablbhkmddnbaaDoor
