/- The document's disk: New, find, right, Used, done. -/
import Derived.Test.YtcmolfhjkkfedaaRk0
import Derived.Deep.DeepCutAuto
namespace Go.Proofs.Ytcmolfhjkkfedaa
open Go.RowKit Go.Sort Go.Lib

theorem rk_str_eq (a b : ByteArray) : (a.toList == b.toList) = decide (a = b) := by
  rw [← beq_toListBytes, bytes_beq]
/-- Where a file is. -/
def FAt (L : List RF) (name : ByteArray) (kk : Int) : Prop := (kk = -1 ∧ ∀ p ∈ L, p.nm ≠ name) ∨ ∃ (r : Nat) (p : RF), kk = (r : Int) ∧ L[r]? = some p ∧ p.nm = name

set_option maxHeartbeats 2000000 in
theorem rk_find {w : World} {rd : Nat} {room left ops : Int} {L : List RF} {la : Option Addr} {lc : Nat} (h : RkRaw w rd room left ops L la lc) (hL : L.length ≤ 1000000) (name : ByteArray) :
    Calls Try.prog 28 #[.pointer (some ⟨rd, 0, none⟩), .string name] w fun e w' => ∃ kk : Int, e = .returned (.int .i64 kk) ∧ FAt L name kk ∧ w = w' := by
  have c1 : w.cell? ⟨rd, 3, none⟩ = some (.slice la L.length lc) := by have := cell_of_block h.blk 3; simpa using this
  have H := Lib.hid h
  clear h
  go_enter Try.func28, Try.ntmps28
  go_wp2_with fail
  go_loop [5] (fun i => ∃ k : Nat, k ≤ L.length ∧ i = .int .i64 k ∧ Hid (∀ p ∈ L.take k, p.nm ≠ name)) (fun i => L.length - (RowKit.intOf i).toNat)
  case atStart => exact ⟨0, by omega, rfl, Lib.hid (by simp)⟩
  case round =>
    obtain ⟨k, hk, rfl, HI⟩ := hrel
    by_cases hlt : k < L.length
    · obtain ⟨g, x, rfl, hx, cx, _⟩ := file_cells H.out.row hlt
      have HX := Lib.hid hx
      clear hx
      by_cases hxs : x.nm = name
      · have HF : Hid (FAt L name (k : Int)) := Lib.hid (.inr ⟨k, x, rfl, HX.out, hxs⟩)
        have he : (x.nm.toList == name.toList) = true := by rw [rk_str_eq]; simpa using hxs
        clear hxs
        go_wp2_with fail
        go_ret
        exact ⟨_, rfl, HF.out, rfl⟩
      · have HF : Hid (∀ p ∈ L.take (k + 1), p.nm ≠ name) := Lib.hid (fun p hp => by
          rw [List.take_add_one, HX.out] at hp
          rcases List.mem_append.1 hp with hp | hp
          · exact HI.out p hp
          · simp at hp; subst hp; exact hxs)
        have he : (x.nm.toList == name.toList) = false := by rw [rk_str_eq]; simpa using hxs
        clear hxs
        go_wp2_with fail
        go_round
        case rel => exact ⟨k + 1, by omega, by go_num, HF⟩
        case measure => simp [RowKit.intOf]; omega
    · have HF : Hid (FAt L name (-1)) := Lib.hid (.inl ⟨rfl, by have h := HI.out; rwa [List.take_of_length_le (by omega)] at h⟩)
      go_wp2_with fail
      go_ret
      exact ⟨_, rfl, HF.out, rfl⟩

set_option maxHeartbeats 2000000 in
theorem rk_right (s : ByteArray) (hs : s.size ≤ maxLen) (w : World) :
    Calls Try.prog 27 #[.string s] w fun e w' => e = .returned (.bool (nameB s)) ∧ w = w' := by
  have HB : Hid (nameB s = (decide (1 ≤ s.size) && decide (s.size ≤ 64))) := Lib.hid rfl
  obtain ⟨n, hn⟩ : ∃ n, s.size = n := ⟨_, rfl⟩
  rw [hn] at HB
  by_cases h1 : 1 ≤ n
  · by_cases h2 : n ≤ 64
    · have h1' : (1 : Int) ≤ (n : Int) := by omega
      have h2' : (n : Int) ≤ 64 := by omega
      go_enter Try.func27, Try.ntmps27
      go_wp2_with fail
      go_ret
      rw [HB.out]
      exact ⟨by simp [h1, h2], rfl⟩
    · have h1' : (1 : Int) ≤ (n : Int) := by omega
      have h2' : ¬ (n : Int) ≤ 64 := by omega
      go_enter Try.func27, Try.ntmps27
      go_wp2_with fail
      go_ret
      rw [HB.out]
      exact ⟨by simp [h2], rfl⟩
  · have h1' : ¬ (1 : Int) ≤ (n : Int) := by omega
    go_enter Try.func27, Try.ntmps27
    go_wp2_with fail
    go_ret
    rw [HB.out]
    exact ⟨by simp [h1], rfl⟩

def sumR (L : List RF) : Nat := (L.map fun f => f.bs.length).sum
theorem sumR_data (L : List RF) : sumR L = sumF (rdata L) := by
  unfold sumR sumF rdata
  rw [List.map_map]
  rfl
theorem sumR_take (L : List RF) (r : Nat) : sumR (L.take r) ≤ sumR L := by
  have := congrArg sumR (List.take_append_drop r L)
  have e : sumR (L.take r ++ L.drop r) = sumR (L.take r) + sumR (L.drop r) := by unfold sumR; rw [List.map_append, List.sum_append]
  omega

set_option maxHeartbeats 2000000 in
theorem rk_used {w : World} {rd : Nat} {room left ops : Int} {L : List RF} {la : Option Addr} {lc : Nat} (h : RkRaw w rd room left ops L la lc) (hs : sumR L ≤ 1073741824) (hL : L.length ≤ 1000000) :
    Calls Try.prog 18 #[.pointer (some ⟨rd, 0, none⟩)] w fun e w' => e = .returned (.int .i64 (sumR L : Nat)) ∧ w = w' := by
  have c1 : w.cell? ⟨rd, 3, none⟩ = some (.slice la L.length lc) := by have := cell_of_block h.blk 3; simpa using this
  have H := Lib.hid h
  have HSUM := Lib.hid hs
  clear h hs
  go_enter Try.func18, Try.ntmps18
  go_wp2_with fail
  go_loop [3, 4] (fun s3 s4 => ∃ (r q : Nat), r ≤ L.length ∧ s4 = .int .i64 r ∧ s3 = .int .i64 q ∧ Hid (q = sumR (L.take r))) (fun _ j => L.length - (RowKit.intOf j).toNat)
  case atStart => exact ⟨0, 0, by omega, rfl, rfl, Lib.hid (by simp [sumR])⟩
  case round =>
    obtain ⟨r, q, hr, rfl, rfl, HQ⟩ := hrel
    by_cases hrl : r < L.length
    · obtain ⟨g, x, rfl, hx, _, cx, _⟩ := file_cells H.out.row hrl
      have HXN := Lib.hid (u8s_src_len (H.out.ok x (List.mem_of_getElem? hx)).src)
      have HQ2 : Hid (q + x.n = sumR (L.take (r + 1))) := Lib.hid (by rw [List.take_add_one, hx, HQ.out]; simp [sumR, HXN.out])
      have hq : q + x.n ≤ 1073741824 := by
        have h1 := HQ2.out
        have h2 := HSUM.out
        have h3 := sumR_take L (r + 1)
        omega
      clear hx
      go_wp2_with fail
      go_round
      case rel => exact ⟨r + 1, q + x.n, by omega, by go_num, by go_num, HQ2⟩
      case measure => simp [RowKit.intOf]; omega
    · have HE : Hid (sumR L = q) := Lib.hid (by rw [HQ.out, List.take_of_length_le (by omega)])
      go_wp2_with fail
      go_ret
      rw [HE.out]
      exact ⟨rfl, rfl⟩

theorem RkRaw.head {w : World} {rd : Nat} {room left ops room2 left2 ops2 : Int} {L : List RF} {la : Option Addr} {lc : Nat} {w2 : World} (h : RkRaw w rd room left ops L la lc) (hc : Chg (· = rd) w w2)
    (hb : w2.heap[rd]? = some (.cells #[.int .i64 room2, .int .i64 left2, .int .i64 ops2, .slice la L.length lc] 43 (0, 0))) : RkRaw w2 rd room2 left2 ops2 L la lc :=
  ⟨hb, h.row.chg hc (fun g hg e => h.own g hg e), fun f hf => (h.ok f hf).chg hc (fun b e => .inl e), h.own⟩

set_option maxHeartbeats 2000000 in
theorem rk_done {w : World} {rd : Nat} {room left ops : Int} {L : List RF} {la : Option Addr} {lc : Nat} (h : RkRaw w rd room left ops L la lc) (ho : 0 ≤ ops) (ho2 : ops < 4611686018427387904) (hl : -1 ≤ left) (hl2 : left ≤ 9223372036854775807) :
    Calls Try.prog 30 #[.pointer (some ⟨rd, 0, none⟩)] w fun e w' => e = .returned (.tuple #[]) ∧ RkRaw w' rd room (if 0 < left then left - 1 else left) (ops + 1) L la lc ∧ Chg (· = rd) w w' := by
  have c1 : w.cell? ⟨rd, 1, none⟩ = some (.int .i64 left) := by have := cell_of_block h.blk 1; simpa using this
  have c2 : w.cell? ⟨rd, 2, none⟩ = some (.int .i64 ops) := by have := cell_of_block h.blk 2; simpa using this
  have z1 := free_of_block h.blk 1
  have z2 := free_of_block h.blk 2
  have H := Lib.hid h
  have HI : Hid ((if 0 < left then left - 1 else left) = if 0 < left then left - 1 else left) := Lib.hid rfl
  clear h
  obtain ⟨l2, hl2'⟩ : ∃ l2, l2 = (if 0 < left then left - 1 else left) := ⟨_, rfl⟩
  rw [← hl2']
  have HL2 := Lib.hid hl2'
  clear hl2'
  go_enter Try.func30, Try.ntmps30
  by_cases hp : 0 < left
  · go_upto_region 1 with fail
    have HB2 : Hid ((w.setCell ⟨rd, 2, none⟩ (.int .i64 (ops + 1))).heap[rd]? = some (.cells #[.int .i64 room, .int .i64 left, .int .i64 (ops + 1), .slice la L.length lc] 43 (0, 0))) := Lib.hid (by rw [setCell_block H.out.blk]; rfl)
    have HC2 := Lib.hid (setCell_chg w rd 2 (.int .i64 (ops + 1)))
    clear c1 c2 z1 z2
    generalize World.setCell _ _ _ = w2 at *
    have c1 : w2.cell? ⟨rd, 1, none⟩ = some (.int .i64 left) := by have := cell_of_block HB2.out 1; simpa using this
    have z1 := free_of_block HB2.out 1
    go_wp2_with fail
    go_end0
    refine ⟨rfl, ?_, ?_⟩
    · refine H.out.head (HC2.out.trans (setCell_chg _ _ _ _) (fun _ _ e => e)) ?_
      rw [setCell_block HB2.out, HL2.out, if_pos hp]; rfl
    · exact HC2.out.trans (setCell_chg _ _ _ _) (fun _ _ e => e)
  · go_upto_region 1 with fail
    have HB2 : Hid ((w.setCell ⟨rd, 2, none⟩ (.int .i64 (ops + 1))).heap[rd]? = some (.cells #[.int .i64 room, .int .i64 left, .int .i64 (ops + 1), .slice la L.length lc] 43 (0, 0))) := Lib.hid (by rw [setCell_block H.out.blk]; rfl)
    have HC2 := Lib.hid (setCell_chg w rd 2 (.int .i64 (ops + 1)))
    clear c1 c2 z1 z2
    generalize World.setCell _ _ _ = w2 at *
    have c1 : w2.cell? ⟨rd, 1, none⟩ = some (.int .i64 left) := by have := cell_of_block HB2.out 1; simpa using this
    go_wp2_with fail
    go_end0
    refine ⟨rfl, ?_, HC2.out⟩
    refine H.out.head HC2.out ?_
    rw [HB2.out, HL2.out, if_neg (by omega)]
end Go.Proofs.Ytcmolfhjkkfedaa
