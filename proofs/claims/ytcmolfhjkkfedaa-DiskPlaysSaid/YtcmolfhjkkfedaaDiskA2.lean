/- What the closure of disk's Append comes to. -/
import Derived.Test.YtcmolfhjkkfedaaDiskA
import Derived.Test.YtcmolfhjkkfedaaLex
import Derived.BigQuiet
import Derived.Deep.QuietTactic
import Derived.WalkSpells
namespace Go.Proofs.Ytcmolfhjkkfedaa
open Go.RowKit Go.Sort

set_option maxHeartbeats 4000000 in
set_option maxRecDepth 100000 in
theorem append1_full {w : World} {d mb : Nat} {E : List (ByteArray × FileX)} {room used left ops : Int} (h : DiskRep w d mb E room used left ops)
    (bb dd nn : Nat) (name : ByteArray) (a : Option Addr) (n c : Nat)
    (hb : w.cell? ⟨bb, 0, none⟩ = some (.slice a n c)) (hd : w.cell? ⟨dd, 0, none⟩ = some (.pointer (some ⟨d, 0, none⟩))) (hn : w.cell? ⟨nn, 0, none⟩ = some (.string name))
    (hr : room ≤ 1073741824) (hr0 : 0 ≤ room) (hu : 0 ≤ used) (hu2 : used ≤ room) (hnm : n ≤ maxLen)
    (hfull : room - used < (n : Int)) :
    Calls Try.prog 26 #[.pointer (some ⟨bb, 0, none⟩), .pointer (some ⟨dd, 0, none⟩), .pointer (some ⟨nn, 0, none⟩)] w fun e w' => e = .returned (.int .i64 15) ∧ Ext w w' := by
  unfold maxLen at hnm
  have hh := h.head
  have c0 : w.cell? ⟨d, 0, none⟩ = some (.map (some mb)) := by rw [cell_of_block hh]; rfl
  have c1 : w.cell? ⟨d, 1, none⟩ = some (.int .i64 room) := by rw [cell_of_block hh]; rfl
  have c2 : w.cell? ⟨d, 2, none⟩ = some (.int .i64 used) := by rw [cell_of_block hh]; rfl
  have Hh := Lib.hid hh
  clear hh
  go_enter Try.func26, Try.ntmps26
  go_wp2_with fail
  go_quiet (fail)
  go_wp2_with fail
  go_ret
  exact ⟨rfl, Ext.drewN _ _⟩

set_option maxHeartbeats 4000000 in
set_option maxRecDepth 100000 in
theorem append1_big {w : World} {d mb : Nat} {E : List (ByteArray × FileX)} {room used left ops : Int} (h : DiskRep w d mb E room used left ops)
    (bb dd nn : Nat) (name : ByteArray) (a : Option Addr) (n c : Nat)
    (hb : w.cell? ⟨bb, 0, none⟩ = some (.slice a n c)) (hd : w.cell? ⟨dd, 0, none⟩ = some (.pointer (some ⟨d, 0, none⟩))) (hn : w.cell? ⟨nn, 0, none⟩ = some (.string name))
    (hr : room ≤ 1073741824) (hr0 : 0 ≤ room) (hu : 0 ≤ used) (hu2 : used ≤ room) (hnm : n ≤ maxLen)
    (hroom : (n : Int) ≤ room - used) (x : FileX) (hx : aget E name = some x) (hbig : 1048576 < n + x.f.bytes.length) (hmany : x.f.bytes.length ≤ 1048576) :
    Calls Try.prog 26 #[.pointer (some ⟨bb, 0, none⟩), .pointer (some ⟨dd, 0, none⟩), .pointer (some ⟨nn, 0, none⟩)] w fun e w' => e = .returned (.int .i64 3) ∧ Ext w w' := by
  unfold maxLen at hnm
  have hh := h.head
  have c0 : w.cell? ⟨d, 0, none⟩ = some (.map (some mb)) := by rw [cell_of_block hh]; rfl
  have c1 : w.cell? ⟨d, 1, none⟩ = some (.int .i64 room) := by rw [cell_of_block hh]; rfl
  have c2 : w.cell? ⟨d, 2, none⟩ = some (.int .i64 used) := by rw [cell_of_block hh]; rfl
  have Hh := Lib.hid hh
  clear hh
  have hz : ∀ w : World, (zeroValue 61).run Try.prog w = .ok (.pointer none) w := fun _ => by kernel_rfl
  have hlk : ∀ k, (Instr.lookup 57 (.map (some mb)) (.string name) false).run Try.prog (w.drewN k) = .ok (.pointer (some ⟨x.fb, 0, none⟩)) (w.drewN k) := by
    intro k
    have := (h.ext (Ext.drewN w k)).map.lookup (P := Try.prog) (string_kind Try.underlying9) Try.underlying57 (.pointer none) (hz _) name false
    rw [ptrs, aget_amap, hx] at this
    simpa only [Option.map_some, Option.map_none, Option.getD_some, Option.getD_none, Bool.false_eq_true, if_false] using this
  have hf : FileAt w x := h.files (name, x) (aget_mem hx)
  have f0 : w.cell? ⟨x.fb, 0, none⟩ = some x.v := by rw [cell_of_block hf.head]; rfl
  obtain ⟨xa, xc, hxv⟩ := hf.row.shape
  rw [hxv] at f0
  clear hxv hf hx
  go_enter Try.func26, Try.ntmps26
  go_wp2_with fail
  go_quiet (fail)
  go_wp2_with fail
  go_quiet (fail)
  go_wp2_with fail
  go_quiet (fail)
  go_wp2_with fail
  go_ret
  exact ⟨rfl, (Ext.drewN _ _).trans (Ext.drewN _ _)⟩

set_option maxHeartbeats 4000000 in
set_option maxRecDepth 100000 in
theorem append1_many {w : World} {d mb : Nat} {E : List (ByteArray × FileX)} {room used left ops : Int} (h : DiskRep w d mb E room used left ops)
    (bb dd nn : Nat) (name : ByteArray) (a : Option Addr) (n c : Nat)
    (hb : w.cell? ⟨bb, 0, none⟩ = some (.slice a n c)) (hd : w.cell? ⟨dd, 0, none⟩ = some (.pointer (some ⟨d, 0, none⟩))) (hn : w.cell? ⟨nn, 0, none⟩ = some (.string name))
    (hr : room ≤ 1073741824) (hr0 : 0 ≤ room) (hu : 0 ≤ used) (hu2 : used ≤ room) (hnm : n ≤ maxLen)
    (hroom : (n : Int) ≤ room - used) (hx : aget E name = none) (hmany : 512 ≤ E.length ∨ 1048576 < n) :
    Calls Try.prog 26 #[.pointer (some ⟨bb, 0, none⟩), .pointer (some ⟨dd, 0, none⟩), .pointer (some ⟨nn, 0, none⟩)] w fun e w' => e = .returned (.int .i64 3) ∧ Ext w w' := by
  unfold maxLen at hnm
  have hh := h.head
  have c0 : w.cell? ⟨d, 0, none⟩ = some (.map (some mb)) := by rw [cell_of_block hh]; rfl
  have c1 : w.cell? ⟨d, 1, none⟩ = some (.int .i64 room) := by rw [cell_of_block hh]; rfl
  have c2 : w.cell? ⟨d, 2, none⟩ = some (.int .i64 used) := by rw [cell_of_block hh]; rfl
  have Hh := Lib.hid hh
  clear hh
  have hz : ∀ w : World, (zeroValue 61).run Try.prog w = .ok (.pointer none) w := fun _ => by kernel_rfl
  have hlk : ∀ k, (Instr.lookup 57 (.map (some mb)) (.string name) false).run Try.prog (w.drewN k) = .ok (.pointer none) (w.drewN k) := by
    intro k
    have := (h.ext (Ext.drewN w k)).map.lookup (P := Try.prog) (string_kind Try.underlying9) Try.underlying57 (.pointer none) (hz _) name false
    rw [ptrs, aget_amap, hx] at this
    simpa only [Option.map_some, Option.map_none, Option.getD_some, Option.getD_none, Bool.false_eq_true, if_false] using this
  have hlen : ∀ k ty, (Builtin.len_ #[57] ty #[.map (some mb)]).run Try.prog (w.drewN k) = .ok (.int .i64 E.length) (w.drewN k) := by
    intro k ty
    have := (h.ext (Ext.drewN w k)).map.run_len (P := Try.prog) Try.underlying57 ty
    simpa [ptrs, amap] using this
  obtain ⟨N, hN⟩ : ∃ N, N = E.length := ⟨_, rfl⟩
  rw [← hN] at hlen hmany
  clear hx hN
  by_cases hN5 : 512 ≤ N
  · have hN6 : (512 : Int) ≤ (N : Int) := by omega
    go_enter Try.func26, Try.ntmps26
    go_wp2_with fail
    go_quiet (fail)
    go_wp2_with fail
    go_quiet (fail)
    go_wp2_with fail
    go_ret
    exact ⟨rfl, Ext.drewN _ _⟩
  · have hN6 : (N : Int) < (512 : Int) := by omega
    have hn6 : (1048576 : Int) < (n : Int) := by omega
    clear hmany hN5
    go_enter Try.func26, Try.ntmps26
    go_wp2_with fail
    go_quiet (fail)
    go_wp2_with fail
    go_quiet (fail)
    go_wp2_with fail
    go_ret
    exact ⟨rfl, Ext.drewN _ _⟩

end Go.Proofs.Ytcmolfhjkkfedaa
