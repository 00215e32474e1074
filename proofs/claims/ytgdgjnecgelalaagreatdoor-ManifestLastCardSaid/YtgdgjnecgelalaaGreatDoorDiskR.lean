/- Plain: a state is saved on a disk, and loaded. -/
import Derived.Test.YtgdgjnecgelalaaGreatDoorDiskF
import Derived.Test.YtgdgjnecgelalaaGreatDoorMpb
import Derived.Test.YtgdgjnecgelalaaGreatDoorDiskW
namespace Go.Proofs.YtgdgjnecgelalaaGreatDoor
open Go.RowKit Go.Sort Go.Lib

def fN : ByteArray := ⟨#[110]⟩
def fM : ByteArray := ⟨#[109]⟩
theorem fN_ne : fN ≠ fM := by decide
/-- What was begun is taken away. -/
def saveA (S : DiskS) : Int × DiskS := if (aget S.files fN).isSome = true then S.delete fN else (0, S)
def thenS (r : Int × DiskS) (k : DiskS → Int × DiskS) : Int × DiskS := if r.1 = 0 then k r.2 else r
/-- A state is saved. -/
def saveS (S : DiskS) (s : Sta) : Int × DiskS :=
  if staR s = true then thenS (thenS (thenS (saveA S) (fun S => S.append fN (sealL 7 (staP s)))) (fun S => S.sync fN)) (fun S => S.rename fN fM) else (2, S)
/-- What is loaded: the state, whether it is there, the error. -/
def loadO : Option Sta → Sta × Bool × Int
  | some s => (s, true, 0)
  | none => (staZ, false, 24)
def loadS (S : DiskS) : Sta × Bool × Int := match aget S.files fM with
  | none => (staZ, false, 0)
  | some f => loadO (staRd f.bytes)

theorem nameB_fN : nameB fN = true := by decide
theorem nameB_fM : nameB fM = true := by decide
theorem stops_one {left : Int} (h : left ≠ 0) : doStops [fN] left = none := by simp [doStops, nameB_fN, h]
theorem stops_two {left : Int} (h : left ≠ 0) : doStops [fN, fM] left = none := by simp [doStops, nameB_fN, nameB_fM, h]
theorem stops_cut : doStops [fN] 0 = some 17 ∧ doStops [fN, fM] 0 = some 17 := by simp [doStops, nameB_fN, nameB_fM]
def downL (left : Int) : Int := if 0 < left then left - 1 else left

/-- The files while a state is saved: that of before, if there is one, and the new one. -/
def midF (o : Option (List UInt8)) (bl : List UInt8) (lasts : Nat) (sy : Bool) : List (ByteArray × FileS) := (match o with | none => [] | some b0 => [(fM, ⟨b0, b0.length, true⟩)]) ++ [(fN, ⟨bl, lasts, sy⟩)]
def oldF (o : Option (List UInt8)) : List (ByteArray × FileS) := match o with | none => [] | some b0 => [(fM, ⟨b0, b0.length, true⟩)]
def oldN (o : Option (List UInt8)) : Nat := match o with | none => 0 | some b0 => b0.length
def baseS (o : Option (List UInt8)) (left ops : Int) : DiskS := ⟨oldF o, 1048576, (oldN o : Nat), left, ops⟩
def midS (o : Option (List UInt8)) (bl : List UInt8) (lasts : Nat) (sy : Bool) (left ops : Int) : DiskS := ⟨oldF o ++ [(fN, ⟨bl, lasts, sy⟩)], 1048576, ((oldN o + bl.length : Nat) : Int), left, ops⟩
theorem old_get (o : Option (List UInt8)) : aget (oldF o) fN = none := by
  cases o with
  | none => rfl
  | some b0 => rfl
theorem base_append (o : Option (List UInt8)) (bl : List UInt8) (left ops : Int) (hl : left ≠ 0) (ho : oldN o ≤ 100000) (hb : bl.length ≤ 100000) :
    (baseS o left ops).append fN bl = (0, midS o bl 0 false (downL left) (ops + 1)) := by
  have hg : aget (baseS o left ops).files fN = none := old_get o
  unfold DiskS.append DiskS.doing
  rw [show (baseS o left ops).left = left from rfl, stops_one hl]
  simp only
  unfold DiskS.put
  rw [hg]
  have h1 : ¬ ((baseS o left ops).room - (baseS o left ops).used < (bl.length : Int)) := by
    show ¬ ((1048576 : Int) - (oldN o : Nat) < (bl.length : Int))
    omega
  have h2 : ¬ (512 ≤ (baseS o left ops).files.length ∨ 1048576 < bl.length) := by
    have : (baseS o left ops).files.length ≤ 1 := by
      show (oldF o).length ≤ 1
      cases o <;> simp [oldF]
    omega
  rw [if_neg h1]
  simp only
  rw [if_neg h2]
  simp only [if_true]
  rw [aput_new _ hg]
  simp [DiskS.count, baseS, midS, downL]
  by_cases h0 : 0 < left <;> simp [h0]
theorem mid_get (o : Option (List UInt8)) (bl : List UInt8) (lasts : Nat) (sy : Bool) (left ops : Int) : aget (midS o bl lasts sy left ops).files fN = some ⟨bl, lasts, sy⟩ := by
  cases o with
  | none => rfl
  | some b0 => rfl
theorem mid_sync (o : Option (List UInt8)) (bl : List UInt8) (left ops : Int) (hl : left ≠ 0) :
    (midS o bl 0 false left ops).sync fN = (0, midS o bl bl.length true (downL left) (ops + 1)) := by
  have hg := mid_get o bl 0 false left ops
  unfold DiskS.sync DiskS.onFile DiskS.doing
  rw [show (midS o bl 0 false left ops).left = left from rfl, stops_one hl, hg]
  simp only [if_true]
  unfold DiskS.synced
  rw [hg]
  simp only
  cases o with
  | none => rfl
  | some b0 => rfl
theorem mid_rename (o : Option (List UInt8)) (bl : List UInt8) (left ops : Int) (hl : left ≠ 0) :
    (midS o bl bl.length true left ops).rename fN fM = (0, baseS (some bl) (downL left) (ops + 1)) := by
  have hg := mid_get o bl bl.length true left ops
  unfold DiskS.rename DiskS.onFile DiskS.doing
  rw [show (midS o bl bl.length true left ops).left = left from rfl, stops_two hl, hg]
  simp only [if_true]
  unfold DiskS.renamed
  rw [if_neg fN_ne, hg]
  simp only
  cases o with
  | none => simp [DiskS.drop, midS, oldF, aget, aput, adel, fM, fN, DiskS.count, baseS, oldN, downL]
  | some b0 =>
    simp [DiskS.drop, midS, oldF, aget, aput, adel, fM, fN, DiskS.count, baseS, oldN, downL]
    omega

theorem save_bad {S : DiskS} {s : Sta} (h : staR s = false) : saveS S s = (2, S) := by unfold saveS; rw [if_neg (by simp [h])]
theorem saveA_base (o : Option (List UInt8)) (left ops : Int) : saveA (baseS o left ops) = (0, baseS o left ops) := by
  unfold saveA
  rw [show aget (baseS o left ops).files fN = none from old_get o]
  rfl
/-- A save with no cut. -/
theorem save_free {o : Option (List UInt8)} {s : Sta} {left ops : Int} (h : staR s = true) (hl : left < 0) (ho : oldN o ≤ 100000) (hb : (sealL 7 (staP s)).length ≤ 100000) :
    saveS (baseS o left ops) s = (0, baseS (some (sealL 7 (staP s))) left (ops + 3)) := by
  have hd : downL left = left := by unfold downL; rw [if_neg (by omega)]
  unfold saveS
  rw [if_pos h, saveA_base]
  unfold thenS
  simp only [if_true]
  rw [base_append o _ left ops (by omega) ho hb]
  simp only [if_true]
  rw [hd, mid_sync o _ left _ (by omega)]
  simp only [if_true]
  rw [hd, mid_rename o _ left _ (by omega), hd]
  simp only [Prod.mk.injEq, true_and]
  congr 1
  omega
/-- A save that is cut. -/
theorem save_cut {o : Option (List UInt8)} {s : Sta} {ops : Int} (h : staR s = true) (ho : oldN o ≤ 100000) (hb : (sealL 7 (staP s)).length ≤ 100000) :
    saveS (baseS o 0 ops) s = (17, baseS o 0 ops) ∧ saveS (baseS o 1 ops) s = (17, midS o (sealL 7 (staP s)) 0 false 0 (ops + 1)) ∧
    saveS (baseS o 2 ops) s = (17, midS o (sealL 7 (staP s)) (sealL 7 (staP s)).length true 0 (ops + 1 + 1)) ∧ saveS (baseS o 3 ops) s = (0, baseS (some (sealL 7 (staP s))) 0 (ops + 1 + 1 + 1)) := by
  have hA : ∀ S : DiskS, S.left = 0 → S.append fN (sealL 7 (staP s)) = (17, S) := fun S hS => by
    unfold DiskS.append DiskS.doing
    rw [hS, stops_cut.1]
  have hY : ∀ S : DiskS, S.left = 0 → S.sync fN = (17, S) := fun S hS => by
    unfold DiskS.sync DiskS.onFile DiskS.doing
    rw [hS, stops_cut.1]
  have hR : ∀ S : DiskS, S.left = 0 → S.rename fN fM = (17, S) := fun S hS => by
    unfold DiskS.rename DiskS.onFile DiskS.doing
    rw [hS, stops_cut.2]
  have d1 : downL 1 = 0 := by decide
  have d2 : downL 2 = 1 := by decide
  have d3 : downL 3 = 2 := by decide
  refine ⟨?_, ?_, ?_, ?_⟩
  · unfold saveS
    rw [if_pos h, saveA_base]
    unfold thenS
    simp only [if_true]
    rw [hA _ rfl]
    try simp
  · unfold saveS
    rw [if_pos h, saveA_base]
    unfold thenS
    simp only [if_true]
    rw [base_append o _ 1 ops (by omega) ho hb, d1]
    simp only [if_true]
    rw [hY _ rfl]
    try simp
  · unfold saveS
    rw [if_pos h, saveA_base]
    unfold thenS
    simp only [if_true]
    rw [base_append o _ 2 ops (by omega) ho hb, d2]
    simp only [if_true]
    rw [mid_sync o _ 1 _ (by omega), d1]
    simp only [if_true]
    rw [hR _ rfl]
    try simp
  · unfold saveS
    rw [if_pos h, saveA_base]
    unfold thenS
    simp only [if_true]
    rw [base_append o _ 3 ops (by omega) ho hb, d3]
    simp only [if_true]
    rw [mid_sync o _ 2 _ (by omega), d2]
    simp only [if_true]
    rw [mid_rename o _ 1 _ (by omega), d1]
theorem seal_few {s : Sta} (h : staR s = true) (hm : s.km.ok) : (sealL 7 (staP s)).length ≤ 100000 := by
  have := staP_len h hm
  rw [sealL_len]
  omega
theorem load_base {s : Sta} (h : staR s = true) (hm : s.km.ok) (left ops : Int) : loadS (baseS (some (sealL 7 (staP s))) left ops) = (s, true, 0) := by
  have e : aget (baseS (some (sealL 7 (staP s))) left ops).files fM = some ⟨sealL 7 (staP s), (sealL 7 (staP s)).length, true⟩ := rfl
  unfold loadS
  rw [e]
  simp only
  rw [staRd_seal h hm (by have := staP_len h hm; omega)]
  rfl
end Go.Proofs.YtgdgjnecgelalaaGreatDoor

/-! Contracts of disk's New, Used, Ops, Cut, Read. -/

namespace Go.Proofs.YtgdgjnecgelalaaGreatDoor
open Go.RowKit Go.Sort

def newDisk (room : Int) : DiskS := ⟨[], room, 0, -1, 0⟩

theorem newDisk_ok {room : Int} (h0 : 0 ≤ room) (h1 : room ≤ 1073741824) : (newDisk room).Ok :=
  ⟨h0, h1, Int.le_refl _, h0, by simp [newDisk], by simp [newDisk], Int.le_refl _, by simp [newDisk], by simp [newDisk], by simp [newDisk], by simp [newDisk]⟩

set_option maxHeartbeats 1000000 in
theorem disk_new {room : Int} (h0 : 0 ≤ room) (h1 : room ≤ 1073741824) (w : World) :
    Calls Tryz.prog 6 #[.int .i64 room] w fun e w' => e = .returned (.tuple #[.pointer (some ⟨w.heap.size + 1, 0, none⟩), .int .i64 0]) ∧ DiskAt w' (w.heap.size + 1) (newDisk room) [w.heap.size + 1, w.heap.size] ∧ Ext w w' := by
  have hmm := @run_makeMap Tryz.prog
  have g0 : ¬ room < 0 := by omega
  have g1 : ¬ 1073741824 < room := by omega
  go_enter Tryz.func6, Tryz.ntmps6
  go_wp2
  go_ret2
  refine ⟨by simp, ⟨w.heap.size, [], ⟨?_, ?_, by simp, by simp [foot], by simp⟩, rfl, rfl⟩, ((Ext.refl _).alloc _).alloc _⟩
  · have := heap_alloc_new (w.alloc (.map #[] 0)) (.cells #[.map (some w.heap.size), .int .i64 room, .int .i64 0, .int .i64 (-1), .int .i64 0] 71 (0, 0))
    simpa [newDisk] using this
  · exact (MapIs.new w).ext ((Ext.refl _).alloc _)

set_option maxHeartbeats 1000000 in
theorem disk_new_bad {room : Int} (h : room < 0 ∨ 1073741824 < room) (w : World) :
    Calls Tryz.prog 6 #[.int .i64 room] w fun e w' => e = .returned (.tuple #[.pointer none, .int .i64 2]) ∧ w = w' := by
  by_cases g : room < 0
  · go_enter Tryz.func6, Tryz.ntmps6
    go_wp2
    go_ret2
    exact ⟨rfl, rfl⟩
  · have g1 : 1073741824 < room := by omega
    clear h
    go_enter Tryz.func6, Tryz.ntmps6
    go_wp2
    go_ret2
    exact ⟨rfl, rfl⟩

set_option maxHeartbeats 1000000 in
theorem disk_used {w : World} {d : Nat} {S : DiskS} {B : List Nat} (h : DiskAt w d S B) :
    Calls Tryz.prog 14 #[.pointer (some ⟨d, 0, none⟩)] w fun e w' => e = .returned (.int .i64 S.used) ∧ w = w' := by
  obtain ⟨mb, E, h, _, rfl⟩ := h
  have c0 : w.cell? ⟨d, 0, none⟩ = some (.map (some mb)) := by rw [cell_of_block h.head]; rfl
  have c2 : w.cell? ⟨d, 2, none⟩ = some (.int .i64 S.used) := by rw [cell_of_block h.head]; rfl
  go_enter Tryz.func14, Tryz.ntmps14
  go_wp2_with (go_at_call 22; refine (disk_none c0).mono ?_; rintro e w' ⟨rfl, rfl⟩)
  go_ret
  exact ⟨rfl, rfl⟩

set_option maxHeartbeats 1000000 in
theorem disk_ops {w : World} {d : Nat} {S : DiskS} {B : List Nat} (h : DiskAt w d S B) :
    Calls Tryz.prog 13 #[.pointer (some ⟨d, 0, none⟩)] w fun e w' => e = .returned (.int .i64 S.ops) ∧ w = w' := by
  obtain ⟨mb, E, h, _, rfl⟩ := h
  have c0 : w.cell? ⟨d, 0, none⟩ = some (.map (some mb)) := by rw [cell_of_block h.head]; rfl
  have c2 : w.cell? ⟨d, 4, none⟩ = some (.int .i64 S.ops) := by rw [cell_of_block h.head]; rfl
  go_enter Tryz.func13, Tryz.ntmps13
  go_wp2_with (go_at_call 22; refine (disk_none c0).mono ?_; rintro e w' ⟨rfl, rfl⟩)
  go_ret
  exact ⟨rfl, rfl⟩

def DiskS.cut (S : DiskS) (n : Int) : DiskS := { S with left := max n (-1) }

theorem head_rep {w w2 : World} {d mb : Nat} {E : List (ByteArray × FileX)} {room used left ops room2 used2 left2 ops2 : Int} (h : DiskRep w d mb E room used left ops) (hc : Chg (· = d) w w2)
    (hh : w2.heap[d]? = some (.cells #[.map (some mb), .int .i64 room2, .int .i64 used2, .int .i64 left2, .int .i64 ops2] 71 (0, 0))) : DiskRep w2 d mb E room2 used2 left2 ops2 := by
  have hap := h.apart
  simp only [foot, List.nodup_cons, List.mem_cons, not_or] at hap
  refine ⟨hh, h.map.chg hc (Ne.symm hap.1.1), fun p hp => (h.files p hp).chg hc (fun b hb e => ?_), h.apart, h.names⟩
  subst e
  exact hap.1.2 (List.mem_flatMap.2 ⟨p, hp, hb⟩)

set_option maxHeartbeats 1000000 in
theorem disk_cut {w : World} {d : Nat} {S : DiskS} {B : List Nat} (h : DiskAt w d S B) (n : Int) :
    Calls Tryz.prog 8 #[.pointer (some ⟨d, 0, none⟩), .int .i64 n] w fun e w' => e = .returned (.tuple #[]) ∧ DiskTo w d B (S.cut n) w' := by
  obtain ⟨mb, E, h, hfs, rfl⟩ := h
  have c0 : w.cell? ⟨d, 0, none⟩ = some (.map (some mb)) := by rw [cell_of_block h.head]; rfl
  have c3 : w.cell? ⟨d, 3, none⟩ = some (.int .i64 S.left) := by rw [cell_of_block h.head]; rfl
  have f3 : w.frozen? ⟨d, 3, none⟩ = false := free_of_block h.head 3
  have H := Lib.hid h; clear h
  by_cases hn : n < -1
  · have Hm := Lib.hid (show S.cut n = { S with left := -1 } by simp only [DiskS.cut]; congr 1; omega)
    go_enter Tryz.func8, Tryz.ntmps8
    go_wp2_with (go_at_call 22; refine (disk_none c0).mono ?_; rintro e w' ⟨rfl, rfl⟩)
    go_end0
    rw [Hm.out]
    exact ⟨rfl, foot d mb E, ⟨mb, E, head_rep H.out (setCell_chg _ _ _ _) (setCell_block H.out.head _), hfs, rfl⟩, (setCell_chg _ _ _ _).mono (fun i hi e => by rw [e]; simp [foot]), fun b hb => .inl hb⟩
  · have Hm := Lib.hid (show S.cut n = { S with left := n } by simp only [DiskS.cut]; congr 1; omega)
    go_enter Tryz.func8, Tryz.ntmps8
    go_wp2_with (go_at_call 22; refine (disk_none c0).mono ?_; rintro e w' ⟨rfl, rfl⟩)
    go_end0
    rw [Hm.out]
    exact ⟨rfl, foot d mb E, ⟨mb, E, head_rep H.out (setCell_chg _ _ _ _) (setCell_block H.out.head _), hfs, rfl⟩, (setCell_chg _ _ _ _).mono (fun i hi e => by rw [e]; simp [foot]), fun b hb => .inl hb⟩

/-- A slice of bytes that is new. -/
def NewBytes (w w' : World) (v : Value) (l : List UInt8) : Prop := Row w' 5 1 v l.length (u8s l) ∧ (∀ g, v.ownBlock = some g → w.heap.size ≤ g) ∧ Ext w w'

set_option maxHeartbeats 2000000 in
theorem disk_read_none {w : World} {d : Nat} {S : DiskS} {B : List Nat} (h : DiskAt w d S B) (name : ByteArray) (hx : aget S.files name = none) :
    Calls Tryz.prog 23 #[.pointer (some ⟨d, 0, none⟩), .string name] w fun e w' => e = .returned (.tuple #[.slice none 0 0, .int .i64 13]) ∧ w = w' := by
  obtain ⟨mb, E, h, hfs, rfl⟩ := h
  have c0 : w.cell? ⟨d, 0, none⟩ = some (.map (some mb)) := by rw [cell_of_block h.head]; rfl
  have hz : ∀ w : World, (zeroValue 105).run Tryz.prog w = .ok (.pointer none) w := fun _ => by kernel_rfl
  have hxE : aget E name = none := by
    rw [← hfs, fs, aget_amap] at hx
    simpa using hx
  have hlk : (Instr.lookup 69 (.map (some mb)) (.string name) false).run Tryz.prog w = .ok (.pointer none) w := by
    have := h.map.lookup (P := Tryz.prog) (string_kind Tryz.underlying9) Tryz.underlying69 (.pointer none) (hz _) name false
    rw [ptrs, aget_amap, hxE] at this
    simpa only [Option.map_none, Option.getD_none, Bool.false_eq_true, if_false] using this
  clear hx hxE
  go_enter Tryz.func23, Tryz.ntmps23
  go_wp2_with (go_at_call 22; refine (disk_none c0).mono ?_; rintro e w' ⟨rfl, rfl⟩)
  go_ret2
  exact ⟨rfl, rfl⟩

def ReadPost (w : World) (l : List UInt8) (e : Ending) (w' : World) : Prop := ∃ v, e = .returned (.tuple #[v, .int .i64 0]) ∧ NewBytes w w' v l

set_option maxHeartbeats 2000000 in
set_option maxRecDepth 100000 in
theorem disk_read_some {w : World} {d : Nat} {S : DiskS} {B : List Nat} (ok : S.Ok) (h : DiskAt w d S B) (name : ByteArray) (f : FileS) (hx : aget S.files name = some f) :
    Calls Tryz.prog 23 #[.pointer (some ⟨d, 0, none⟩), .string name] w (ReadPost w f.bytes) := by
  have hsm : f.bytes.length ≤ 1048576 := ok.small _ (aget_mem hx)
  obtain ⟨mb, E, h, hfs, rfl⟩ := h
  have c0 : w.cell? ⟨d, 0, none⟩ = some (.map (some mb)) := by rw [cell_of_block h.head]; rfl
  have hz : ∀ w : World, (zeroValue 105).run Tryz.prog w = .ok (.pointer none) w := fun _ => by kernel_rfl
  obtain ⟨x, hxE, hxf⟩ : ∃ x, aget E name = some x ∧ x.f = f := by
    rw [← hfs, fs, aget_amap] at hx
    simpa using hx
  subst hxf
  have hlk : ∀ W, Ext w W → (Instr.lookup 69 (.map (some mb)) (.string name) false).run Tryz.prog W = .ok (.pointer (some ⟨x.fb, 0, none⟩)) W := by
    intro W hW
    have := (h.ext hW).map.lookup (P := Tryz.prog) (string_kind Tryz.underlying9) Tryz.underlying69 (.pointer none) (hz _) name false
    rw [ptrs, aget_amap, hxE] at this
    simpa only [Option.map_some, Option.getD_some, Bool.false_eq_true, if_false] using this
  have hl0 := hlk w (Ext.refl _)
  have hl1 := fun o => hlk (w.alloc o) ((Ext.refl _).alloc o)
  have hf : FileAt w x := h.files (name, x) (aget_mem hxE)
  have f0 : w.cell? ⟨x.fb, 0, none⟩ = some x.v := by rw [cell_of_block hf.head]; rfl
  obtain ⟨xa, xc, hxv⟩ := hf.row.shape
  rw [hxv] at f0
  have n0 : ∀ o, (w.alloc o).cell? ⟨d, 0, none⟩ = some (.map (some mb)) := fun o => by rw [((Ext.refl w).alloc o).cell (p := ⟨d, 0, none⟩) (block_lt h.head)]; exact c0
  have n1 : ∀ o, (w.alloc o).cell? ⟨x.fb, 0, none⟩ = some (.slice xa x.f.bytes.length xc) := fun o => by rw [((Ext.refl w).alloc o).cell (p := ⟨x.fb, 0, none⟩) (block_lt hf.head)]; exact f0
  have Hf := Lib.hid hf; have Hxv := Lib.hid hxv
  clear hx hxE hlk hf hxv
  obtain ⟨i0, hi, hz0, hz1, hz2⟩ := info_parts info_u8
  have hemp : Row (w.alloc (.cells #[] 5)) 5 1 (.slice (some ⟨w.heap.size, 0, none⟩) 0 0) 0 [] :=
    ⟨rfl, .inr ⟨w.heap.size, 0, #[], rfl, Nat.zero_le _, heap_alloc_new w _, Nat.le_refl _, by unfold maxLen; omega, rfl, rfl⟩⟩
  obtain ⟨v', w3, happ, hrow3, hchg3, hloc⟩ := append_any (P := Tryz.prog) (w.alloc (.cells #[] 5)) 56 56 5 i0 (.int .u8 0) 1 1 Tryz.underlying56 hi hz0 hz1 hz2 rfl (by decide) hemp ((Hf.out.row.src (u8s_one _)).ext ((Ext.refl _).alloc _)) (by unfold maxLen; omega) (by omega)
  rw [Hxv.out] at happ
  simp only [Nat.zero_add, List.nil_append] at hrow3
  have hfin : ReadPost w x.f.bytes (.returned (.tuple #[v', .int .i64 0])) w3 := by
    refine ⟨v', rfl, hrow3, fun g hg => ?_, Chg.ext (S := fun _ => False) ((Chg.of_ext ((Ext.refl w).alloc _)).trans hchg3 (fun i hi e => by simp [Value.ownBlock] at e; omega)) (fun _ _ => id)⟩
    rcases hloc with e | e <;> rw [e] at hg <;> simp [Value.ownBlock] at hg <;> omega
  have Hfin := Lib.hid hfin
  clear hfin hrow3 hchg3 hloc hemp hsm hz hi hz0 hz1 hz2
  go_enter Tryz.func23, Tryz.ntmps23
  go_wp2_with (first
    | (go_at_call 22; refine (disk_none c0).mono ?_; rintro e w' ⟨rfl, rfl⟩)
    | (at_builtin; refine wpList_append_run rfl _ _ _ rfl _ _ _ w3 rfl rfl happ ?_))
  go_ret2
  exact Hfin.out

end Go.Proofs.YtgdgjnecgelalaaGreatDoor
