/- Contracts of disk's New, Used, Ops, Cut, Read. -/
import Derived.Test.YtfablbhkmddnbaaDoorDiskS
namespace Go.Proofs.YtfablbhkmddnbaaDoor
open Go.RowKit Go.Sort

def newDisk (room : Int) : DiskS := ⟨[], room, 0, -1, 0⟩

theorem newDisk_ok {room : Int} (h0 : 0 ≤ room) (h1 : room ≤ 1073741824) : (newDisk room).Ok :=
  ⟨h0, h1, Int.le_refl _, h0, by simp [newDisk], by simp [newDisk], Int.le_refl _, by simp [newDisk], by simp [newDisk], by simp [newDisk], by simp [newDisk]⟩

set_option maxHeartbeats 1000000 in
theorem disk_new {room : Int} (h0 : 0 ≤ room) (h1 : room ≤ 1073741824) (w : World) :
    Calls Tryd.prog 8 #[.int .i64 room] w fun e w' => e = .returned (.tuple #[.pointer (some ⟨w.heap.size + 1, 0, none⟩), .int .i64 0]) ∧ DiskAt w' (w.heap.size + 1) (newDisk room) [w.heap.size + 1, w.heap.size] ∧ Ext w w' := by
  have hmm := @run_makeMap Tryd.prog
  have g0 : ¬ room < 0 := by omega
  have g1 : ¬ 1073741824 < room := by omega
  go_enter Tryd.func8, Tryd.ntmps8
  go_wp2
  go_ret2
  refine ⟨by simp, ⟨w.heap.size, [], ⟨?_, ?_, by simp, by simp [foot], by simp⟩, rfl, rfl⟩, ((Ext.refl _).alloc _).alloc _⟩
  · have := heap_alloc_new (w.alloc (.map #[] 0)) (.cells #[.map (some w.heap.size), .int .i64 room, .int .i64 0, .int .i64 (-1), .int .i64 0] 49 (0, 0))
    simpa [newDisk] using this
  · exact (MapIs.new w).ext ((Ext.refl _).alloc _)

set_option maxHeartbeats 1000000 in
theorem disk_new_bad {room : Int} (h : room < 0 ∨ 1073741824 < room) (w : World) :
    Calls Tryd.prog 8 #[.int .i64 room] w fun e w' => e = .returned (.tuple #[.pointer none, .int .i64 2]) ∧ w = w' := by
  by_cases g : room < 0
  · go_enter Tryd.func8, Tryd.ntmps8
    go_wp2
    go_ret2
    exact ⟨rfl, rfl⟩
  · have g1 : 1073741824 < room := by omega
    clear h
    go_enter Tryd.func8, Tryd.ntmps8
    go_wp2
    go_ret2
    exact ⟨rfl, rfl⟩

def DiskS.cut (S : DiskS) (n : Int) : DiskS := { S with left := max n (-1) }

theorem head_rep {w w2 : World} {d mb : Nat} {E : List (ByteArray × FileX)} {room used left ops room2 used2 left2 ops2 : Int} (h : DiskRep w d mb E room used left ops) (hc : Chg (· = d) w w2)
    (hh : w2.heap[d]? = some (.cells #[.map (some mb), .int .i64 room2, .int .i64 used2, .int .i64 left2, .int .i64 ops2] 49 (0, 0))) : DiskRep w2 d mb E room2 used2 left2 ops2 := by
  have hap := h.apart
  simp only [foot, List.nodup_cons, List.mem_cons, not_or] at hap
  refine ⟨hh, h.map.chg hc (Ne.symm hap.1.1), fun p hp => (h.files p hp).chg hc (fun b hb e => ?_), h.apart, h.names⟩
  subst e
  exact hap.1.2 (List.mem_flatMap.2 ⟨p, hp, hb⟩)

set_option maxHeartbeats 1000000 in
theorem disk_cut {w : World} {d : Nat} {S : DiskS} {B : List Nat} (h : DiskAt w d S B) (n : Int) :
    Calls Tryd.prog 18 #[.pointer (some ⟨d, 0, none⟩), .int .i64 n] w fun e w' => e = .returned (.tuple #[]) ∧ DiskTo w d B (S.cut n) w' := by
  obtain ⟨mb, E, h, hfs, rfl⟩ := h
  have c0 : w.cell? ⟨d, 0, none⟩ = some (.map (some mb)) := by rw [cell_of_block h.head]; rfl
  have c3 : w.cell? ⟨d, 3, none⟩ = some (.int .i64 S.left) := by rw [cell_of_block h.head]; rfl
  have f3 : w.frozen? ⟨d, 3, none⟩ = false := free_of_block h.head 3
  have H := Lib.hid h; clear h
  by_cases hn : n < -1
  · have Hm := Lib.hid (show S.cut n = { S with left := -1 } by simp only [DiskS.cut]; congr 1; omega)
    go_enter Tryd.func18, Tryd.ntmps18
    go_wp2_with (go_at_call 26; refine (disk_none c0).mono ?_; rintro e w' ⟨rfl, rfl⟩)
    go_end0
    rw [Hm.out]
    exact ⟨rfl, foot d mb E, ⟨mb, E, head_rep H.out (setCell_chg _ _ _ _) (setCell_block H.out.head _), hfs, rfl⟩, (setCell_chg _ _ _ _).mono (fun i hi e => by rw [e]; simp [foot]), fun b hb => .inl hb⟩
  · have Hm := Lib.hid (show S.cut n = { S with left := n } by simp only [DiskS.cut]; congr 1; omega)
    go_enter Tryd.func18, Tryd.ntmps18
    go_wp2_with (go_at_call 26; refine (disk_none c0).mono ?_; rintro e w' ⟨rfl, rfl⟩)
    go_end0
    rw [Hm.out]
    exact ⟨rfl, foot d mb E, ⟨mb, E, head_rep H.out (setCell_chg _ _ _ _) (setCell_block H.out.head _), hfs, rfl⟩, (setCell_chg _ _ _ _).mono (fun i hi e => by rw [e]; simp [foot]), fun b hb => .inl hb⟩

/-- A slice of bytes that is new. -/
def NewBytes (w w' : World) (v : Value) (l : List UInt8) : Prop := Row w' 5 1 v l.length (u8s l) ∧ (∀ g, v.ownBlock = some g → w.heap.size ≤ g) ∧ Ext w w'

set_option maxHeartbeats 2000000 in
theorem disk_read_none {w : World} {d : Nat} {S : DiskS} {B : List Nat} (h : DiskAt w d S B) (name : ByteArray) (hx : aget S.files name = none) :
    Calls Tryd.prog 19 #[.pointer (some ⟨d, 0, none⟩), .string name] w fun e w' => e = .returned (.tuple #[.slice none 0 0, .int .i64 13]) ∧ w = w' := by
  obtain ⟨mb, E, h, hfs, rfl⟩ := h
  have c0 : w.cell? ⟨d, 0, none⟩ = some (.map (some mb)) := by rw [cell_of_block h.head]; rfl
  have hz : ∀ w : World, (zeroValue 60).run Tryd.prog w = .ok (.pointer none) w := fun _ => by kernel_rfl
  have hxE : aget E name = none := by
    rw [← hfs, fs, aget_amap] at hx
    simpa using hx
  have hlk : (Instr.lookup 47 (.map (some mb)) (.string name) false).run Tryd.prog w = .ok (.pointer none) w := by
    have := h.map.lookup (P := Tryd.prog) (string_kind Tryd.underlying9) Tryd.underlying47 (.pointer none) (hz _) name false
    rw [ptrs, aget_amap, hxE] at this
    simpa only [Option.map_none, Option.getD_none, Bool.false_eq_true, if_false] using this
  clear hx hxE
  go_enter Tryd.func19, Tryd.ntmps19
  go_wp2_with (go_at_call 26; refine (disk_none c0).mono ?_; rintro e w' ⟨rfl, rfl⟩)
  go_ret2
  exact ⟨rfl, rfl⟩

def ReadPost (w : World) (l : List UInt8) (e : Ending) (w' : World) : Prop := ∃ v, e = .returned (.tuple #[v, .int .i64 0]) ∧ NewBytes w w' v l

set_option maxHeartbeats 2000000 in
set_option maxRecDepth 100000 in
theorem disk_read_some {w : World} {d : Nat} {S : DiskS} {B : List Nat} (ok : S.Ok) (h : DiskAt w d S B) (name : ByteArray) (f : FileS) (hx : aget S.files name = some f) :
    Calls Tryd.prog 19 #[.pointer (some ⟨d, 0, none⟩), .string name] w (ReadPost w f.bytes) := by
  have hsm : f.bytes.length ≤ 1048576 := ok.small _ (aget_mem hx)
  obtain ⟨mb, E, h, hfs, rfl⟩ := h
  have c0 : w.cell? ⟨d, 0, none⟩ = some (.map (some mb)) := by rw [cell_of_block h.head]; rfl
  have hz : ∀ w : World, (zeroValue 60).run Tryd.prog w = .ok (.pointer none) w := fun _ => by kernel_rfl
  obtain ⟨x, hxE, hxf⟩ : ∃ x, aget E name = some x ∧ x.f = f := by
    rw [← hfs, fs, aget_amap] at hx
    simpa using hx
  subst hxf
  have hlk : ∀ W, Ext w W → (Instr.lookup 47 (.map (some mb)) (.string name) false).run Tryd.prog W = .ok (.pointer (some ⟨x.fb, 0, none⟩)) W := by
    intro W hW
    have := (h.ext hW).map.lookup (P := Tryd.prog) (string_kind Tryd.underlying9) Tryd.underlying47 (.pointer none) (hz _) name false
    rw [ptrs, aget_amap, hxE] at this
    simpa only [Option.map_some, Option.getD_some, Bool.false_eq_true, if_false] using this
  have hl0 := hlk w (Ext.refl _)
  have hl1 := fun o => hlk (w.alloc o) ((Ext.refl _).alloc o)
  have hf : FileAt w x := h.files (name, x) (aget_mem hxE)
  have f0 : w.cell? ⟨x.fb, 0, none⟩ = some x.v := by rw [cell_of_block hf.head]; rfl
  obtain ⟨xa, xc, hxv⟩ := hf.row.shape
  rw [hxv] at f0
  have n0 : ∀ o, (w.alloc o).cell? ⟨d, 0, none⟩ = some (.map (some mb)) := fun o => by rw [((Ext.refl w).alloc o).cell (p := ⟨d, 0, none⟩) (block_lt h.head)]; exact c0
  have n1 : ∀ o, (w.alloc o).cell? ⟨x.fb, 0, none⟩ = some (.slice xa x.f.bytes.length xc) := fun o => by rw [((Ext.refl w).alloc o).cell (p := ⟨x.fb, 0, none⟩) (block_lt hf.head)]; exact f0
  have Hf := Lib.hid hf; have Hxv := Lib.hid hxv
  clear hx hxE hlk hf hxv
  obtain ⟨i0, hi, hz0, hz1, hz2⟩ := info_parts info_u8
  have hemp : Row (w.alloc (.cells #[] 5)) 5 1 (.slice (some ⟨w.heap.size, 0, none⟩) 0 0) 0 [] :=
    ⟨rfl, .inr ⟨w.heap.size, 0, #[], rfl, Nat.zero_le _, heap_alloc_new w _, Nat.le_refl _, by unfold maxLen; omega, rfl, rfl⟩⟩
  obtain ⟨v', w3, happ, hrow3, hchg3, hloc⟩ := append_any (P := Tryd.prog) (w.alloc (.cells #[] 5)) 22 22 5 i0 (.int .u8 0) 1 1 Tryd.underlying22 hi hz0 hz1 hz2 rfl (by decide) hemp ((Hf.out.row.src (u8s_one _)).ext ((Ext.refl _).alloc _)) (by unfold maxLen; omega) (by omega)
  rw [Hxv.out] at happ
  simp only [Nat.zero_add, List.nil_append] at hrow3
  have hfin : ReadPost w x.f.bytes (.returned (.tuple #[v', .int .i64 0])) w3 := by
    refine ⟨v', rfl, hrow3, fun g hg => ?_, Chg.ext (S := fun _ => False) ((Chg.of_ext ((Ext.refl w).alloc _)).trans hchg3 (fun i hi e => by simp [Value.ownBlock] at e; omega)) (fun _ _ => id)⟩
    rcases hloc with e | e <;> rw [e] at hg <;> simp [Value.ownBlock] at hg <;> omega
  have Hfin := Lib.hid hfin
  clear hfin hrow3 hchg3 hloc hemp hsm hz hi hz0 hz1 hz2
  go_enter Tryd.func19, Tryd.ntmps19
  go_wp2_with (first
    | (go_at_call 26; refine (disk_none c0).mono ?_; rintro e w' ⟨rfl, rfl⟩)
    | (at_builtin; refine wpList_append_run rfl _ _ _ rfl _ _ _ w3 rfl rfl happ ?_))
  go_ret2
  exact Hfin.out

end Go.Proofs.YtfablbhkmddnbaaDoor
