/- The disk in memory: its struct, its map, its files; and plain laws on it. -/
import Derived.Test.YtcmolfhjkkfedaaU8
import Derived.Test.YtcmolfhjkkfedaaProg
import Derived.WalkKit
import Derived.KernelRfl
namespace Go.Proofs.Ytcmolfhjkkfedaa
open Go.RowKit Go.Sort

structure FileS where
  bytes : List UInt8
  lasts : Nat
  synced : Bool

/-- A file as it lies in memory: its struct's block, its slice, what it holds. -/
structure FileX where
  fb : Nat
  v : Value
  f : FileS

def FileX.blocks (x : FileX) : List Nat := x.fb :: x.v.ownBlock.toList
def ptrs (E : List (ByteArray × FileX)) : List (ByteArray × Value) := amap (fun x => .pointer (some ⟨x.fb, 0, none⟩)) E
def foot (d mb : Nat) (E : List (ByteArray × FileX)) : List Nat := d :: mb :: E.flatMap fun p => p.2.blocks

structure FileAt (w : World) (x : FileX) : Prop where
  head : w.heap[x.fb]? = some (.cells #[x.v, .int .i64 (x.f.lasts : Int), .bool x.f.synced] 63 (0, 0))
  row : Row w 5 1 x.v x.f.bytes.length (u8s x.f.bytes)

structure DiskRep (w : World) (d mb : Nat) (E : List (ByteArray × FileX)) (room used left ops : Int) : Prop where
  head : w.heap[d]? = some (.cells #[.map (some mb), .int .i64 room, .int .i64 used, .int .i64 left, .int .i64 ops] 59 (0, 0))
  map : MapIs (fun s : ByteArray => Value.string s) w mb (ptrs E)
  files : ∀ p ∈ E, FileAt w p.2
  apart : (foot d mb E).Nodup
  names : (E.map (·.1)).Nodup

theorem FileAt.chg {S : Nat → Prop} {w w' : World} {x : FileX} (h : FileAt w x) (hc : Chg S w w') (hn : ∀ b ∈ x.blocks, ¬ S b) : FileAt w' x := by
  refine ⟨?_, h.row.chg hc (fun g hg => hn g (by simp [FileX.blocks, hg]))⟩
  rw [hc.block _ (block_lt h.head) (hn _ (by simp [FileX.blocks]))]; exact h.head

theorem DiskRep.chg {S : Nat → Prop} {w w' : World} {d mb : Nat} {E : List (ByteArray × FileX)} {room used left ops : Int} (h : DiskRep w d mb E room used left ops) (hc : Chg S w w') (hn : ∀ b ∈ foot d mb E, ¬ S b) : DiskRep w' d mb E room used left ops := by
  refine ⟨?_, h.map.chg hc (hn mb (by simp [foot])), fun p hp => (h.files p hp).chg hc (fun b hb => hn b ?_), h.apart, h.names⟩
  · rw [hc.block _ (block_lt h.head) (hn d (by simp [foot]))]; exact h.head
  · simp only [foot, List.mem_cons, List.mem_flatMap]; exact .inr (.inr ⟨p, hp, hb⟩)
theorem DiskRep.ext {w w' : World} {d mb : Nat} {E : List (ByteArray × FileX)} {room used left ops : Int} (h : DiskRep w d mb E room used left ops) (hc : Ext w w') : DiskRep w' d mb E room used left ops :=
  h.chg (Chg.of_ext (S := fun _ => False) hc) (fun _ _ => id)
theorem DiskRep.foot_lt {w : World} {d mb : Nat} {E : List (ByteArray × FileX)} {room used left ops : Int} (h : DiskRep w d mb E room used left ops) : ∀ b ∈ foot d mb E, b < w.heap.size := by
  intro b hb
  simp only [foot, List.mem_cons, List.mem_flatMap] at hb
  rcases hb with rfl | rfl | ⟨p, hp, hb⟩
  · exact block_lt h.head
  · exact h.map.lt
  · have hf := h.files p hp
    simp only [FileX.blocks, List.mem_cons, Option.mem_toList] at hb
    rcases hb with rfl | hb
    · exact block_lt hf.head
    · exact hf.row.lt hb

theorem info_u8 : (Try.prog.info? 5).map (fun i => (i.zero, i.size, i.bytes)) = some (some (.int .u8 0), 1, 1) := by kernel_rfl

end Go.Proofs.Ytcmolfhjkkfedaa
