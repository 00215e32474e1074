/- Contracts of disk's Delete, Sync, Rename. -/
import Derived.Test.YtcmolfhjkkfedaaDiskD
namespace Go.Proofs.Ytcmolfhjkkfedaa
open Go.RowKit Go.Sort

theorem cf_delete1 (a b c : Value) : ∀ W : World, (callFunc 36 (#[a] ++ #[b, c])).run Try.prog W = .ok (.enter 36 (#[a] ++ #[b, c])) W := by
  intro W; simp [go_sem]
theorem cf_sync1 (a : Value) : ∀ W : World, (callFunc 32 (#[a] ++ #[])).run Try.prog W = .ok (.enter 32 (#[a] ++ #[])) W := by
  intro W; simp [go_sem]

/-- A disk without a file. -/
def DiskS.drop (S : DiskS) (name : ByteArray) : DiskS :=
  match aget S.files name with
  | none => S
  | some f => { S with files := adel S.files name, used := S.used - f.bytes.length }
def DiskS.delete (S : DiskS) (name : ByteArray) : Int × DiskS := S.onFile [name] name (S.drop name)
/-- A file synced. -/
def DiskS.synced (S : DiskS) (name : ByteArray) : DiskS :=
  match aget S.files name with
  | none => S
  | some f => { S with files := aput S.files name ⟨f.bytes, f.bytes.length, true⟩ }
def DiskS.sync (S : DiskS) (name : ByteArray) : Int × DiskS := S.onFile [name] name (S.synced name)

theorem one_name {w : World} {b : Nat} {name : ByteArray} (h : w.cell? ⟨b, 0, none⟩ = some (.string name)) : Src w 1 (.slice (some ⟨b, 0, none⟩) [name].length 1) [name].length (strs [name]) := by
  refine .inr ⟨_, _, rfl, rfl, fun j u hj => ?_, ?_⟩
  · match j, hj with
    | 0, hj =>
      simp [strs] at hj; subst hj
      have e : (⟨b, 0, none⟩ : Addr).add 0 = ⟨b, 0, none⟩ := by unfold Addr.add; split <;> simp_all
      rw [e]; exact h
    | j + 1, hj => simp [strs] at hj
  · intro u hu
    simp [strs] at hu; subst hu; rfl

theorem drop_same (S : DiskS) (name : ByteArray) : (S.drop name).room = S.room ∧ (S.drop name).left = S.left ∧ (S.drop name).ops = S.ops := by
  unfold DiskS.drop; split <;> simp
theorem synced_same (S : DiskS) (name : ByteArray) : (S.synced name).room = S.room ∧ (S.synced name).left = S.left ∧ (S.synced name).ops = S.ops := by
  unfold DiskS.synced; split <;> simp

set_option maxHeartbeats 2000000 in
theorem delete1_any {W : World} {d mb : Nat} {E : List (ByteArray × FileX)} {S : DiskS} (ok : S.Ok) (h : DiskRep W d mb E S.room S.used S.left S.ops) (hfs : fs E = S.files) (dd nn : Nat) (name : ByteArray) (x : FileX) (hx : aget E name = some x)
    (hd : W.cell? ⟨dd, 0, none⟩ = some (.pointer (some ⟨d, 0, none⟩))) (hn : W.cell? ⟨nn, 0, none⟩ = some (.string name)) :
    Calls Try.prog 36 #[.pointer (some ⟨x.fb, 0, none⟩), .pointer (some ⟨dd, 0, none⟩), .pointer (some ⟨nn, 0, none⟩)] W fun e w' => e = .returned (.tuple #[]) ∧ RepTo W d mb E (S.drop name) w' := by
  have hx' : aget S.files name = some x.f := by rw [← hfs, fs, aget_amap, hx]; rfl
  have hsm : x.f.bytes.length ≤ 1048576 := ok.small _ (aget_mem hx')
  have hdr : S.drop name = { S with files := adel S.files name, used := S.used - x.f.bytes.length } := by simp [DiskS.drop, hx']
  have hcon := drop_some h name x hx hsm (by have := ok.used1; have := ok.room1; omega) ok.used0
  have Hcon := Lib.hid hcon; have H := Lib.hid h; have Hfs := Lib.hid hfs
  rw [hdr]
  clear hcon h hfs hx hx' hsm hdr
  go_enter Try.func36, Try.ntmps36
  go_wp2_with fail
  refine Hcon.out.mono ?_
  rintro e w' ⟨rfl, r1, r2⟩
  have R1 := Lib.hid r1; have R2 := Lib.hid r2; clear r1 r2
  go_wp2_with fail
  go_end0
  refine ⟨rfl, adel E name, R1.out, ?_, R2.out.mono (fun i hi e => ?_), fun b hb => .inl ((foot_sub (adel_sub E name)).subset hb)⟩
  · show fs _ = adel S.files name
    rw [← Hfs.out]; exact (adel_amap _ E name).symm
  · rcases e with e | e <;> rw [e] <;> simp [foot]

set_option maxHeartbeats 2000000 in
theorem disk_delete {w : World} {d : Nat} {S : DiskS} {B : List Nat} (ok : S.Ok) (hops : S.ops < 4611686018427387904) (h : DiskAt w d S B) (name : ByteArray) (hname : name.size ≤ maxLen) :
    Calls Try.prog 11 #[.pointer (some ⟨d, 0, none⟩), .string name] w fun e w' => e = .returned (.int .i64 (S.delete name).1) ∧ DiskTo w d B (S.delete name).2 w' := by
  obtain ⟨mb, E, hrep, hfs, rfl⟩ := h
  have Hrep := Lib.hid hrep; have Hfs := Lib.hid hfs
  clear hrep hfs
  go_enter Try.func11, Try.ntmps11
  go_wp2_with fail
  generalize hW : World.alloc _ _ = W
  have hx : Ext w W := by subst hW; exact (((Ext.refl w).alloc _).alloc _).alloc _
  have q1 : W.cell? ⟨w.heap.size, 0, none⟩ = some (.pointer (some ⟨d, 0, none⟩)) := by subst hW; simp [go_sem]
  have q2 : W.cell? ⟨w.heap.size + 1, 0, none⟩ = some (.string name) := by subst hW; simp [go_sem]
  have q3 : W.cell? ⟨w.heap.size + 1 + 1, 0, none⟩ = some (.string name) := by subst hW; simp [go_sem]
  clear hW
  have l1 := World.block_lt_of_cell? W _ q1
  have l2 := World.block_lt_of_cell? W _ q2
  have hcon := with_any ok hops (Hrep.out.ext hx) Hfs.out (drop_same S name) [name] name rfl (w.heap.size + 1 + 1) 1 (one_name q3) (by simpa using hname) (by simp) 36 #[.pointer (some ⟨w.heap.size, 0, none⟩), .pointer (some ⟨w.heap.size + 1, 0, none⟩)] (fun a => cf_delete1 a _ _)
    (fun x V hx' hV => delete1_any ok ((Hrep.out.ext hx).ext hV) Hfs.out w.heap.size (w.heap.size + 1) name x hx' (by rw [hV.cell l1]; exact q1) (by rw [hV.cell l2]; exact q2))
  refine hcon.mono ?_
  rintro e w' ⟨rfl, hto⟩
  have Hto := Lib.hid (DiskTo.pre hx hto)
  clear hto hcon q1 q2 q3 l1 l2
  go_wp2_with fail
  go_ret
  exact ⟨rfl, Hto.out⟩

set_option maxHeartbeats 2000000 in
theorem sync1_any {W : World} {d mb : Nat} {E : List (ByteArray × FileX)} {S : DiskS} (h : DiskRep W d mb E S.room S.used S.left S.ops) (hfs : fs E = S.files) (name : ByteArray) (x : FileX) (hx : aget E name = some x) :
    Calls Try.prog 32 #[.pointer (some ⟨x.fb, 0, none⟩)] W fun e w' => e = .returned (.tuple #[]) ∧ RepTo W d mb E (S.synced name) w' := by
  have hx' : aget S.files name = some x.f := by rw [← hfs, fs, aget_amap, hx]; rfl
  have hdr : S.synced name = { S with files := aput S.files name ⟨x.f.bytes, x.f.bytes.length, true⟩ } := by simp [DiskS.synced, hx']
  have hf : FileAt W x := h.files (name, x) (aget_mem hx)
  have f0 : W.cell? ⟨x.fb, 0, none⟩ = some x.v := by rw [cell_of_block hf.head]; rfl
  have f1 : W.cell? ⟨x.fb, 1, none⟩ = some (.int .i64 x.f.lasts) := by rw [cell_of_block hf.head]; rfl
  have f2 : W.cell? ⟨x.fb, 2, none⟩ = some (.bool x.f.synced) := by rw [cell_of_block hf.head]; rfl
  have z1 : W.frozen? ⟨x.fb, 1, none⟩ = false := free_of_block hf.head 1
  have z2 : W.frozen? ⟨x.fb, 2, none⟩ = false := free_of_block hf.head 2
  obtain ⟨xa, xc, hxv⟩ := hf.row.shape
  rw [hxv] at f0
  have H := Lib.hid h; have Hfs := Lib.hid hfs; have Hx := Lib.hid hx; have Hf := Lib.hid hf
  rw [hdr]
  clear h hfs hx hx' hdr hf hxv
  go_enter Try.func32, Try.ntmps32
  go_wp2_with fail
  go_end0
  have hch : Chg (· = x.fb) W ((W.setCell ⟨x.fb, 1, none⟩ (.int .i64 x.f.bytes.length)).setCell ⟨x.fb, 2, none⟩ (.bool true)) := (setCell_chg _ _ _ _).trans (setCell_chg _ _ _ _) (fun _ _ e => e)
  have hne : x.v.ownBlock ≠ some x.fb ∧ x.fb ≠ d := by
    have h := H.out
    have hx := Hx.out
    obtain ⟨E1, E2, rfl, _⟩ := aget_split hx
    obtain ⟨_, _, r3, r4⟩ := h.rest
    exact ⟨blocks_nodup.1 r3, fun e => r4 x.fb (by simp [FileX.blocks]) (by simp [footR, e])⟩
  have hT := DiskRep.turn (x' := ⟨x.fb, x.v, ⟨x.f.bytes, x.f.bytes.length, true⟩⟩) H.out Hx.out hch (fun b hb => .inr (by rw [hb]; simp [FileX.blocks]))
    (by rw [hch.block d (block_lt H.out.head) (Ne.symm hne.2)]; exact H.out.head)
    ⟨setCell_block (setCell_block Hf.out.head _) _, Hf.out.row.chg hch (fun g hg e => by subst e; exact hne.1 hg)⟩ rfl (.inl rfl)
  refine ⟨rfl, _, hT.1, ?_, hch.mono (fun i hi e => ?_), hT.2⟩
  · show fs _ = aput S.files name ⟨x.f.bytes, x.f.bytes.length, true⟩
    rw [← Hfs.out, fs, fs]; exact (aput_amap (fun x : FileX => x.f) E name ⟨x.fb, x.v, ⟨x.f.bytes, x.f.bytes.length, true⟩⟩).symm
  · rw [e]
    obtain ⟨E1, E2, hE, _⟩ := aget_split Hx.out
    rw [hE, (foot_perm d mb E1 E2 name x).mem_iff]; simp [FileX.blocks]

set_option maxHeartbeats 2000000 in
theorem disk_sync {w : World} {d : Nat} {S : DiskS} {B : List Nat} (ok : S.Ok) (hops : S.ops < 4611686018427387904) (h : DiskAt w d S B) (name : ByteArray) (hname : name.size ≤ maxLen) :
    Calls Try.prog 8 #[.pointer (some ⟨d, 0, none⟩), .string name] w fun e w' => e = .returned (.int .i64 (S.sync name).1) ∧ DiskTo w d B (S.sync name).2 w' := by
  obtain ⟨mb, E, hrep, hfs, rfl⟩ := h
  have Hrep := Lib.hid hrep; have Hfs := Lib.hid hfs
  clear hrep hfs
  go_enter Try.func8, Try.ntmps8
  go_wp2_with fail
  generalize hW : World.alloc _ _ = W
  have hx : Ext w W := by subst hW; exact (Ext.refl w).alloc _
  have q3 : W.cell? ⟨w.heap.size, 0, none⟩ = some (.string name) := by subst hW; simp [go_sem]
  clear hW
  have hcon := with_any ok hops (Hrep.out.ext hx) Hfs.out (synced_same S name) [name] name rfl w.heap.size 1 (one_name q3) (by simpa using hname) (by simp) 32 #[] (fun a => cf_sync1 a)
    (fun x V hx' hV => sync1_any ((Hrep.out.ext hx).ext hV) Hfs.out name x hx')
  refine hcon.mono ?_
  rintro e w' ⟨rfl, hto⟩
  have Hto := Lib.hid (DiskTo.pre hx hto)
  clear hto hcon q3
  go_wp2_with fail
  go_ret
  exact ⟨rfl, Hto.out⟩

end Go.Proofs.Ytcmolfhjkkfedaa
