/- The disk as plain data, and the contract of Append over it. -/
import Derived.Test.YtgdgjnecgelalaaGreatDoorDiskDo
namespace Go.Proofs.YtgdgjnecgelalaaGreatDoor
open Go.RowKit Go.Sort

/-- A disk: its files by their names, how many bytes it has room for and uses, how many operations it does still (below 0: any), and did. -/
structure DiskS where
  files : List (ByteArray × FileS)
  room : Int
  used : Int
  left : Int
  ops : Int

structure DiskS.Ok (S : DiskS) : Prop where
  room0 : 0 ≤ S.room
  room1 : S.room ≤ 1073741824
  used0 : 0 ≤ S.used
  used1 : S.used ≤ S.room
  left0 : -1 ≤ S.left
  left1 : S.left ≤ 9223372036854775807
  ops0 : 0 ≤ S.ops
  small : ∀ p ∈ S.files, p.2.bytes.length ≤ 1048576
  few : S.files.length ≤ 512
  lasts : ∀ p ∈ S.files, p.2.lasts ≤ p.2.bytes.length
  names : (S.files.map (·.1)).Nodup

def DiskAt (w : World) (d : Nat) (S : DiskS) (B : List Nat) : Prop :=
  ∃ mb E, DiskRep w d mb E S.room S.used S.left S.ops ∧ fs E = S.files ∧ B = foot d mb E

theorem DiskAt.chg {T : Nat → Prop} {w w' : World} {d : Nat} {S : DiskS} {B : List Nat} (h : DiskAt w d S B) (hc : Chg T w w') (hn : ∀ b ∈ B, ¬ T b) : DiskAt w' d S B := by
  obtain ⟨mb, E, h1, h2, rfl⟩ := h
  exact ⟨mb, E, h1.chg hc hn, h2, rfl⟩
theorem DiskAt.ext {w w' : World} {d : Nat} {S : DiskS} {B : List Nat} (h : DiskAt w d S B) (hc : Ext w w') : DiskAt w' d S B :=
  h.chg (Chg.of_ext (S := fun _ => False) hc) (fun _ _ => id)
theorem DiskAt.lt {w : World} {d : Nat} {S : DiskS} {B : List Nat} (h : DiskAt w d S B) : ∀ b ∈ B, b < w.heap.size := by
  obtain ⟨mb, E, h1, h2, rfl⟩ := h
  exact h1.foot_lt

/-- What a call on a disk leaves. -/
def DiskTo (w : World) (d : Nat) (B : List Nat) (S' : DiskS) (w' : World) : Prop :=
  ∃ B', DiskAt w' d S' B' ∧ Chg (· ∈ B) w w' ∧ ∀ b ∈ B', b ∈ B ∨ w.heap.size ≤ b

theorem DiskTo.same {w w' : World} {d : Nat} {S : DiskS} {B : List Nat} (h : DiskAt w d S B) (hx : Ext w w') : DiskTo w d B S w' :=
  ⟨B, h.ext hx, Chg.of_ext hx, fun _ hb => .inl hb⟩
theorem DiskTo.trans {w w1 w2 : World} {d : Nat} {S1 S2 : DiskS} {B : List Nat} (h : DiskTo w d B S1 w1) (k : ∀ B1, DiskAt w1 d S1 B1 → DiskTo w1 d B1 S2 w2) : DiskTo w d B S2 w2 := by
  obtain ⟨B1, h1, c1, f1⟩ := h
  obtain ⟨B2, h2, c2, f2⟩ := k B1 h1
  refine ⟨B2, h2, c1.trans c2 (fun i hi hb => ?_), fun b hb => ?_⟩
  · rcases f1 i hb with h | h
    · exact h
    · omega
  · rcases f2 b hb with h | h
    · exact f1 b h
    · exact .inr (Nat.le_trans c1.size h)
/-- Behind blocks that came first. -/
theorem DiskTo.pre {w w0 w1 : World} {d : Nat} {S1 : DiskS} {B : List Nat} (hx : Ext w w0) (h : DiskTo w0 d B S1 w1) : DiskTo w d B S1 w1 := by
  obtain ⟨B1, h1, c1, f1⟩ := h
  exact ⟨B1, h1, (Chg.of_ext hx).trans c1 (fun _ _ h => h), fun b hb => (f1 b hb).imp id (fun h => Nat.le_trans hx.size h)⟩

/-- An operation that was done is counted. -/
def DiskS.count (S : DiskS) : DiskS := { S with ops := S.ops + 1, left := if 0 < S.left then S.left - 1 else S.left }

/-- What an append comes to, past the names and the cut. -/
def DiskS.put (S : DiskS) (name : ByteArray) (bl : List UInt8) : Int × DiskS :=
  if S.room - S.used < (bl.length : Int) then (15, S) else
  match aget S.files name with
  | none => if 512 ≤ S.files.length ∨ 1048576 < bl.length then (3, S) else (0, { S with files := aput S.files name ⟨bl, 0, false⟩, used := S.used + bl.length })
  | some f => if 1048576 < bl.length + f.bytes.length then (3, S) else (0, { S with files := aput S.files name { f with bytes := f.bytes ++ bl }, used := S.used + bl.length })

/-- An operation's outcome, behind the names and the cut. -/
def DiskS.doing (S : DiskS) (ns : List ByteArray) (r : Int × DiskS) : Int × DiskS :=
  match doStops ns S.left with
  | some x => (x, S)
  | none => if r.1 = 0 then (0, r.2.count) else (r.1, S)

def DiskS.append (S : DiskS) (name : ByteArray) (bl : List UInt8) : Int × DiskS := S.doing [name] (S.put name bl)

theorem Src.len_eq {w : World} {v : Value} {n : Nat} {bl : List UInt8} (hs : Src w 1 v n (u8s bl)) : n = bl.length := by
  rcases hs with ⟨_, e1, e2⟩ | ⟨_, _, _, e2, _⟩
  · have := congrArg List.length e2; rw [u8s_length] at this; rw [e1, this]; rfl
  · rw [u8s_length] at e2; omega

/-- What Append's closure comes to. -/
theorem append1_any {w : World} {d mb : Nat} {E : List (ByteArray × FileX)} {S : DiskS} (ok : S.Ok) (h : DiskRep w d mb E S.room S.used S.left S.ops) (hfs : fs E = S.files)
    (bb dd nn : Nat) (name : ByteArray) (a : Option Addr) (n c : Nat) (bl : List UInt8)
    (hb : w.cell? ⟨bb, 0, none⟩ = some (.slice a n c)) (hd : w.cell? ⟨dd, 0, none⟩ = some (.pointer (some ⟨d, 0, none⟩))) (hn : w.cell? ⟨nn, 0, none⟩ = some (.string name))
    (hs : Src w 1 (.slice a n c) n (u8s bl)) (hap : n = 0 ∨ ∀ g, (Value.slice a n c).ownBlock = some g → g ∉ foot d mb E) (hbb : bb ∉ foot d mb E) (hdd : dd ∉ foot d mb E) (hnn : nn ∉ foot d mb E) (hnm : n ≤ maxLen) :
    Calls Tryz.prog 53 #[.pointer (some ⟨bb, 0, none⟩), .pointer (some ⟨dd, 0, none⟩), .pointer (some ⟨nn, 0, none⟩)] w fun e w' =>
      e = .returned (.int .i64 (S.put name bl).1) ∧ ∃ E', DiskRep w' d mb E' S.room (S.put name bl).2.used S.left S.ops ∧ fs E' = (S.put name bl).2.files ∧ Chg (· ∈ foot d mb E) w w' ∧ ∀ b ∈ foot d mb E', b ∈ foot d mb E ∨ w.heap.size ≤ b := by
  have hl := hs.len_eq
  have hlenE : E.length = S.files.length := by rw [← hfs]; simp [fs, amap]
  by_cases hroom : S.room - S.used < (bl.length : Int)
  · have e : S.put name bl = (15, S) := by simp [DiskS.put, hroom]
    rw [e]
    refine (append1_full h bb dd nn name a n c hb hd hn ok.room1 ok.room0 ok.used0 ok.used1 hnm (by rw [hl]; exact hroom)).mono ?_
    rintro e w' ⟨rfl, hx⟩
    exact ⟨rfl, E, h.ext hx, hfs, Chg.of_ext hx, fun b hb => .inl hb⟩
  · have hroom' : (n : Int) ≤ S.room - S.used := by rw [hl]; omega
    cases hx : aget E name with
    | none =>
      have hx' : aget S.files name = none := by rw [← hfs, fs, aget_amap, hx]; rfl
      by_cases hm : 512 ≤ S.files.length ∨ 1048576 < bl.length
      · have e : S.put name bl = (3, S) := by simp only [DiskS.put, if_neg hroom, hx', if_pos hm]
        rw [e]
        refine (append1_many h bb dd nn name a n c hb hd hn ok.room1 ok.room0 ok.used0 ok.used1 hnm hroom' hx (by rw [hlenE, hl]; exact hm)).mono ?_
        rintro e w' ⟨rfl, hx⟩
        exact ⟨rfl, E, h.ext hx, hfs, Chg.of_ext hx, fun b hb => .inl hb⟩
      · have e : S.put name bl = (0, { S with files := aput S.files name ⟨bl, 0, false⟩, used := S.used + bl.length }) := by simp only [DiskS.put, if_neg hroom, hx', if_neg hm]
        rw [e]
        refine (append1_new h bb dd nn name a n c hb hd hn ok.room1 ok.room0 ok.used0 ok.used1 hnm hroom' hx (by omega) (by omega) bl hs hap hbb hdd hnn).mono ?_
        rintro e w' ⟨rfl, x', hx1, r1, r2, r3⟩
        refine ⟨rfl, _, by rw [hl] at r1; exact r1, ?_, r2, r3⟩
        show fs _ = aput S.files name ⟨bl, 0, false⟩
        rw [fs, ← aput_amap, hx1, ← hfs]; rfl
    | some x =>
      have hx' : aget S.files name = some x.f := by rw [← hfs, fs, aget_amap, hx]; rfl
      have hsm : x.f.bytes.length ≤ 1048576 := ok.small _ (aget_mem hx')
      by_cases hm : 1048576 < bl.length + x.f.bytes.length
      · have e : S.put name bl = (3, S) := by simp only [DiskS.put, if_neg hroom, hx', if_pos hm]
        rw [e]
        refine (append1_big h bb dd nn name a n c hb hd hn ok.room1 ok.room0 ok.used0 ok.used1 hnm hroom' x hx (by omega) hsm).mono ?_
        rintro e w' ⟨rfl, hx⟩
        exact ⟨rfl, E, h.ext hx, hfs, Chg.of_ext hx, fun b hb => .inl hb⟩
      · have e : S.put name bl = (0, { S with files := aput S.files name { x.f with bytes := x.f.bytes ++ bl }, used := S.used + bl.length }) := by simp only [DiskS.put, if_neg hroom, hx', if_neg hm]
        rw [e]
        refine (append1_old h bb dd nn name a n c bl hb hd hn hs hap hbb hdd hroom' ok.room1 ok.used0 x hx (by omega)).mono ?_
        rintro e w' ⟨rfl, x', hx1, r1, r2, r3⟩
        refine ⟨rfl, _, by rw [hl] at r1; exact r1, ?_, r2, r3⟩
        show fs _ = aput S.files name { x.f with bytes := x.f.bytes ++ bl }
        rw [fs, ← aput_amap, hx1, ← hfs]; rfl

end Go.Proofs.YtgdgjnecgelalaaGreatDoor

/-! The contract of disk's Append. -/

namespace Go.Proofs.YtgdgjnecgelalaaGreatDoor
open Go.RowKit Go.Sort

theorem cf_append1 (caps : Array Value) : ∀ W : World, (callFunc 53 caps).run Tryz.prog W = .ok (.enter 53 caps) W := by
  intro W
  simp [go_sem]

theorem bump_rep {w1 : World} {d mb : Nat} {E : List (ByteArray × FileX)} {room used left ops : Int} (h : DiskRep w1 d mb E room used left ops) :
    DiskRep (bump w1 d left ops) d mb E room used (if 0 < left then left - 1 else left) (ops + 1) ∧ Chg (· = d) w1 (bump w1 d left ops) := by
  have hap := h.apart
  simp only [foot, List.nodup_cons, List.mem_cons, not_or] at hap
  have key : ∀ w2 left2 ops2, Chg (· = d) w1 w2 → w2.heap[d]? = some (.cells #[.map (some mb), .int .i64 room, .int .i64 used, .int .i64 left2, .int .i64 ops2] 71 (0, 0)) → DiskRep w2 d mb E room used left2 ops2 := by
    intro w2 left2 ops2 hc hh
    refine ⟨hh, h.map.chg hc (Ne.symm hap.1.1), fun p hp => (h.files p hp).chg hc (fun b hb e => ?_), h.apart, h.names⟩
    subst e
    exact hap.1.2 (List.mem_flatMap.2 ⟨p, hp, hb⟩)
  unfold bump
  split
  · rename_i hp
    have hc : Chg (· = d) w1 ((w1.setCell ⟨d, 4, none⟩ (.int .i64 (ops + 1))).setCell ⟨d, 3, none⟩ (.int .i64 (left - 1))) := (setCell_chg _ _ _ _).trans (setCell_chg _ _ _ _) (fun _ _ e => e)
    exact ⟨key _ _ _ hc (setCell_block (setCell_block h.head _) _), hc⟩
  · exact ⟨key _ _ _ (setCell_chg _ _ _ _) (setCell_block h.head _), setCell_chg _ _ _ _⟩

theorem put_left (S : DiskS) (name : ByteArray) (bl : List UInt8) : (S.put name bl).2.room = S.room ∧ (S.put name bl).2.left = S.left ∧ (S.put name bl).2.ops = S.ops ∧ ((S.put name bl).1 ≠ 0 → (S.put name bl).2 = S) := by
  unfold DiskS.put
  split
  · simp
  · split
    · split <;> simp
    · split <;> simp

set_option maxHeartbeats 2000000 in
theorem disk_append' {w : World} {d : Nat} {S : DiskS} {B : List Nat} (ok : S.Ok) (hops : S.ops < 4611686018427387904) (h : DiskAt w d S B) (name : ByteArray) (hname : name.size ≤ maxLen) (a : Option Addr) (n c : Nat) (bl : List UInt8)
    (hs : Src w 1 (.slice a n c) n (u8s bl)) (hap : n = 0 ∨ ∀ g, (Value.slice a n c).ownBlock = some g → g ∉ B) (hnm : n ≤ maxLen) :
    Calls Tryz.prog 28 #[.pointer (some ⟨d, 0, none⟩), .string name, .slice a n c] w fun e w' =>
      e = .returned (.int .i64 (S.append name bl).1) ∧ DiskTo w d B (S.append name bl).2 w' := by
  obtain ⟨mb, E, hrep, hfs, rfl⟩ := h
  have hlt := hrep.foot_lt
  have Hrep := Lib.hid hrep; have Hfs := Lib.hid hfs; have Hs := Lib.hid hs; have Hap := Lib.hid hap; have Hlt := Lib.hid hlt
  clear hrep hfs hs hap hlt
  go_enter Tryz.func28, Tryz.ntmps28
  go_wp2_with fail
  generalize hW : World.alloc _ _ = W
  have hx : Ext w W := by subst hW; exact ((((Ext.refl w).alloc _).alloc _).alloc _).alloc _
  have q1 : W.cell? ⟨w.heap.size, 0, none⟩ = some (.pointer (some ⟨d, 0, none⟩)) := by subst hW; simp [go_sem]
  have q2 : W.cell? ⟨w.heap.size + 1, 0, none⟩ = some (.string name) := by subst hW; simp [go_sem]
  have q3 : W.cell? ⟨w.heap.size + 1 + 1, 0, none⟩ = some (.slice a n c) := by subst hW; simp [go_sem]
  have q4 : W.cell? ⟨w.heap.size + 1 + 1 + 1, 0, none⟩ = some (.string name) := by subst hW; simp [go_sem]
  clear hW
  have hrepW := Hrep.out.ext hx
  have hsrc : Src W 1 (.slice (some ⟨w.heap.size + 1 + 1 + 1, 0, none⟩) [name].length 1) [name].length (strs [name]) := by
    refine .inr ⟨_, _, rfl, rfl, fun j u hj => ?_, ?_⟩
    · match j, hj with
      | 0, hj =>
        simp [strs] at hj; subst hj
        have e : (⟨w.heap.size + 1 + 1 + 1, 0, none⟩ : Addr).add 0 = ⟨w.heap.size + 1 + 1 + 1, 0, none⟩ := by unfold Addr.add; split <;> simp_all
        rw [e]; exact q4
      | j + 1, hj => simp [strs] at hj
    · intro u hu
      simp [strs] at hu; subst hu; rfl
  have hput := put_left S name bl
  have hK := fun (_ : S.left ≠ 0) (_ : [name].all nameB = true) => (append1_any ok hrepW Hfs.out (w.heap.size + 1 + 1) w.heap.size (w.heap.size + 1) name a n c bl q3 q1 q2 (Hs.out.ext hx) Hap.out (fun hb => by have := Hlt.out _ hb; omega) (fun hb => by have := Hlt.out _ hb; omega) (fun hb => by have := Hlt.out _ hb; omega) hnm).mono (R' := fun e w' => e = .returned (.int .i64 (S.put name bl).1) ∧ (∃ E', DiskRep w' d mb E' S.room (S.put name bl).2.used S.left S.ops ∧ fs E' = (S.put name bl).2.files ∧ Chg (· ∈ foot d mb E) W w' ∧ ∀ b ∈ foot d mb E', b ∈ foot d mb E ∨ W.heap.size ≤ b) ∧ ((S.put name bl).1 = 0 → ∃ used', w'.heap[d]? = some (.cells #[.map (some mb), .int .i64 S.room, .int .i64 used', .int .i64 S.left, .int .i64 S.ops] 71 (0, 0))))
    (fun e w' ⟨he, E', r1, r2⟩ => ⟨he, ⟨E', r1, r2⟩, fun _ => ⟨_, r1.head⟩⟩)
  refine (do_any hrepW.head (w.heap.size + 1 + 1 + 1) 1 [name] hsrc (by simpa using hname) (by simp) ok.ops0 hops ok.left0 ok.left1 53 _ (cf_append1 _) (S.put name bl).1 _ hK).mono ?_
  clear hK hsrc q1 q2 q3 q4
  intro e w' hpost
  have hres : ∃ r : Int, e = .returned (.int .i64 r) ∧ r = (S.append name bl).1 ∧ DiskTo w d (foot d mb E) (S.append name bl).2 w' := by
    unfold DoPost at hpost
    unfold DiskS.append DiskS.doing
    split at hpost
    · rename_i x hx'
      obtain ⟨rfl, rfl⟩ := hpost
      rw [hx']
      exact ⟨x, rfl, rfl, DiskTo.same ⟨mb, E, Hrep.out, Hfs.out, rfl⟩ hx⟩
    · rename_i hx'
      obtain ⟨rfl, hh⟩ := hpost
      rw [hx']
      rcases hh with ⟨he, E', r1, r2, r3, r4⟩ | ⟨he, w1, ⟨E', r1, r2, r3, r4⟩, rfl⟩
      · rw [if_neg he]
        refine ⟨_, rfl, rfl, DiskTo.pre hx ⟨foot d mb E', ⟨mb, E', ?_, ?_, rfl⟩, r3, r4⟩⟩
        · have := hput.2.2.2 he; rw [this] at r1; exact r1
        · have := hput.2.2.2 he; rw [this] at r2; exact r2
      · rw [if_pos he]
        obtain ⟨g1, g2⟩ := bump_rep r1
        refine ⟨_, rfl, he, DiskTo.pre hx ⟨foot d mb E', ⟨mb, E', ?_, r2, rfl⟩, r3.trans g2 (fun i hi e => by rw [e]; simp [foot]), r4⟩⟩
        simp only [DiskS.count, hput.1, hput.2.1, hput.2.2.1]
        exact g1
  obtain ⟨r, rfl, hr, hto⟩ := hres
  go_wp2_with fail
  go_ret
  exact ⟨by rw [← hr]; rfl, hto⟩

theorem disk_append {w : World} {d : Nat} {S : DiskS} {B : List Nat} (ok : S.Ok) (hops : S.ops < 4611686018427387904) (h : DiskAt w d S B) (name : ByteArray) (hname : name.size ≤ maxLen) (a : Option Addr) (n c : Nat) (bl : List UInt8)
    (hs : Src w 1 (.slice a n c) n (u8s bl)) (hap : ∀ g, (Value.slice a n c).ownBlock = some g → g ∉ B) (hnm : n ≤ maxLen) :
    Calls Tryz.prog 28 #[.pointer (some ⟨d, 0, none⟩), .string name, .slice a n c] w fun e w' =>
      e = .returned (.int .i64 (S.append name bl).1) ∧ DiskTo w d B (S.append name bl).2 w' := disk_append' ok hops h name hname a n c bl hs (.inr hap) hnm
end Go.Proofs.YtgdgjnecgelalaaGreatDoor

/-! Contracts of disk's with and its closure. -/

namespace Go.Proofs.YtgdgjnecgelalaaGreatDoor
open Go.RowKit Go.Sort

/-- What a call leaves of a disk in memory. -/
def RepTo (W : World) (d mb : Nat) (E : List (ByteArray × FileX)) (S' : DiskS) (w' : World) : Prop :=
  ∃ E', DiskRep w' d mb E' S'.room S'.used S'.left S'.ops ∧ fs E' = S'.files ∧ Chg (· ∈ foot d mb E) W w' ∧ ∀ b ∈ foot d mb E', b ∈ foot d mb E ∨ W.heap.size ≤ b

def With1Post (E : List (ByteArray × FileX)) (d mb : Nat) (S S' : DiskS) (name : ByteArray) (w : World) (e : Ending) (w' : World) : Prop :=
  match aget E name with
  | none => e = .returned (.int .i64 13) ∧ Ext w w'
  | some _ => e = .returned (.int .i64 0) ∧ RepTo w d mb E S' w'

set_option maxHeartbeats 2000000 in
theorem with1_any {w : World} {d mb : Nat} {E : List (ByteArray × FileX)} {S S' : DiskS} (h : DiskRep w d mb E S.room S.used S.left S.ops)
    (dd nn wb nb nc N : Nat) (name : ByteArray) (K : Nat) (caps : Array Value)
    (hd : w.cell? ⟨dd, 0, none⟩ = some (.pointer (some ⟨d, 0, none⟩))) (hn : w.cell? ⟨nn, 0, none⟩ = some (.slice (some ⟨nb, 0, none⟩) N nc)) (hN : 0 < N) (hn0 : w.cell? ⟨nb, 0, none⟩ = some (.string name)) (hwb : w.cell? ⟨wb, 0, none⟩ = some (.func (.func K) #[] caps))
    (hcf : ∀ (a : Value) (W : World), (callFunc K (#[a] ++ caps)).run Tryz.prog W = .ok (.enter K (#[a] ++ caps)) W)
    (hK : ∀ x W, aget E name = some x → Ext w W → Calls Tryz.prog K (#[.pointer (some ⟨x.fb, 0, none⟩)] ++ caps) W fun e w' => e = .returned (.tuple #[]) ∧ RepTo W d mb E S' w') :
    Calls Tryz.prog 87 #[.pointer (some ⟨dd, 0, none⟩), .pointer (some ⟨nn, 0, none⟩), .pointer (some ⟨wb, 0, none⟩)] w (With1Post E d mb S S' name w) := by
  have c0 : w.cell? ⟨d, 0, none⟩ = some (.map (some mb)) := by rw [cell_of_block h.head]; rfl
  have hz : ∀ w : World, (zeroValue 105).run Tryz.prog w = .ok (.pointer none) w := fun _ => by kernel_rfl
  have hN' : (0 : Int) < (N : Int) := by omega
  cases hx : aget E name with
  | none =>
    have hlk : ∀ k, (Instr.lookup 69 (.map (some mb)) (.string name) false).run Tryz.prog (w.drewN k) = .ok (.pointer none) (w.drewN k) := by
      intro k
      have := (h.ext (Ext.drewN w k)).map.lookup (P := Tryz.prog) (string_kind Tryz.underlying9) Tryz.underlying69 (.pointer none) (hz _) name false
      rw [ptrs, aget_amap, hx] at this
      simpa only [Option.map_none, Option.getD_none, Bool.false_eq_true, if_false] using this
    have Hx := Lib.hid hx
    clear hx hK hcf hz
    go_enter Tryz.func87, Tryz.ntmps87
    go_wp2_with fail
    go_quiet (fail)
    go_wp2_with fail
    go_ret
    unfold With1Post
    rw [Hx.out]
    exact ⟨rfl, Ext.drewN _ _⟩
  | some x =>
    have hlk : ∀ k, (Instr.lookup 69 (.map (some mb)) (.string name) false).run Tryz.prog (w.drewN k) = .ok (.pointer (some ⟨x.fb, 0, none⟩)) (w.drewN k) := by
      intro k
      have := (h.ext (Ext.drewN w k)).map.lookup (P := Tryz.prog) (string_kind Tryz.underlying9) Tryz.underlying69 (.pointer none) (hz _) name false
      rw [ptrs, aget_amap, hx] at this
      simpa only [Option.map_some, Option.getD_some, Bool.false_eq_true, if_false] using this
    have hcf' := fun W => hcf (.pointer (some ⟨x.fb, 0, none⟩)) W
    have HK := Lib.hid (fun W => hK x W hx); have Hx := Lib.hid hx
    clear hx hK hcf hz
    go_enter Tryz.func87, Tryz.ntmps87
    go_wp2_with fail
    go_quiet (fail)
    go_wp2_with fail
    refine (HK.out _ (Ext.drewN _ _)).mono ?_
    rintro e w' ⟨rfl, hto⟩
    have Hto := Lib.hid hto; clear hto
    go_wp2_with fail
    go_ret
    unfold With1Post
    rw [Hx.out]
    obtain ⟨E', r1, r2, r3, r4⟩ := Hto.out
    exact ⟨rfl, E', r1, r2, (Chg.of_ext (Ext.drewN _ _)).trans r3 (fun _ _ h => h), r4⟩

theorem cf_with1 (caps : Array Value) : ∀ W : World, (callFunc 87 caps).run Tryz.prog W = .ok (.enter 87 caps) W := by
  intro W
  simp [go_sem]

/-- An operation on a file that must be there. -/
def DiskS.onFile (S : DiskS) (ns : List ByteArray) (name : ByteArray) (S' : DiskS) : Int × DiskS :=
  S.doing ns (match aget S.files name with | none => (13, S) | some _ => (0, S'))

set_option maxHeartbeats 2000000 in
theorem with_any {w : World} {d mb : Nat} {E : List (ByteArray × FileX)} {S S' : DiskS} (ok : S.Ok) (hops : S.ops < 4611686018427387904) (h : DiskRep w d mb E S.room S.used S.left S.ops) (hfs : fs E = S.files)
    (hS' : S'.room = S.room ∧ S'.left = S.left ∧ S'.ops = S.ops) (ns : List ByteArray) (name : ByteArray) (hname : ns[0]? = some name) (nb nc : Nat) (hn : Src w 1 (.slice (some ⟨nb, 0, none⟩) ns.length nc) ns.length (strs ns)) (hl : ∀ s ∈ ns, s.size ≤ maxLen) (hfew : ns.length ≤ 10)
    (K : Nat) (caps : Array Value)
    (hcf : ∀ (a : Value) (W : World), (callFunc K (#[a] ++ caps)).run Tryz.prog W = .ok (.enter K (#[a] ++ caps)) W)
    (hK : ∀ x W, aget E name = some x → Ext w W → Calls Tryz.prog K (#[.pointer (some ⟨x.fb, 0, none⟩)] ++ caps) W fun e w' => e = .returned (.tuple #[]) ∧ RepTo W d mb E S' w') :
    Calls Tryz.prog 49 #[.pointer (some ⟨d, 0, none⟩), .slice (some ⟨nb, 0, none⟩) ns.length nc, .func (.func K) #[] caps] w fun e w' =>
      e = .returned (.int .i64 (S.onFile ns name S').1) ∧ DiskTo w d (foot d mb E) (S.onFile ns name S').2 w' := by
  have Hrep := Lib.hid h; have Hfs := Lib.hid hfs; have Hn := Lib.hid hn; have Hl := Lib.hid hl; have HK := Lib.hid hK; have Hcf := Lib.hid hcf; have Hname := Lib.hid hname
  clear h hfs hn hl hK hcf hname
  obtain ⟨N, hN⟩ : ∃ N, N = ns.length := ⟨_, rfl⟩
  rw [← hN]
  have HN := Lib.hid hN; clear hN
  go_enter Tryz.func49, Tryz.ntmps49
  go_wp2_with fail
  generalize hW : World.alloc _ _ = W
  have hx : Ext w W := by subst hW; exact (((Ext.refl w).alloc _).alloc _).alloc _
  have q1 : W.cell? ⟨w.heap.size, 0, none⟩ = some (.pointer (some ⟨d, 0, none⟩)) := by subst hW; simp [go_sem]
  have q2 : W.cell? ⟨w.heap.size + 1, 0, none⟩ = some (.slice (some ⟨nb, 0, none⟩) N nc) := by subst hW; simp [go_sem]
  have q3 : W.cell? ⟨w.heap.size + 1 + 1, 0, none⟩ = some (.func (.func K) #[] caps) := by subst hW; simp [go_sem]
  clear hW
  have hrepW := Hrep.out.ext hx
  have hsW := Hn.out.ext hx
  have hn0 := strs_cell hsW Hname.out
  have hNpos : 0 < N := by rw [HN.out]; exact (List.getElem?_eq_some_iff.1 Hname.out).1
  let err : Int := match aget E name with | none => 13 | some _ => 0
  let R : World → Prop := fun w' => match aget E name with | none => Ext W w' | some _ => RepTo W d mb E S' w'
  have hK := fun (_ : S.left ≠ 0) (_ : ns.all nameB = true) => (with1_any (S := S) hrepW w.heap.size (w.heap.size + 1) (w.heap.size + 1 + 1) nb nc N name K caps q1 q2 hNpos hn0 q3 Hcf.out (fun x V hx' hV => HK.out x V hx' (hx.trans hV))).mono (R' := fun e w' => e = .returned (.int .i64 err) ∧ R w' ∧ (err = 0 → ∃ used', w'.heap[d]? = some (.cells #[.map (some mb), .int .i64 S.room, .int .i64 used', .int .i64 S.left, .int .i64 S.ops] 71 (0, 0)))) (by
    intro e w' hp
    unfold With1Post at hp
    show e = .returned (.int .i64 (match aget E name with | none => 13 | some _ => 0)) ∧ (match aget E name with | none => Ext W w' | some _ => RepTo W d mb E S' w') ∧ ((match aget E name with | none => (13 : Int) | some _ => 0) = 0 → _)
    cases hc : aget E name with
    | none => rw [hc] at hp; exact ⟨hp.1, hp.2, fun h => by simp at h⟩
    | some x =>
      rw [hc] at hp
      obtain ⟨he, E', r1, r2⟩ := hp
      refine ⟨he, ⟨E', r1, r2⟩, fun _ => ⟨S'.used, ?_⟩⟩
      have := r1.head
      rw [hS'.1, hS'.2.1, hS'.2.2] at this
      exact this)
  have hsW' : Src W 1 (.slice (some ⟨nb, 0, none⟩) ns.length nc) ns.length (strs ns) := hsW
  have hdo := do_any hrepW.head nb nc ns hsW' Hl.out hfew ok.ops0 hops ok.left0 ok.left1 87 _ (cf_with1 _) err R hK
  rw [← HN.out] at hdo
  refine hdo.mono ?_
  clear hK hdo q1 q2 q3 hn0 hsW hsW'
  intro e w' hpost
  have hres : ∃ r : Int, e = .returned (.int .i64 r) ∧ r = (S.onFile ns name S').1 ∧ DiskTo w d (foot d mb E) (S.onFile ns name S').2 w' := by
    unfold DoPost at hpost
    unfold DiskS.onFile DiskS.doing
    have hSf : aget S.files name = (aget E name).map (·.f) := by rw [← Hfs.out, fs, aget_amap]
    split at hpost
    · rename_i x hx'
      obtain ⟨rfl, rfl⟩ := hpost
      rw [hx']
      exact ⟨x, rfl, rfl, DiskTo.same ⟨mb, E, Hrep.out, Hfs.out, rfl⟩ hx⟩
    · rename_i hx'
      obtain ⟨rfl, hh⟩ := hpost
      rw [hx', hSf]
      cases hc : aget E name with
      | none =>
        have e1 : err = 13 := by show (match aget E name with | none => (13 : Int) | some _ => 0) = 13; rw [hc]
        rcases hh with ⟨_, hR⟩ | ⟨he, _⟩
        · have hR' : Ext W w' := by have : (match aget E name with | none => Ext W w' | some _ => RepTo W d mb E S' w') := hR; rw [hc] at this; exact this
          exact ⟨err, rfl, by rw [e1]; rfl, DiskTo.same ⟨mb, E, Hrep.out, Hfs.out, rfl⟩ (hx.trans hR')⟩
        · rw [e1] at he; simp at he
      | some x =>
        have e1 : err = 0 := by show (match aget E name with | none => (13 : Int) | some _ => 0) = 0; rw [hc]
        rcases hh with ⟨he, _⟩ | ⟨_, w1, hR, rfl⟩
        · exact absurd e1 he
        · have hR' : RepTo W d mb E S' w1 := by have : (match aget E name with | none => Ext W w1 | some _ => RepTo W d mb E S' w1) := hR; rw [hc] at this; exact this
          obtain ⟨E', r1, r2, r3, r4⟩ := hR'
          obtain ⟨g1, g2⟩ := bump_rep r1
          rw [hS'.2.1, hS'.2.2] at g1 g2
          refine ⟨err, rfl, by rw [e1]; rfl, DiskTo.pre hx ⟨foot d mb E', ⟨mb, E', ?_, r2, rfl⟩, r3.trans g2 (fun i hi e => by rw [e]; simp [foot]), r4⟩⟩
          simp only [DiskS.count, Option.map_some, if_true, hS'.2.1, hS'.2.2]
          exact g1
  obtain ⟨r, rfl, hr, hto⟩ := hres
  go_wp2_with fail
  go_ret
  exact ⟨by rw [← hr]; rfl, hto⟩

end Go.Proofs.YtgdgjnecgelalaaGreatDoor
