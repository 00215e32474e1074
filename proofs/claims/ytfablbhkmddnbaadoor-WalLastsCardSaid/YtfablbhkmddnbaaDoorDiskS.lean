/- The disk as plain data, and the contract of Append over it. -/
import Derived.Test.YtfablbhkmddnbaaDoorDiskA3
import Derived.Test.YtfablbhkmddnbaaDoorDiskDo
namespace Go.Proofs.YtfablbhkmddnbaaDoor
open Go.RowKit Go.Sort

/-- A disk: its files by their names, how many bytes it has room for and uses, how many operations it does still (below 0: any), and did. -/
structure DiskS where
  files : List (ByteArray × FileS)
  room : Int
  used : Int
  left : Int
  ops : Int

structure DiskS.Ok (S : DiskS) : Prop where
  room0 : 0 ≤ S.room
  room1 : S.room ≤ 1073741824
  used0 : 0 ≤ S.used
  used1 : S.used ≤ S.room
  left0 : -1 ≤ S.left
  left1 : S.left ≤ 9223372036854775807
  ops0 : 0 ≤ S.ops
  small : ∀ p ∈ S.files, p.2.bytes.length ≤ 1048576
  few : S.files.length ≤ 512
  lasts : ∀ p ∈ S.files, p.2.lasts ≤ p.2.bytes.length
  names : (S.files.map (·.1)).Nodup

def DiskAt (w : World) (d : Nat) (S : DiskS) (B : List Nat) : Prop :=
  ∃ mb E, DiskRep w d mb E S.room S.used S.left S.ops ∧ fs E = S.files ∧ B = foot d mb E

theorem DiskAt.chg {T : Nat → Prop} {w w' : World} {d : Nat} {S : DiskS} {B : List Nat} (h : DiskAt w d S B) (hc : Chg T w w') (hn : ∀ b ∈ B, ¬ T b) : DiskAt w' d S B := by
  obtain ⟨mb, E, h1, h2, rfl⟩ := h
  exact ⟨mb, E, h1.chg hc hn, h2, rfl⟩
theorem DiskAt.ext {w w' : World} {d : Nat} {S : DiskS} {B : List Nat} (h : DiskAt w d S B) (hc : Ext w w') : DiskAt w' d S B :=
  h.chg (Chg.of_ext (S := fun _ => False) hc) (fun _ _ => id)
theorem DiskAt.lt {w : World} {d : Nat} {S : DiskS} {B : List Nat} (h : DiskAt w d S B) : ∀ b ∈ B, b < w.heap.size := by
  obtain ⟨mb, E, h1, h2, rfl⟩ := h
  exact h1.foot_lt

/-- What a call on a disk leaves. -/
def DiskTo (w : World) (d : Nat) (B : List Nat) (S' : DiskS) (w' : World) : Prop :=
  ∃ B', DiskAt w' d S' B' ∧ Chg (· ∈ B) w w' ∧ ∀ b ∈ B', b ∈ B ∨ w.heap.size ≤ b

theorem DiskTo.same {w w' : World} {d : Nat} {S : DiskS} {B : List Nat} (h : DiskAt w d S B) (hx : Ext w w') : DiskTo w d B S w' :=
  ⟨B, h.ext hx, Chg.of_ext hx, fun _ hb => .inl hb⟩
theorem DiskTo.trans {w w1 w2 : World} {d : Nat} {S1 S2 : DiskS} {B : List Nat} (h : DiskTo w d B S1 w1) (k : ∀ B1, DiskAt w1 d S1 B1 → DiskTo w1 d B1 S2 w2) : DiskTo w d B S2 w2 := by
  obtain ⟨B1, h1, c1, f1⟩ := h
  obtain ⟨B2, h2, c2, f2⟩ := k B1 h1
  refine ⟨B2, h2, c1.trans c2 (fun i hi hb => ?_), fun b hb => ?_⟩
  · rcases f1 i hb with h | h
    · exact h
    · omega
  · rcases f2 b hb with h | h
    · exact f1 b h
    · exact .inr (Nat.le_trans c1.size h)
/-- Behind blocks that came first. -/
theorem DiskTo.pre {w w0 w1 : World} {d : Nat} {S1 : DiskS} {B : List Nat} (hx : Ext w w0) (h : DiskTo w0 d B S1 w1) : DiskTo w d B S1 w1 := by
  obtain ⟨B1, h1, c1, f1⟩ := h
  exact ⟨B1, h1, (Chg.of_ext hx).trans c1 (fun _ _ h => h), fun b hb => (f1 b hb).imp id (fun h => Nat.le_trans hx.size h)⟩

/-- An operation that was done is counted. -/
def DiskS.count (S : DiskS) : DiskS := { S with ops := S.ops + 1, left := if 0 < S.left then S.left - 1 else S.left }

/-- What an append comes to, past the names and the cut. -/
def DiskS.put (S : DiskS) (name : ByteArray) (bl : List UInt8) : Int × DiskS :=
  if S.room - S.used < (bl.length : Int) then (15, S) else
  match aget S.files name with
  | none => if 512 ≤ S.files.length ∨ 1048576 < bl.length then (3, S) else (0, { S with files := aput S.files name ⟨bl, 0, false⟩, used := S.used + bl.length })
  | some f => if 1048576 < bl.length + f.bytes.length then (3, S) else (0, { S with files := aput S.files name { f with bytes := f.bytes ++ bl }, used := S.used + bl.length })

/-- An operation's outcome, behind the names and the cut. -/
def DiskS.doing (S : DiskS) (ns : List ByteArray) (r : Int × DiskS) : Int × DiskS :=
  match doStops ns S.left with
  | some x => (x, S)
  | none => if r.1 = 0 then (0, r.2.count) else (r.1, S)

def DiskS.append (S : DiskS) (name : ByteArray) (bl : List UInt8) : Int × DiskS := S.doing [name] (S.put name bl)

theorem Src.len_eq {w : World} {v : Value} {n : Nat} {bl : List UInt8} (hs : Src w 1 v n (u8s bl)) : n = bl.length := by
  rcases hs with ⟨_, e1, e2⟩ | ⟨_, _, _, e2, _⟩
  · have := congrArg List.length e2; rw [u8s_length] at this; rw [e1, this]; rfl
  · rw [u8s_length] at e2; omega

/-- What Append's closure comes to. -/
theorem append1_any {w : World} {d mb : Nat} {E : List (ByteArray × FileX)} {S : DiskS} (ok : S.Ok) (h : DiskRep w d mb E S.room S.used S.left S.ops) (hfs : fs E = S.files)
    (bb dd nn : Nat) (name : ByteArray) (a : Option Addr) (n c : Nat) (bl : List UInt8)
    (hb : w.cell? ⟨bb, 0, none⟩ = some (.slice a n c)) (hd : w.cell? ⟨dd, 0, none⟩ = some (.pointer (some ⟨d, 0, none⟩))) (hn : w.cell? ⟨nn, 0, none⟩ = some (.string name))
    (hs : Src w 1 (.slice a n c) n (u8s bl)) (hap : n = 0 ∨ ∀ g, (Value.slice a n c).ownBlock = some g → g ∉ foot d mb E) (hbb : bb ∉ foot d mb E) (hdd : dd ∉ foot d mb E) (hnn : nn ∉ foot d mb E) (hnm : n ≤ maxLen) :
    Calls Tryd.prog 38 #[.pointer (some ⟨bb, 0, none⟩), .pointer (some ⟨dd, 0, none⟩), .pointer (some ⟨nn, 0, none⟩)] w fun e w' =>
      e = .returned (.int .i64 (S.put name bl).1) ∧ ∃ E', DiskRep w' d mb E' S.room (S.put name bl).2.used S.left S.ops ∧ fs E' = (S.put name bl).2.files ∧ Chg (· ∈ foot d mb E) w w' ∧ ∀ b ∈ foot d mb E', b ∈ foot d mb E ∨ w.heap.size ≤ b := by
  have hl := hs.len_eq
  have hlenE : E.length = S.files.length := by rw [← hfs]; simp [fs, amap]
  by_cases hroom : S.room - S.used < (bl.length : Int)
  · have e : S.put name bl = (15, S) := by simp [DiskS.put, hroom]
    rw [e]
    refine (append1_full h bb dd nn name a n c hb hd hn ok.room1 ok.room0 ok.used0 ok.used1 hnm (by rw [hl]; exact hroom)).mono ?_
    rintro e w' ⟨rfl, hx⟩
    exact ⟨rfl, E, h.ext hx, hfs, Chg.of_ext hx, fun b hb => .inl hb⟩
  · have hroom' : (n : Int) ≤ S.room - S.used := by rw [hl]; omega
    cases hx : aget E name with
    | none =>
      have hx' : aget S.files name = none := by rw [← hfs, fs, aget_amap, hx]; rfl
      by_cases hm : 512 ≤ S.files.length ∨ 1048576 < bl.length
      · have e : S.put name bl = (3, S) := by simp only [DiskS.put, if_neg hroom, hx', if_pos hm]
        rw [e]
        refine (append1_many h bb dd nn name a n c hb hd hn ok.room1 ok.room0 ok.used0 ok.used1 hnm hroom' hx (by rw [hlenE, hl]; exact hm)).mono ?_
        rintro e w' ⟨rfl, hx⟩
        exact ⟨rfl, E, h.ext hx, hfs, Chg.of_ext hx, fun b hb => .inl hb⟩
      · have e : S.put name bl = (0, { S with files := aput S.files name ⟨bl, 0, false⟩, used := S.used + bl.length }) := by simp only [DiskS.put, if_neg hroom, hx', if_neg hm]
        rw [e]
        refine (append1_new h bb dd nn name a n c hb hd hn ok.room1 ok.room0 ok.used0 ok.used1 hnm hroom' hx (by omega) (by omega) bl hs hap hbb hdd hnn).mono ?_
        rintro e w' ⟨rfl, x', hx1, r1, r2, r3⟩
        refine ⟨rfl, _, by rw [hl] at r1; exact r1, ?_, r2, r3⟩
        show fs _ = aput S.files name ⟨bl, 0, false⟩
        rw [fs, ← aput_amap, hx1, ← hfs]; rfl
    | some x =>
      have hx' : aget S.files name = some x.f := by rw [← hfs, fs, aget_amap, hx]; rfl
      have hsm : x.f.bytes.length ≤ 1048576 := ok.small _ (aget_mem hx')
      by_cases hm : 1048576 < bl.length + x.f.bytes.length
      · have e : S.put name bl = (3, S) := by simp only [DiskS.put, if_neg hroom, hx', if_pos hm]
        rw [e]
        refine (append1_big h bb dd nn name a n c hb hd hn ok.room1 ok.room0 ok.used0 ok.used1 hnm hroom' x hx (by omega) hsm).mono ?_
        rintro e w' ⟨rfl, hx⟩
        exact ⟨rfl, E, h.ext hx, hfs, Chg.of_ext hx, fun b hb => .inl hb⟩
      · have e : S.put name bl = (0, { S with files := aput S.files name { x.f with bytes := x.f.bytes ++ bl }, used := S.used + bl.length }) := by simp only [DiskS.put, if_neg hroom, hx', if_neg hm]
        rw [e]
        refine (append1_old h bb dd nn name a n c bl hb hd hn hs hap hbb hdd hroom' ok.room1 ok.used0 x hx (by omega)).mono ?_
        rintro e w' ⟨rfl, x', hx1, r1, r2, r3⟩
        refine ⟨rfl, _, by rw [hl] at r1; exact r1, ?_, r2, r3⟩
        show fs _ = aput S.files name { x.f with bytes := x.f.bytes ++ bl }
        rw [fs, ← aput_amap, hx1, ← hfs]; rfl

end Go.Proofs.YtfablbhkmddnbaaDoor
