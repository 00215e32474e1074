/- The log: what it does, plainly; the log in memory. -/
import Derived.Test.YtfablbhkmddnbaaDoorWl1
import Derived.Test.YtfablbhkmddnbaaDoorDiskC0
import Derived.Test.YtfablbhkmddnbaaDoorDiskR
import Derived.Test.YtfablbhkmddnbaaDoorDiskApp
import Derived.Test.YtfablbhkmddnbaaDoorDip
import Derived.Test.YtfablbhkmddnbaaDoorZin
namespace Go.Proofs.YtfablbhkmddnbaaDoor
open Go.RowKit Go.Sort Go.Lib

/-- A log's own data. -/
structure LogS where
  limit : Int
  files : List Nat
  size : Nat
  next : Nat
  dirty : Bool
  bad : Bool
def fX : ByteArray := ⟨#[120]⟩
def fW : ByteArray := ⟨#[119]⟩
/-- One thing behind another, if that was well. -/
def seqS (r : Int × DiskS) (k : DiskS → Int × DiskS) : Int × DiskS := if r.1 = 0 then k r.2 else r
def mendA (S : DiskS) : Int × DiskS := if (aget S.files fX).isSome = true then S.delete fX else (0, S)
/-- A torn file is written anew. -/
def mendW (S : DiskS) (file : ByteArray) (b : List UInt8) : Int × DiskS :=
  if b = [] then S.delete file else seqS (seqS (seqS (mendA S) (fun S => S.append fX b)) (fun S => S.sync fX)) (fun S => S.rename fX file)
def bytesOf (S : DiskS) (file : ByteArray) : List UInt8 := ((aget S.files file).map (·.bytes)).getD []
/-- What a call on one file of the log leaves: the error, the log, the disk, the records. -/
structure FileR where
  e : Int
  L : LogS
  S : DiskS
  rs : List (List UInt8)
def fileEnd (L : LogS) (S : DiskS) (file : ByteArray) (last : Bool) (n : Nat) (b : List UInt8) (E : List (List UInt8) × EndW) : FileR :=
  match E.2 with
  | .done => ⟨0, { L with files := L.files ++ [n], size := b.length, next := n + E.1.length }, S, E.1⟩
  | .bad => ⟨24, { L with next := n + E.1.length }, S, E.1⟩
  | .torn at' =>
    if last = true then
      if (mendW S file (b.take at')).1 ≠ 0 ∨ at' = 0 then ⟨(mendW S file (b.take at')).1, { L with next := n + E.1.length }, (mendW S file (b.take at')).2, E.1⟩
      else ⟨0, { L with files := L.files ++ [n], size := at', next := n + E.1.length }, (mendW S file (b.take at')).2, E.1⟩
    else ⟨24, { L with next := n + E.1.length }, S, E.1⟩
def fileW (L : LogS) (S : DiskS) (file : ByteArray) (last : Bool) : FileR :=
  match numL (bl file) with
  | none => ⟨24, L, S, []⟩
  | some n => if L.files ≠ [] ∧ n ≠ L.next then ⟨24, L, S, []⟩ else fileEnd L S file last n (bytesOf S file) (eachW (bytesOf S file).length 0 (bytesOf S file))
/-- All files, one behind the other. -/
def openGo : List ByteArray → LogS → DiskS → List (List UInt8) → FileR
  | [], L, S, rs => ⟨0, L, S, rs⟩
  | s :: ss, L, S, rs =>
    if (fileW L S s (decide (ss = []))).e ≠ 0 then ⟨(fileW L S s (decide (ss = []))).e, (fileW L S s (decide (ss = []))).L, (fileW L S s (decide (ss = []))).S, rs ++ (fileW L S s (decide (ss = []))).rs⟩
    else openGo ss (fileW L S s (decide (ss = []))).L (fileW L S s (decide (ss = []))).S (rs ++ (fileW L S s (decide (ss = []))).rs)
def log0 (limit : Int) : LogS := ⟨limit, [], 0, 0, false, false⟩
def openW (S : DiskS) (limit : Int) : FileR := openGo (S.list fW) (log0 limit) S []
def lastN (L : LogS) : Nat := L.files.getLastD 0
/-- Sync. -/
def syncW (L : LogS) (S : DiskS) : Int × LogS × DiskS :=
  if L.bad = true then (16, L, S) else if L.dirty = false then (0, L, S)
  else ((S.sync (nameW (lastN L))).1, { L with bad := decide ((S.sync (nameW (lastN L))).1 ≠ 0), dirty := decide ((S.sync (nameW (lastN L))).1 ≠ 0) }, (S.sync (nameW (lastN L))).2)
/-- A record is put into a file. -/
def putW (L : LogS) (S : DiskS) (fresh : Bool) (file : Nat) (b : List UInt8) : Int × LogS × DiskS :=
  if (S.append (nameW file) (recL b)).1 ≠ 0 then ((S.append (nameW file) (recL b)).1, { L with bad := decide ((S.append (nameW file) (recL b)).1 ≠ 15) && decide ((S.append (nameW file) (recL b)).1 ≠ 3) }, (S.append (nameW file) (recL b)).2)
  else (0, { L with files := if fresh = true then L.files ++ [file] else L.files, size := (if fresh = true then 0 else L.size) + (recL b).length, dirty := true, next := L.next + 1 }, (S.append (nameW file) (recL b)).2)
/-- Add. -/
def addW (L : LogS) (S : DiskS) (b : List UInt8) : Int × LogS × DiskS :=
  if L.bad = true then (16, L, S) else if 65536 < b.length then (3, L, S)
  else if L.files = [] then putW L S true L.next b
  else if L.limit ≤ (L.size : Int) then
    if (syncW L S).1 ≠ 0 then syncW L S else putW (syncW L S).2.1 (syncW L S).2.2 true L.next b
  else putW L S false (lastN L) b
/-- Bounds. -/
structure LBd (L : LogS) (N : Nat) : Prop where
  next : L.next ≤ N
  size : L.size ≤ N
  len : L.files.length ≤ N
  all : ∀ f ∈ L.files, f ≤ N
  lim : 1 ≤ L.limit ∧ L.limit ≤ 1048576
  dirty : L.dirty = true → L.files ≠ []

/-! In memory. -/
def nts (l : List Nat) : List Value := l.map fun n : Nat => .int .i64 (n : Int)
theorem nts_len (l : List Nat) : (nts l).length = l.length := by simp [nts]
theorem nts_one (l : List Nat) : ∀ u ∈ nts l, u.oneCell' = true := by
  intro u hu
  obtain ⟨x, _, rfl⟩ := List.mem_map.1 hu
  rfl
theorem nts_append (a b : List Nat) : nts (a ++ b) = nts a ++ nts b := by simp [nts]
/-- The log's cells, and the numbers of its files. -/
structure LogRaw (w : World) (lg d : Nat) (V : Value) (L : LogS) : Prop where
  box : w.heap[lg]? = some (.cells #[.pointer (some ⟨d, 0, none⟩), .int .i64 L.limit, V, .int .i64 (L.size : Int), .int .i64 (L.next : Int), .bool L.dirty, .bool L.bad] 53 (0, 0))
  row : Row w 3 1 V L.files.length (nts L.files)
/-- The log and its disk. -/
structure LogB (w : World) (lg d : Nat) (V : Value) (L : LogS) (S : DiskS) (B : List Nat) : Prop where
  raw : LogRaw w lg d V L
  disk : DiskAt w d S B
  nb : lg ∉ B
  own : ∀ g, V.ownBlock = some g → g ∉ B ∧ g ≠ lg
def lfoot (lg : Nat) (V : Value) (B : List Nat) : List Nat := lg :: (V.ownBlock.toList ++ B)
def LogAt (w : World) (lg d : Nat) (L : LogS) (S : DiskS) (F : List Nat) : Prop := ∃ V B, LogB w lg d V L S B ∧ F = lfoot lg V B
def LogTo (w : World) (lg d : Nat) (F : List Nat) (L : LogS) (S : DiskS) (w' : World) : Prop := ∃ F', LogAt w' lg d L S F' ∧ Chg (· ∈ F) w w' ∧ ∀ b ∈ F', b ∈ F ∨ w.heap.size ≤ b
section
variable {w w' w1 : World} {lg d : Nat} {V : Value} {L L' : LogS} {S S' : DiskS} {B F : List Nat}
theorem LogRaw.ext (h : LogRaw w lg d V L) (hx : Ext w w') : LogRaw w' lg d V L := ⟨(hx.block (block_lt h.box)).trans h.box, h.row.ext hx⟩
theorem LogB.ext (h : LogB w lg d V L S B) (hx : Ext w w') : LogB w' lg d V L S B := ⟨h.raw.ext hx, h.disk.ext hx, h.nb, h.own⟩
theorem LogAt.ext (h : LogAt w lg d L S F) (hx : Ext w w') : LogAt w' lg d L S F := by
  obtain ⟨V, B, h, rfl⟩ := h
  exact ⟨V, B, h.ext hx, rfl⟩
theorem LogB.lt (h : LogB w lg d V L S B) : ∀ b ∈ lfoot lg V B, b < w.heap.size := by
  intro b hb
  simp only [lfoot, List.mem_cons, List.mem_append, Option.mem_toList] at hb
  rcases hb with rfl | hb | hb
  · exact block_lt h.raw.box
  · exact h.raw.row.lt hb
  · exact h.disk.lt b hb
theorem LogAt.lt (h : LogAt w lg d L S F) : ∀ b ∈ F, b < w.heap.size := by
  obtain ⟨V, B, h, rfl⟩ := h
  exact h.lt
theorem lfoot_lg (lg : Nat) (V : Value) (B : List Nat) : lg ∈ lfoot lg V B := List.mem_cons_self
theorem lfoot_disk {lg : Nat} {V : Value} {B : List Nat} {b : Nat} (h : b ∈ B) : b ∈ lfoot lg V B := by simp [lfoot, h]
theorem lfoot_own {lg : Nat} {V : Value} {B : List Nat} {b : Nat} (h : V.ownBlock = some b) : b ∈ lfoot lg V B := by simp [lfoot, h]
theorem LogTo.same (h : LogAt w lg d L S F) (hx : Ext w w') : LogTo w lg d F L S w' := ⟨F, h.ext hx, Chg.of_ext hx, fun _ hb => .inl hb⟩
theorem LogTo.trans {S2 : DiskS} {L2 : LogS} {w2 : World} (h : LogTo w lg d F L' S' w1) (k : ∀ F1, LogAt w1 lg d L' S' F1 → LogTo w1 lg d F1 L2 S2 w2) : LogTo w lg d F L2 S2 w2 := by
  obtain ⟨F1, h1, c1, f1⟩ := h
  obtain ⟨F2, h2, c2, f2⟩ := k F1 h1
  refine ⟨F2, h2, c1.trans c2 (fun i hi hb => ?_), fun b hb => ?_⟩
  · rcases f1 i hb with h | h
    · exact h
    · omega
  · rcases f2 b hb with h | h
    · exact f1 b h
    · exact .inr (Nat.le_trans c1.size h)
theorem LogTo.pre {w0 : World} (hx : Ext w w0) (h : LogTo w0 lg d F L S w1) : LogTo w lg d F L S w1 := by
  obtain ⟨F1, h1, c1, f1⟩ := h
  exact ⟨F1, h1, (Chg.of_ext hx).trans c1 (fun _ _ h => h), fun b hb => (f1 b hb).imp id (fun h => Nat.le_trans hx.size h)⟩
/-- A call on the disk leaves the log as it is. -/
theorem LogB.onDisk (h : LogB w lg d V L S B) (ht : DiskTo w d B S' w') : ∃ B', LogB w' lg d V L S' B' ∧ Chg (· ∈ B) w w' ∧ ∀ b ∈ lfoot lg V B', b ∈ lfoot lg V B ∨ w.heap.size ≤ b := by
  obtain ⟨B', h1, h2, h3⟩ := ht
  have hlg := block_lt h.raw.box
  refine ⟨B', ⟨⟨(h2.block lg hlg h.nb).trans h.raw.box, h.raw.row.chg h2 (fun g hg => (h.own g hg).1)⟩, h1, fun hb => ?_, fun g hg => ⟨fun hb => ?_, (h.own g hg).2⟩⟩, h2, fun b hb => ?_⟩
  · rcases h3 lg hb with e | e
    · exact h.nb e
    · omega
  · have := h.raw.row.lt hg
    rcases h3 g hb with e | e
    · exact (h.own g hg).1 e
    · omega
  · simp only [lfoot, List.mem_cons, List.mem_append] at hb ⊢
    rcases hb with hb | hb | hb
    · exact .inl (.inl hb)
    · exact .inl (.inr (.inl hb))
    · rcases h3 b hb with e | e
      · exact .inl (.inr (.inr e))
      · exact .inr e
theorem LogB.toDisk (h : LogB w lg d V L S B) (ht : DiskTo w d B S' w') : LogTo w lg d (lfoot lg V B) L S' w' := by
  obtain ⟨B', h1, h2, h3⟩ := h.onDisk ht
  exact ⟨_, ⟨V, B', h1, rfl⟩, h2.mono (fun i _ e => lfoot_disk e), h3⟩
/-- A cell of the log is set. -/
theorem LogB.set (h : LogB w lg d V L S B) (hb : w'.heap[lg]? = some (.cells #[.pointer (some ⟨d, 0, none⟩), .int .i64 L'.limit, V, .int .i64 (L'.size : Int), .int .i64 (L'.next : Int), .bool L'.dirty, .bool L'.bad] 53 (0, 0)))
    (hf : L'.files = L.files) (hc : Chg (· = lg) w w') : LogB w' lg d V L' S B :=
  ⟨⟨hb, by rw [hf]; exact h.raw.row.chg hc (fun g hg => (h.own g hg).2)⟩, h.disk.chg hc (fun b hb e => h.nb (e ▸ hb)), h.nb, h.own⟩
end
end Go.Proofs.YtfablbhkmddnbaaDoor

/-! Plain: a log of one file; bits that are turned in one frame of it. -/

namespace Go.Proofs.YtfablbhkmddnbaaDoor
open Go.RowKit Go.Sort Go.Lib

theorem nameB_name (n : Nat) : nameB (nameW n) = true := by
  have h : (nameW n).size = 13 := by
    have := nameL_len n
    simpa [nameW, lb, ByteArray.size] using this
  unfold nameB
  rw [h]
  rfl
theorem stops_name (n : Nat) : doStops [nameW n] (-1) = none := by simp [doStops, nameB_name]
def b1 (rs : List (List UInt8)) : List UInt8 := rs.flatMap recL
theorem b1_snoc (rs : List (List UInt8)) (r : List UInt8) : b1 (rs ++ [r]) = b1 rs ++ recL r := by simp [b1]
theorem b1_app (rs ss : List (List UInt8)) : b1 (rs ++ ss) = b1 rs ++ b1 ss := by simp [b1]
/-- A log of one file, and its disk. -/
def L1 (limit : Int) (rs : List (List UInt8)) : LogS := ⟨limit, if rs = [] then [] else [0], (b1 rs).length, rs.length, decide (rs ≠ []), false⟩
def S1 (room : Int) (rs : List (List UInt8)) : DiskS := ⟨if rs = [] then [] else [(nameW 0, ⟨b1 rs, 0, false⟩)], room, ((b1 rs).length : Nat), -1, (rs.length : Nat)⟩
theorem append_first {room : Int} {n : Nat} {bl : List UInt8} (h : (bl.length : Int) ≤ room) (hb : bl.length ≤ 1048576) : (⟨[], room, 0, -1, 0⟩ : DiskS).append (nameW n) bl = (0, ⟨[(nameW n, ⟨bl, 0, false⟩)], room, (bl.length : Nat), -1, 1⟩) := by
  have hp : (⟨[], room, 0, -1, 0⟩ : DiskS).put (nameW n) bl = (0, ⟨[(nameW n, ⟨bl, 0, false⟩)], room, (bl.length : Nat), -1, 0⟩) := by
    unfold DiskS.put
    rw [if_neg (by simp only; omega), show aget ((⟨[], room, 0, -1, 0⟩ : DiskS).files) (nameW n) = none from rfl]
    simp only
    rw [if_neg (by simp; omega)]
    simp [aput]
  unfold DiskS.append DiskS.doing
  rw [hp]
  simp [stops_name, DiskS.count]
theorem append_more {room u k : Int} {n : Nat} {b bl : List UInt8} (h : (bl.length : Int) ≤ room - u) (hb : bl.length + b.length ≤ 1048576) : (⟨[(nameW n, ⟨b, 0, false⟩)], room, u, -1, k⟩ : DiskS).append (nameW n) bl = (0, ⟨[(nameW n, ⟨b ++ bl, 0, false⟩)], room, u + (bl.length : Nat), -1, k + 1⟩) := by
  have hp : (⟨[(nameW n, ⟨b, 0, false⟩)], room, u, -1, k⟩ : DiskS).put (nameW n) bl = (0, ⟨[(nameW n, ⟨b ++ bl, 0, false⟩)], room, u + (bl.length : Nat), -1, k⟩) := by
    unfold DiskS.put
    rw [if_neg (by simp only; omega), show aget ((⟨[(nameW n, ⟨b, 0, false⟩)], room, u, -1, k⟩ : DiskS).files) (nameW n) = some ⟨b, 0, false⟩ by simp [aget]]
    simp only
    rw [if_neg (by omega)]
    simp [aput]
  unfold DiskS.append DiskS.doing
  rw [hp]
  simp [stops_name, DiskS.count]
theorem addW_one {limit room : Int} {rs : List (List UInt8)} {r : List UInt8} (hl : ((b1 rs).length : Int) < limit) (hr : r.length ≤ 65536) (hroom : (((b1 rs).length + r.length + 22 : Nat) : Int) ≤ room) (hb : (b1 rs).length + r.length + 22 ≤ 1048576) :
    addW (L1 limit rs) (S1 room rs) r = (0, L1 limit (rs ++ [r]), S1 room (rs ++ [r])) := by
  have hrl := recL_len r
  unfold addW
  rw [if_neg (by simp [L1]), if_neg (by omega)]
  by_cases hrs : rs = []
  · subst hrs
    rw [if_pos (by simp [L1])]
    unfold putW
    have ha : (S1 room []).append (nameW (L1 limit []).next) (recL r) = (0, ⟨[(nameW 0, ⟨recL r, 0, false⟩)], room, ((recL r).length : Nat), -1, 1⟩) := append_first (n := 0) (by omega) (by omega)
    rw [ha, if_neg (by simp)]
    simp [L1, S1, b1]
  · rw [if_neg (by simp [L1, hrs]), if_neg (by show ¬ limit ≤ (((b1 rs).length : Nat) : Int); omega)]
    unfold putW
    have hlast : lastN (L1 limit rs) = 0 := by simp [lastN, L1, hrs]
    have ha : (S1 room rs).append (nameW (lastN (L1 limit rs))) (recL r) = (0, ⟨[(nameW 0, ⟨b1 rs ++ recL r, 0, false⟩)], room, ((b1 rs).length : Nat) + ((recL r).length : Nat), -1, (rs.length : Nat) + 1⟩) := by
      rw [hlast]
      have : S1 room rs = ⟨[(nameW 0, ⟨b1 rs, 0, false⟩)], room, ((b1 rs).length : Nat), -1, (rs.length : Nat)⟩ := by simp [S1, hrs]
      rw [this]
      exact append_more (n := 0) (by omega) (by omega)
    rw [ha, if_neg (by simp)]
    simp [L1, S1, hrs, b1_snoc]

/-! Opened. -/
theorem list_none (room u l o : Int) : (⟨[], room, u, l, o⟩ : DiskS).list fW = [] := List.length_eq_zero_iff.1 (by unfold DiskS.list; rw [sortS_length]; rfl)
theorem list_one (n : Nat) (f : FileS) (room u l o : Int) : (⟨[(nameW n, f)], room, u, l, o⟩ : DiskS).list fW = [nameW n] := by
  have hn : (⟨[(nameW n, f)], room, u, l, o⟩ : DiskS).names fW = [nameW n] := by
    unfold DiskS.names
    simp only [List.map_cons, List.map_nil]
    rw [List.filter_cons_of_pos, List.filter_nil]
    simp [Lib.hasPrefix, nameW, nameL, fW, bl, lb]
  unfold DiskS.list
  rw [hn]
  exact List.perm_singleton.1 (sortS_perm _)
theorem bytesOf_one (n : Nat) (f : FileS) (room u l o : Int) : bytesOf (⟨[(nameW n, f)], room, u, l, o⟩ : DiskS) (nameW n) = f.bytes := by simp [bytesOf, aget]
theorem openW_one {S : DiskS} {limit : Int} (h : S.list fW = [nameW 0]) : openW S limit = (if (fileEnd (log0 limit) S (nameW 0) true 0 (bytesOf S (nameW 0)) (eachW (bytesOf S (nameW 0)).length 0 (bytesOf S (nameW 0)))).e ≠ 0
    then ⟨(fileEnd (log0 limit) S (nameW 0) true 0 (bytesOf S (nameW 0)) (eachW (bytesOf S (nameW 0)).length 0 (bytesOf S (nameW 0)))).e, (fileEnd (log0 limit) S (nameW 0) true 0 (bytesOf S (nameW 0)) (eachW (bytesOf S (nameW 0)).length 0 (bytesOf S (nameW 0)))).L, (fileEnd (log0 limit) S (nameW 0) true 0 (bytesOf S (nameW 0)) (eachW (bytesOf S (nameW 0)).length 0 (bytesOf S (nameW 0)))).S, (fileEnd (log0 limit) S (nameW 0) true 0 (bytesOf S (nameW 0)) (eachW (bytesOf S (nameW 0)).length 0 (bytesOf S (nameW 0)))).rs⟩
    else ⟨0, (fileEnd (log0 limit) S (nameW 0) true 0 (bytesOf S (nameW 0)) (eachW (bytesOf S (nameW 0)).length 0 (bytesOf S (nameW 0)))).L, (fileEnd (log0 limit) S (nameW 0) true 0 (bytesOf S (nameW 0)) (eachW (bytesOf S (nameW 0)).length 0 (bytesOf S (nameW 0)))).S, (fileEnd (log0 limit) S (nameW 0) true 0 (bytesOf S (nameW 0)) (eachW (bytesOf S (nameW 0)).length 0 (bytesOf S (nameW 0)))).rs⟩) := by
  have hf : fileW (log0 limit) S (nameW 0) true = fileEnd (log0 limit) S (nameW 0) true 0 (bytesOf S (nameW 0)) (eachW (bytesOf S (nameW 0)).length 0 (bytesOf S (nameW 0))) := by
    unfold fileW
    rw [show numL (bl (nameW 0)) = some 0 from numL_name (by omega)]
    simp only
    rw [if_neg (by simp [log0])]
  unfold openW
  rw [h, openGo, show decide (([] : List ByteArray) = []) = true from rfl, hf]
  rfl

/-! Bits that are turned in the middle. -/
theorem flipTo_mid {b p : Nat} {A M C : List UInt8} (hp : 8 * A.length ≤ p) : ∀ (k : Nat), (∀ i, i < k → b.testBit i = true → p + i < 8 * (A.length + M.length)) → flipTo b p (A ++ (M ++ C)) k = A ++ (flipTo b (p - 8 * A.length) M k ++ C)
  | 0, _ => rfl
  | k + 1, h => by
    have ih := flipTo_mid (C := C) hp k (fun i hi => h i (by omega))
    rw [flipTo, flipTo, ih]
    by_cases hb : b.testBit k = true
    · have hlt := h k (by omega) hb
      obtain ⟨X, hX⟩ : ∃ X, X = flipTo b (p - 8 * A.length) M k := ⟨_, rfl⟩
      have hXl : X.length = M.length := by rw [hX, flipTo_len]
      rw [← hX]
      unfold flipStep
      have e1 : (p + k) / 8 = A.length + (p - 8 * A.length + k) / 8 := by omega
      have hj : (p - 8 * A.length + k) / 8 < X.length := by omega
      have e2 : (A ++ (X ++ C)).getD ((p + k) / 8) 0 = X.getD ((p - 8 * A.length + k) / 8) 0 := by
        rw [e1, List.getD_eq_getElem?_getD, List.getD_eq_getElem?_getD, List.getElem?_append_right (by omega), Nat.add_sub_cancel_left, List.getElem?_append_left hj]
      have e3 : flipB b p k (X.getD ((p - 8 * A.length + k) / 8) 0) = flipB b (p - 8 * A.length) k (X.getD ((p - 8 * A.length + k) / 8) 0) := by
        unfold flipB
        rw [show (p + k) % 8 = (p - 8 * A.length + k) % 8 by omega]
      rw [e2, e3, e1, List.set_append_right _ _ (by omega), Nat.add_sub_cancel_left, List.set_append_left _ _ hj]
    · have hz : bitN b k = 0 := by
        rw [bitN_testBit]
        cases h2 : b.testBit k with
        | false => rfl
        | true => exact absurd h2 hb
      rw [flipStep_zero hz, flipStep_zero hz]
theorem flipTo_stay {b p : Nat} {M : List UInt8} {k : Nat} : ∀ (m : Nat), k ≤ m → (∀ i, k ≤ i → i < m → b.testBit i = false) → flipTo b p M m = flipTo b p M k
  | 0, hk, _ => by rw [show k = 0 by omega]
  | m + 1, hk, h => by
    by_cases e : k = m + 1
    · rw [e]
    · rw [flipTo, flipTo_stay m (by omega) (fun i h1 h2 => h i h1 (by omega))]
      refine flipStep_zero ?_
      rw [bitN_testBit, h m (by omega) (by omega)]
      rfl
theorem flipL_mid {b p : Nat} {A M C : List UInt8} (hp : 8 * A.length ≤ p) (hb : ∀ i, i < 32 → b.testBit i = true → p + i < 8 * (A.length + M.length)) : flipL b p (A ++ (M ++ C)) = A ++ (flipL b (p - 8 * A.length) M ++ C) := by
  have h1 := flipTo_mid (C := C) hp (min 32 (8 * (A ++ (M ++ C)).length - p)) (fun i hi => hb i (by omega))
  unfold flipL
  rw [h1]
  congr 2
  refine flipTo_stay _ ?_ (fun i h1 h2 => ?_)
  · simp only [List.length_append]; omega
  · cases hbi : b.testBit i with
    | false => rfl
    | true =>
      have := hb i (by omega) hbi
      simp only [List.length_append] at h2
      omega

/-! The frames' ends. -/
def endsL : List (List UInt8) → Nat → List Nat
  | [], _ => []
  | r :: rs, n => (n + 13) :: (n + 22 + r.length) :: endsL rs (n + 22 + r.length)
theorem endsL_snoc : ∀ (rs : List (List UInt8)) (r : List UInt8) (n : Nat), endsL (rs ++ [r]) n = endsL rs n ++ [n + (b1 rs).length + 13, n + (b1 rs).length + 22 + r.length]
  | [], r, n => by simp [endsL, b1]
  | q :: rs, r, n => by
    have e : n + 22 + q.length + (b1 rs).length = n + (b1 (q :: rs)).length := by
      show _ = n + (recL q ++ b1 rs).length
      rw [List.length_append, recL_len]
      omega
    rw [List.cons_append, endsL, endsL_snoc rs r, endsL, e]
    rfl
theorem endsL_len : ∀ (rs : List (List UInt8)) (n : Nat), (endsL rs n).length = 2 * rs.length
  | [], _ => rfl
  | r :: rs, n => by rw [endsL, List.length_cons, List.length_cons, endsL_len rs, List.length_cons]; omega
/-- The frame that ends there, and what is read if bits of it are turned. -/
theorem ends_frame : ∀ (rs : List (List UInt8)) (n k e : Nat), (∀ r ∈ rs, r.length ≤ 65536) → (endsL rs n)[k]? = some e →
    ∃ A M C, b1 rs = A ++ (M ++ C) ∧ e = n + A.length + M.length ∧ (k = 0 → A = []) ∧ (∀ e', 0 < k → (endsL rs n)[k - 1]? = some e' → e' = n + A.length) ∧ 0 < M.length ∧
      ∀ (q b f at' : Nat), q ≤ 8 * M.length → turnsAny b q (8 * M.length) → rs.length ≤ f → (eachW f at' (A ++ (flipL b q M ++ C))).2 = .bad
  | [], _, _, _, _, h => by simp [endsL] at h
  | r :: rs, n, k, e, hr, h => by
    have h1 := hr r List.mem_cons_self
    have hs1 : (sealL 1 (le4 r.length)).length = 13 := by rw [sealL_len, le4_len]
    have hs2 : (sealL 2 r).length = r.length + 9 := sealL_len _ _
    rcases k with _ | _ | k
    · simp [endsL] at h
      refine ⟨[], sealL 1 (le4 r.length), sealL 2 r ++ b1 rs, by simp [b1, recL], by rw [hs1]; simp; omega, fun _ => rfl, fun _ h0 => by omega, by omega, fun q b f at' hq hb hf => ?_⟩
      rw [hs1] at hq hb
      obtain ⟨f', rfl⟩ : ∃ f', f = f' + 1 := ⟨f - 1, by simp at hf; omega⟩
      have hfl : (flipL b q (sealL 1 (le4 r.length))).length = 13 := by rw [flipL_len, hs1]
      rw [List.nil_append, eachW, if_neg (by intro e0; have := congrArg List.length e0; simp [hfl] at this), oneW_head_turned r (b1 rs) b q h1 hq hb]
    · simp [endsL] at h
      refine ⟨sealL 1 (le4 r.length), sealL 2 r, b1 rs, by simp [b1, recL], by rw [hs1, hs2]; omega, fun h0 => by omega, fun e' _ he => ?_, by omega, fun q b f at' hq hb hf => ?_⟩
      · simp [endsL] at he
        rw [hs1]; omega
      · rw [hs2] at hq hb
        obtain ⟨f', rfl⟩ : ∃ f', f = f' + 1 := ⟨f - 1, by simp at hf; omega⟩
        rw [eachW, if_neg (by intro e0; have := congrArg List.length e0; simp [hs1] at this), oneW_body_turned r (b1 rs) b q h1 hq hb]
    · have h' : (endsL rs (n + 22 + r.length))[k]? = some e := by simpa [endsL] using h
      obtain ⟨A, M, C, e1, e2, e3, e4, e5, e6⟩ := ends_frame rs (n + 22 + r.length) k e (fun x hx => hr x (List.mem_cons_of_mem _ hx)) h'
      have hrl := recL_len r
      refine ⟨recL r ++ A, M, C, ?_, by rw [List.length_append, hrl]; omega, fun h0 => by omega, fun e' _ he => ?_, e5, fun q b f at' hq hb hf => ?_⟩
      · show recL r ++ b1 rs = _
        rw [e1, List.append_assoc]
      · rcases k with _ | k
        · simp [endsL] at he
          rw [e3 rfl, List.append_nil, hrl]
          omega
        · have := e4 e' (by omega) (by simpa [endsL] using he)
          rw [List.length_append, hrl]
          omega
      · obtain ⟨f', rfl⟩ : ∃ f', f = f' + 1 := ⟨f - 1, by simp at hf; omega⟩
        rw [List.append_assoc, eachW, if_neg (by intro e0; have := congrArg List.length e0; simp [hrl] at this), oneW_rec r _ h1]
        simp only
        rw [List.drop_left' hrl]
        exact e6 q b f' _ hq hb (by simp at hf; omega)
end Go.Proofs.YtfablbhkmddnbaaDoor

/-! The log: none, First, Next. -/

namespace Go.Proofs.YtfablbhkmddnbaaDoor
open Go.RowKit Go.Sort Go.Lib

theorem lognone_any {w : World} {lg d : Nat} {L : LogS} {V : Value} (h : LogRaw w lg d V L) :
    Calls Tryd.prog 22 #[.pointer (some ⟨lg, 0, none⟩)] w fun e w' => e = .returned (.bool false) ∧ w = w' := by
  have c0 := cell_of_block h.box 0
  clear h
  simp only [List.getElem?_toArray, List.getElem?_cons_zero] at c0
  go_enter Tryd.func22, Tryd.ntmps22
  go_wp2_with fail
  go_ret
  exact ⟨rfl, rfl⟩
theorem lognext_any {w : World} {lg d : Nat} {L : LogS} {V : Value} (h : LogRaw w lg d V L) :
    Calls Tryd.prog 13 #[.pointer (some ⟨lg, 0, none⟩)] w fun e w' => e = .returned (.int .i64 (L.next : Int)) ∧ w = w' := by
  have H := Lib.hid h
  have c4 := cell_of_block h.box 4
  clear h
  simp only [List.getElem?_toArray] at c4
  go_enter Tryd.func13, Tryd.ntmps13
  go_wp2_with fail
  refine (lognone_any H.out).mono ?_
  rintro e w' ⟨rfl, rfl⟩
  go_wp2_with fail
  go_ret
  exact ⟨rfl, rfl⟩
end Go.Proofs.YtfablbhkmddnbaaDoor
