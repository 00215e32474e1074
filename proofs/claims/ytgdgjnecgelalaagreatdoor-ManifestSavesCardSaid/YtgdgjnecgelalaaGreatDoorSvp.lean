/- Plain: a state is saved on a disk, and loaded. -/
import Derived.Test.YtgdgjnecgelalaaGreatDoorDiskF
import Derived.Test.YtgdgjnecgelalaaGreatDoorMpb
namespace Go.Proofs.YtgdgjnecgelalaaGreatDoor
open Go.RowKit Go.Sort Go.Lib

def fN : ByteArray := ⟨#[110]⟩
def fM : ByteArray := ⟨#[109]⟩
theorem fN_ne : fN ≠ fM := by decide
/-- What was begun is taken away. -/
def saveA (S : DiskS) : Int × DiskS := if (aget S.files fN).isSome = true then S.delete fN else (0, S)
def thenS (r : Int × DiskS) (k : DiskS → Int × DiskS) : Int × DiskS := if r.1 = 0 then k r.2 else r
/-- A state is saved. -/
def saveS (S : DiskS) (s : Sta) : Int × DiskS :=
  if staR s = true then thenS (thenS (thenS (saveA S) (fun S => S.append fN (sealL 7 (staP s)))) (fun S => S.sync fN)) (fun S => S.rename fN fM) else (2, S)
/-- What is loaded: the state, whether it is there, the error. -/
def loadO : Option Sta → Sta × Bool × Int
  | some s => (s, true, 0)
  | none => (staZ, false, 24)
def loadS (S : DiskS) : Sta × Bool × Int := match aget S.files fM with
  | none => (staZ, false, 0)
  | some f => loadO (staRd f.bytes)

theorem nameB_fN : nameB fN = true := by decide
theorem nameB_fM : nameB fM = true := by decide
theorem stops_one {left : Int} (h : left ≠ 0) : doStops [fN] left = none := by simp [doStops, nameB_fN, h]
theorem stops_two {left : Int} (h : left ≠ 0) : doStops [fN, fM] left = none := by simp [doStops, nameB_fN, nameB_fM, h]
theorem stops_cut : doStops [fN] 0 = some 17 ∧ doStops [fN, fM] 0 = some 17 := by simp [doStops, nameB_fN, nameB_fM]
def downL (left : Int) : Int := if 0 < left then left - 1 else left

/-- The files while a state is saved: that of before, if there is one, and the new one. -/
def midF (o : Option (List UInt8)) (bl : List UInt8) (lasts : Nat) (sy : Bool) : List (ByteArray × FileS) := (match o with | none => [] | some b0 => [(fM, ⟨b0, b0.length, true⟩)]) ++ [(fN, ⟨bl, lasts, sy⟩)]
def oldF (o : Option (List UInt8)) : List (ByteArray × FileS) := match o with | none => [] | some b0 => [(fM, ⟨b0, b0.length, true⟩)]
def oldN (o : Option (List UInt8)) : Nat := match o with | none => 0 | some b0 => b0.length
def baseS (o : Option (List UInt8)) (left ops : Int) : DiskS := ⟨oldF o, 1048576, (oldN o : Nat), left, ops⟩
def midS (o : Option (List UInt8)) (bl : List UInt8) (lasts : Nat) (sy : Bool) (left ops : Int) : DiskS := ⟨oldF o ++ [(fN, ⟨bl, lasts, sy⟩)], 1048576, ((oldN o + bl.length : Nat) : Int), left, ops⟩
theorem old_get (o : Option (List UInt8)) : aget (oldF o) fN = none := by
  cases o with
  | none => rfl
  | some b0 => rfl
theorem base_append (o : Option (List UInt8)) (bl : List UInt8) (left ops : Int) (hl : left ≠ 0) (ho : oldN o ≤ 100000) (hb : bl.length ≤ 100000) :
    (baseS o left ops).append fN bl = (0, midS o bl 0 false (downL left) (ops + 1)) := by
  have hg : aget (baseS o left ops).files fN = none := old_get o
  unfold DiskS.append DiskS.doing
  rw [show (baseS o left ops).left = left from rfl, stops_one hl]
  simp only
  unfold DiskS.put
  rw [hg]
  have h1 : ¬ ((baseS o left ops).room - (baseS o left ops).used < (bl.length : Int)) := by
    show ¬ ((1048576 : Int) - (oldN o : Nat) < (bl.length : Int))
    omega
  have h2 : ¬ (512 ≤ (baseS o left ops).files.length ∨ 1048576 < bl.length) := by
    have : (baseS o left ops).files.length ≤ 1 := by
      show (oldF o).length ≤ 1
      cases o <;> simp [oldF]
    omega
  rw [if_neg h1]
  simp only
  rw [if_neg h2]
  simp only [if_true]
  rw [aput_new _ hg]
  simp [DiskS.count, baseS, midS, downL]
  by_cases h0 : 0 < left <;> simp [h0]
theorem mid_get (o : Option (List UInt8)) (bl : List UInt8) (lasts : Nat) (sy : Bool) (left ops : Int) : aget (midS o bl lasts sy left ops).files fN = some ⟨bl, lasts, sy⟩ := by
  cases o with
  | none => rfl
  | some b0 => rfl
theorem mid_sync (o : Option (List UInt8)) (bl : List UInt8) (left ops : Int) (hl : left ≠ 0) :
    (midS o bl 0 false left ops).sync fN = (0, midS o bl bl.length true (downL left) (ops + 1)) := by
  have hg := mid_get o bl 0 false left ops
  unfold DiskS.sync DiskS.onFile DiskS.doing
  rw [show (midS o bl 0 false left ops).left = left from rfl, stops_one hl, hg]
  simp only [if_true]
  unfold DiskS.synced
  rw [hg]
  simp only
  cases o with
  | none => rfl
  | some b0 => rfl
theorem mid_rename (o : Option (List UInt8)) (bl : List UInt8) (left ops : Int) (hl : left ≠ 0) :
    (midS o bl bl.length true left ops).rename fN fM = (0, baseS (some bl) (downL left) (ops + 1)) := by
  have hg := mid_get o bl bl.length true left ops
  unfold DiskS.rename DiskS.onFile DiskS.doing
  rw [show (midS o bl bl.length true left ops).left = left from rfl, stops_two hl, hg]
  simp only [if_true]
  unfold DiskS.renamed
  rw [if_neg fN_ne, hg]
  simp only
  cases o with
  | none => simp [DiskS.drop, midS, oldF, aget, aput, adel, fM, fN, DiskS.count, baseS, oldN, downL]
  | some b0 =>
    simp [DiskS.drop, midS, oldF, aget, aput, adel, fM, fN, DiskS.count, baseS, oldN, downL]
    omega

theorem save_bad {S : DiskS} {s : Sta} (h : staR s = false) : saveS S s = (2, S) := by unfold saveS; rw [if_neg (by simp [h])]
theorem saveA_base (o : Option (List UInt8)) (left ops : Int) : saveA (baseS o left ops) = (0, baseS o left ops) := by
  unfold saveA
  rw [show aget (baseS o left ops).files fN = none from old_get o]
  rfl
/-- A save with no cut. -/
theorem save_free {o : Option (List UInt8)} {s : Sta} {left ops : Int} (h : staR s = true) (hl : left < 0) (ho : oldN o ≤ 100000) (hb : (sealL 7 (staP s)).length ≤ 100000) :
    saveS (baseS o left ops) s = (0, baseS (some (sealL 7 (staP s))) left (ops + 3)) := by
  have hd : downL left = left := by unfold downL; rw [if_neg (by omega)]
  unfold saveS
  rw [if_pos h, saveA_base]
  unfold thenS
  simp only [if_true]
  rw [base_append o _ left ops (by omega) ho hb]
  simp only [if_true]
  rw [hd, mid_sync o _ left _ (by omega)]
  simp only [if_true]
  rw [hd, mid_rename o _ left _ (by omega), hd]
  simp only [Prod.mk.injEq, true_and]
  congr 1
  omega
/-- A save that is cut. -/
theorem save_cut {o : Option (List UInt8)} {s : Sta} {ops : Int} (h : staR s = true) (ho : oldN o ≤ 100000) (hb : (sealL 7 (staP s)).length ≤ 100000) :
    saveS (baseS o 0 ops) s = (17, baseS o 0 ops) ∧ saveS (baseS o 1 ops) s = (17, midS o (sealL 7 (staP s)) 0 false 0 (ops + 1)) ∧
    saveS (baseS o 2 ops) s = (17, midS o (sealL 7 (staP s)) (sealL 7 (staP s)).length true 0 (ops + 1 + 1)) ∧ saveS (baseS o 3 ops) s = (0, baseS (some (sealL 7 (staP s))) 0 (ops + 1 + 1 + 1)) := by
  have hA : ∀ S : DiskS, S.left = 0 → S.append fN (sealL 7 (staP s)) = (17, S) := fun S hS => by
    unfold DiskS.append DiskS.doing
    rw [hS, stops_cut.1]
  have hY : ∀ S : DiskS, S.left = 0 → S.sync fN = (17, S) := fun S hS => by
    unfold DiskS.sync DiskS.onFile DiskS.doing
    rw [hS, stops_cut.1]
  have hR : ∀ S : DiskS, S.left = 0 → S.rename fN fM = (17, S) := fun S hS => by
    unfold DiskS.rename DiskS.onFile DiskS.doing
    rw [hS, stops_cut.2]
  have d1 : downL 1 = 0 := by decide
  have d2 : downL 2 = 1 := by decide
  have d3 : downL 3 = 2 := by decide
  refine ⟨?_, ?_, ?_, ?_⟩
  · unfold saveS
    rw [if_pos h, saveA_base]
    unfold thenS
    simp only [if_true]
    rw [hA _ rfl]
    try simp
  · unfold saveS
    rw [if_pos h, saveA_base]
    unfold thenS
    simp only [if_true]
    rw [base_append o _ 1 ops (by omega) ho hb, d1]
    simp only [if_true]
    rw [hY _ rfl]
    try simp
  · unfold saveS
    rw [if_pos h, saveA_base]
    unfold thenS
    simp only [if_true]
    rw [base_append o _ 2 ops (by omega) ho hb, d2]
    simp only [if_true]
    rw [mid_sync o _ 1 _ (by omega), d1]
    simp only [if_true]
    rw [hR _ rfl]
    try simp
  · unfold saveS
    rw [if_pos h, saveA_base]
    unfold thenS
    simp only [if_true]
    rw [base_append o _ 3 ops (by omega) ho hb, d3]
    simp only [if_true]
    rw [mid_sync o _ 2 _ (by omega), d2]
    simp only [if_true]
    rw [mid_rename o _ 1 _ (by omega), d1]
theorem seal_few {s : Sta} (h : staR s = true) (hm : s.km.ok) : (sealL 7 (staP s)).length ≤ 100000 := by
  have := staP_len h hm
  rw [sealL_len]
  omega
theorem load_base {s : Sta} (h : staR s = true) (hm : s.km.ok) (left ops : Int) : loadS (baseS (some (sealL 7 (staP s))) left ops) = (s, true, 0) := by
  have e : aget (baseS (some (sealL 7 (staP s))) left ops).files fM = some ⟨sealL 7 (staP s), (sealL 7 (staP s)).length, true⟩ := rfl
  unfold loadS
  rw [e]
  simp only
  rw [staRd_seal h hm (by have := staP_len h hm; omega)]
  rfl
end Go.Proofs.YtgdgjnecgelalaaGreatDoor
