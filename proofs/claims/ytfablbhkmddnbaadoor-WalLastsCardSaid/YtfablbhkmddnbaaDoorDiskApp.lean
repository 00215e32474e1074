/- The contract of disk's Append. -/
import Derived.Test.YtfablbhkmddnbaaDoorDiskS
namespace Go.Proofs.YtfablbhkmddnbaaDoor
open Go.RowKit Go.Sort

theorem cf_append1 (caps : Array Value) : ∀ W : World, (callFunc 38 caps).run Tryd.prog W = .ok (.enter 38 caps) W := by
  intro W
  simp [go_sem]

theorem bump_rep {w1 : World} {d mb : Nat} {E : List (ByteArray × FileX)} {room used left ops : Int} (h : DiskRep w1 d mb E room used left ops) :
    DiskRep (bump w1 d left ops) d mb E room used (if 0 < left then left - 1 else left) (ops + 1) ∧ Chg (· = d) w1 (bump w1 d left ops) := by
  have hap := h.apart
  simp only [foot, List.nodup_cons, List.mem_cons, not_or] at hap
  have key : ∀ w2 left2 ops2, Chg (· = d) w1 w2 → w2.heap[d]? = some (.cells #[.map (some mb), .int .i64 room, .int .i64 used, .int .i64 left2, .int .i64 ops2] 49 (0, 0)) → DiskRep w2 d mb E room used left2 ops2 := by
    intro w2 left2 ops2 hc hh
    refine ⟨hh, h.map.chg hc (Ne.symm hap.1.1), fun p hp => (h.files p hp).chg hc (fun b hb e => ?_), h.apart, h.names⟩
    subst e
    exact hap.1.2 (List.mem_flatMap.2 ⟨p, hp, hb⟩)
  unfold bump
  split
  · rename_i hp
    have hc : Chg (· = d) w1 ((w1.setCell ⟨d, 4, none⟩ (.int .i64 (ops + 1))).setCell ⟨d, 3, none⟩ (.int .i64 (left - 1))) := (setCell_chg _ _ _ _).trans (setCell_chg _ _ _ _) (fun _ _ e => e)
    exact ⟨key _ _ _ hc (setCell_block (setCell_block h.head _) _), hc⟩
  · exact ⟨key _ _ _ (setCell_chg _ _ _ _) (setCell_block h.head _), setCell_chg _ _ _ _⟩

theorem put_left (S : DiskS) (name : ByteArray) (bl : List UInt8) : (S.put name bl).2.room = S.room ∧ (S.put name bl).2.left = S.left ∧ (S.put name bl).2.ops = S.ops ∧ ((S.put name bl).1 ≠ 0 → (S.put name bl).2 = S) := by
  unfold DiskS.put
  split
  · simp
  · split
    · split <;> simp
    · split <;> simp

set_option maxHeartbeats 2000000 in
theorem disk_append' {w : World} {d : Nat} {S : DiskS} {B : List Nat} (ok : S.Ok) (hops : S.ops < 4611686018427387904) (h : DiskAt w d S B) (name : ByteArray) (hname : name.size ≤ maxLen) (a : Option Addr) (n c : Nat) (bl : List UInt8)
    (hs : Src w 1 (.slice a n c) n (u8s bl)) (hap : n = 0 ∨ ∀ g, (Value.slice a n c).ownBlock = some g → g ∉ B) (hnm : n ≤ maxLen) :
    Calls Tryd.prog 24 #[.pointer (some ⟨d, 0, none⟩), .string name, .slice a n c] w fun e w' =>
      e = .returned (.int .i64 (S.append name bl).1) ∧ DiskTo w d B (S.append name bl).2 w' := by
  obtain ⟨mb, E, hrep, hfs, rfl⟩ := h
  have hlt := hrep.foot_lt
  have Hrep := Lib.hid hrep; have Hfs := Lib.hid hfs; have Hs := Lib.hid hs; have Hap := Lib.hid hap; have Hlt := Lib.hid hlt
  clear hrep hfs hs hap hlt
  go_enter Tryd.func24, Tryd.ntmps24
  go_wp2_with fail
  generalize hW : World.alloc _ _ = W
  have hx : Ext w W := by subst hW; exact ((((Ext.refl w).alloc _).alloc _).alloc _).alloc _
  have q1 : W.cell? ⟨w.heap.size, 0, none⟩ = some (.pointer (some ⟨d, 0, none⟩)) := by subst hW; simp [go_sem]
  have q2 : W.cell? ⟨w.heap.size + 1, 0, none⟩ = some (.string name) := by subst hW; simp [go_sem]
  have q3 : W.cell? ⟨w.heap.size + 1 + 1, 0, none⟩ = some (.slice a n c) := by subst hW; simp [go_sem]
  have q4 : W.cell? ⟨w.heap.size + 1 + 1 + 1, 0, none⟩ = some (.string name) := by subst hW; simp [go_sem]
  clear hW
  have hrepW := Hrep.out.ext hx
  have hsrc : Src W 1 (.slice (some ⟨w.heap.size + 1 + 1 + 1, 0, none⟩) [name].length 1) [name].length (strs [name]) := by
    refine .inr ⟨_, _, rfl, rfl, fun j u hj => ?_, ?_⟩
    · match j, hj with
      | 0, hj =>
        simp [strs] at hj; subst hj
        have e : (⟨w.heap.size + 1 + 1 + 1, 0, none⟩ : Addr).add 0 = ⟨w.heap.size + 1 + 1 + 1, 0, none⟩ := by unfold Addr.add; split <;> simp_all
        rw [e]; exact q4
      | j + 1, hj => simp [strs] at hj
    · intro u hu
      simp [strs] at hu; subst hu; rfl
  have hput := put_left S name bl
  have hK := fun (_ : S.left ≠ 0) (_ : [name].all nameB = true) => (append1_any ok hrepW Hfs.out (w.heap.size + 1 + 1) w.heap.size (w.heap.size + 1) name a n c bl q3 q1 q2 (Hs.out.ext hx) Hap.out (fun hb => by have := Hlt.out _ hb; omega) (fun hb => by have := Hlt.out _ hb; omega) (fun hb => by have := Hlt.out _ hb; omega) hnm).mono (R' := fun e w' => e = .returned (.int .i64 (S.put name bl).1) ∧ (∃ E', DiskRep w' d mb E' S.room (S.put name bl).2.used S.left S.ops ∧ fs E' = (S.put name bl).2.files ∧ Chg (· ∈ foot d mb E) W w' ∧ ∀ b ∈ foot d mb E', b ∈ foot d mb E ∨ W.heap.size ≤ b) ∧ ((S.put name bl).1 = 0 → ∃ used', w'.heap[d]? = some (.cells #[.map (some mb), .int .i64 S.room, .int .i64 used', .int .i64 S.left, .int .i64 S.ops] 49 (0, 0))))
    (fun e w' ⟨he, E', r1, r2⟩ => ⟨he, ⟨E', r1, r2⟩, fun _ => ⟨_, r1.head⟩⟩)
  refine (do_any hrepW.head (w.heap.size + 1 + 1 + 1) 1 [name] hsrc (by simpa using hname) (by simp) ok.ops0 hops ok.left0 ok.left1 38 _ (cf_append1 _) (S.put name bl).1 _ hK).mono ?_
  clear hK hsrc q1 q2 q3 q4
  intro e w' hpost
  have hres : ∃ r : Int, e = .returned (.int .i64 r) ∧ r = (S.append name bl).1 ∧ DiskTo w d (foot d mb E) (S.append name bl).2 w' := by
    unfold DoPost at hpost
    unfold DiskS.append DiskS.doing
    split at hpost
    · rename_i x hx'
      obtain ⟨rfl, rfl⟩ := hpost
      rw [hx']
      exact ⟨x, rfl, rfl, DiskTo.same ⟨mb, E, Hrep.out, Hfs.out, rfl⟩ hx⟩
    · rename_i hx'
      obtain ⟨rfl, hh⟩ := hpost
      rw [hx']
      rcases hh with ⟨he, E', r1, r2, r3, r4⟩ | ⟨he, w1, ⟨E', r1, r2, r3, r4⟩, rfl⟩
      · rw [if_neg he]
        refine ⟨_, rfl, rfl, DiskTo.pre hx ⟨foot d mb E', ⟨mb, E', ?_, ?_, rfl⟩, r3, r4⟩⟩
        · have := hput.2.2.2 he; rw [this] at r1; exact r1
        · have := hput.2.2.2 he; rw [this] at r2; exact r2
      · rw [if_pos he]
        obtain ⟨g1, g2⟩ := bump_rep r1
        refine ⟨_, rfl, he, DiskTo.pre hx ⟨foot d mb E', ⟨mb, E', ?_, r2, rfl⟩, r3.trans g2 (fun i hi e => by rw [e]; simp [foot]), r4⟩⟩
        simp only [DiskS.count, hput.1, hput.2.1, hput.2.2.1]
        exact g1
  obtain ⟨r, rfl, hr, hto⟩ := hres
  go_wp2_with fail
  go_ret
  exact ⟨by rw [← hr]; rfl, hto⟩

theorem disk_append {w : World} {d : Nat} {S : DiskS} {B : List Nat} (ok : S.Ok) (hops : S.ops < 4611686018427387904) (h : DiskAt w d S B) (name : ByteArray) (hname : name.size ≤ maxLen) (a : Option Addr) (n c : Nat) (bl : List UInt8)
    (hs : Src w 1 (.slice a n c) n (u8s bl)) (hap : ∀ g, (Value.slice a n c).ownBlock = some g → g ∉ B) (hnm : n ≤ maxLen) :
    Calls Tryd.prog 24 #[.pointer (some ⟨d, 0, none⟩), .string name, .slice a n c] w fun e w' =>
      e = .returned (.int .i64 (S.append name bl).1) ∧ DiskTo w d B (S.append name bl).2 w' := disk_append' ok hops h name hname a n c bl hs (.inr hap) hnm
end Go.Proofs.YtfablbhkmddnbaaDoor
