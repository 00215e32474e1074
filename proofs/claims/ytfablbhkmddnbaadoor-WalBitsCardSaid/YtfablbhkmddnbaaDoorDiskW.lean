/- Contracts of disk's with and its closure. -/
import Derived.Test.YtfablbhkmddnbaaDoorDiskApp
namespace Go.Proofs.YtfablbhkmddnbaaDoor
open Go.RowKit Go.Sort

/-- What a call leaves of a disk in memory. -/
def RepTo (W : World) (d mb : Nat) (E : List (ByteArray × FileX)) (S' : DiskS) (w' : World) : Prop :=
  ∃ E', DiskRep w' d mb E' S'.room S'.used S'.left S'.ops ∧ fs E' = S'.files ∧ Chg (· ∈ foot d mb E) W w' ∧ ∀ b ∈ foot d mb E', b ∈ foot d mb E ∨ W.heap.size ≤ b

def With1Post (E : List (ByteArray × FileX)) (d mb : Nat) (S S' : DiskS) (name : ByteArray) (w : World) (e : Ending) (w' : World) : Prop :=
  match aget E name with
  | none => e = .returned (.int .i64 13) ∧ Ext w w'
  | some _ => e = .returned (.int .i64 0) ∧ RepTo w d mb E S' w'

set_option maxHeartbeats 2000000 in
theorem with1_any {w : World} {d mb : Nat} {E : List (ByteArray × FileX)} {S S' : DiskS} (h : DiskRep w d mb E S.room S.used S.left S.ops)
    (dd nn wb nb nc N : Nat) (name : ByteArray) (K : Nat) (caps : Array Value)
    (hd : w.cell? ⟨dd, 0, none⟩ = some (.pointer (some ⟨d, 0, none⟩))) (hn : w.cell? ⟨nn, 0, none⟩ = some (.slice (some ⟨nb, 0, none⟩) N nc)) (hN : 0 < N) (hn0 : w.cell? ⟨nb, 0, none⟩ = some (.string name)) (hwb : w.cell? ⟨wb, 0, none⟩ = some (.func (.func K) #[] caps))
    (hcf : ∀ (a : Value) (W : World), (callFunc K (#[a] ++ caps)).run Tryd.prog W = .ok (.enter K (#[a] ++ caps)) W)
    (hK : ∀ x W, aget E name = some x → Ext w W → Calls Tryd.prog K (#[.pointer (some ⟨x.fb, 0, none⟩)] ++ caps) W fun e w' => e = .returned (.tuple #[]) ∧ RepTo W d mb E S' w') :
    Calls Tryd.prog 56 #[.pointer (some ⟨dd, 0, none⟩), .pointer (some ⟨nn, 0, none⟩), .pointer (some ⟨wb, 0, none⟩)] w (With1Post E d mb S S' name w) := by
  have c0 : w.cell? ⟨d, 0, none⟩ = some (.map (some mb)) := by rw [cell_of_block h.head]; rfl
  have hz : ∀ w : World, (zeroValue 60).run Tryd.prog w = .ok (.pointer none) w := fun _ => by kernel_rfl
  have hN' : (0 : Int) < (N : Int) := by omega
  cases hx : aget E name with
  | none =>
    have hlk : ∀ k, (Instr.lookup 47 (.map (some mb)) (.string name) false).run Tryd.prog (w.drewN k) = .ok (.pointer none) (w.drewN k) := by
      intro k
      have := (h.ext (Ext.drewN w k)).map.lookup (P := Tryd.prog) (string_kind Tryd.underlying9) Tryd.underlying47 (.pointer none) (hz _) name false
      rw [ptrs, aget_amap, hx] at this
      simpa only [Option.map_none, Option.getD_none, Bool.false_eq_true, if_false] using this
    have Hx := Lib.hid hx
    clear hx hK hcf hz
    go_enter Tryd.func56, Tryd.ntmps56
    go_wp2_with fail
    go_quiet (fail)
    go_wp2_with fail
    go_ret
    unfold With1Post
    rw [Hx.out]
    exact ⟨rfl, Ext.drewN _ _⟩
  | some x =>
    have hlk : ∀ k, (Instr.lookup 47 (.map (some mb)) (.string name) false).run Tryd.prog (w.drewN k) = .ok (.pointer (some ⟨x.fb, 0, none⟩)) (w.drewN k) := by
      intro k
      have := (h.ext (Ext.drewN w k)).map.lookup (P := Tryd.prog) (string_kind Tryd.underlying9) Tryd.underlying47 (.pointer none) (hz _) name false
      rw [ptrs, aget_amap, hx] at this
      simpa only [Option.map_some, Option.getD_some, Bool.false_eq_true, if_false] using this
    have hcf' := fun W => hcf (.pointer (some ⟨x.fb, 0, none⟩)) W
    have HK := Lib.hid (fun W => hK x W hx); have Hx := Lib.hid hx
    clear hx hK hcf hz
    go_enter Tryd.func56, Tryd.ntmps56
    go_wp2_with fail
    go_quiet (fail)
    go_wp2_with fail
    refine (HK.out _ (Ext.drewN _ _)).mono ?_
    rintro e w' ⟨rfl, hto⟩
    have Hto := Lib.hid hto; clear hto
    go_wp2_with fail
    go_ret
    unfold With1Post
    rw [Hx.out]
    obtain ⟨E', r1, r2, r3, r4⟩ := Hto.out
    exact ⟨rfl, E', r1, r2, (Chg.of_ext (Ext.drewN _ _)).trans r3 (fun _ _ h => h), r4⟩

theorem cf_with1 (caps : Array Value) : ∀ W : World, (callFunc 56 caps).run Tryd.prog W = .ok (.enter 56 caps) W := by
  intro W
  simp [go_sem]

/-- An operation on a file that must be there. -/
def DiskS.onFile (S : DiskS) (ns : List ByteArray) (name : ByteArray) (S' : DiskS) : Int × DiskS :=
  S.doing ns (match aget S.files name with | none => (13, S) | some _ => (0, S'))

set_option maxHeartbeats 2000000 in
theorem with_any {w : World} {d mb : Nat} {E : List (ByteArray × FileX)} {S S' : DiskS} (ok : S.Ok) (hops : S.ops < 4611686018427387904) (h : DiskRep w d mb E S.room S.used S.left S.ops) (hfs : fs E = S.files)
    (hS' : S'.room = S.room ∧ S'.left = S.left ∧ S'.ops = S.ops) (ns : List ByteArray) (name : ByteArray) (hname : ns[0]? = some name) (nb nc : Nat) (hn : Src w 1 (.slice (some ⟨nb, 0, none⟩) ns.length nc) ns.length (strs ns)) (hl : ∀ s ∈ ns, s.size ≤ maxLen) (hfew : ns.length ≤ 10)
    (K : Nat) (caps : Array Value)
    (hcf : ∀ (a : Value) (W : World), (callFunc K (#[a] ++ caps)).run Tryd.prog W = .ok (.enter K (#[a] ++ caps)) W)
    (hK : ∀ x W, aget E name = some x → Ext w W → Calls Tryd.prog K (#[.pointer (some ⟨x.fb, 0, none⟩)] ++ caps) W fun e w' => e = .returned (.tuple #[]) ∧ RepTo W d mb E S' w') :
    Calls Tryd.prog 39 #[.pointer (some ⟨d, 0, none⟩), .slice (some ⟨nb, 0, none⟩) ns.length nc, .func (.func K) #[] caps] w fun e w' =>
      e = .returned (.int .i64 (S.onFile ns name S').1) ∧ DiskTo w d (foot d mb E) (S.onFile ns name S').2 w' := by
  have Hrep := Lib.hid h; have Hfs := Lib.hid hfs; have Hn := Lib.hid hn; have Hl := Lib.hid hl; have HK := Lib.hid hK; have Hcf := Lib.hid hcf; have Hname := Lib.hid hname
  clear h hfs hn hl hK hcf hname
  obtain ⟨N, hN⟩ : ∃ N, N = ns.length := ⟨_, rfl⟩
  rw [← hN]
  have HN := Lib.hid hN; clear hN
  go_enter Tryd.func39, Tryd.ntmps39
  go_wp2_with fail
  generalize hW : World.alloc _ _ = W
  have hx : Ext w W := by subst hW; exact (((Ext.refl w).alloc _).alloc _).alloc _
  have q1 : W.cell? ⟨w.heap.size, 0, none⟩ = some (.pointer (some ⟨d, 0, none⟩)) := by subst hW; simp [go_sem]
  have q2 : W.cell? ⟨w.heap.size + 1, 0, none⟩ = some (.slice (some ⟨nb, 0, none⟩) N nc) := by subst hW; simp [go_sem]
  have q3 : W.cell? ⟨w.heap.size + 1 + 1, 0, none⟩ = some (.func (.func K) #[] caps) := by subst hW; simp [go_sem]
  clear hW
  have hrepW := Hrep.out.ext hx
  have hsW := Hn.out.ext hx
  have hn0 := strs_cell hsW Hname.out
  have hNpos : 0 < N := by rw [HN.out]; exact (List.getElem?_eq_some_iff.1 Hname.out).1
  let err : Int := match aget E name with | none => 13 | some _ => 0
  let R : World → Prop := fun w' => match aget E name with | none => Ext W w' | some _ => RepTo W d mb E S' w'
  have hK := fun (_ : S.left ≠ 0) (_ : ns.all nameB = true) => (with1_any (S := S) hrepW w.heap.size (w.heap.size + 1) (w.heap.size + 1 + 1) nb nc N name K caps q1 q2 hNpos hn0 q3 Hcf.out (fun x V hx' hV => HK.out x V hx' (hx.trans hV))).mono (R' := fun e w' => e = .returned (.int .i64 err) ∧ R w' ∧ (err = 0 → ∃ used', w'.heap[d]? = some (.cells #[.map (some mb), .int .i64 S.room, .int .i64 used', .int .i64 S.left, .int .i64 S.ops] 49 (0, 0)))) (by
    intro e w' hp
    unfold With1Post at hp
    show e = .returned (.int .i64 (match aget E name with | none => 13 | some _ => 0)) ∧ (match aget E name with | none => Ext W w' | some _ => RepTo W d mb E S' w') ∧ ((match aget E name with | none => (13 : Int) | some _ => 0) = 0 → _)
    cases hc : aget E name with
    | none => rw [hc] at hp; exact ⟨hp.1, hp.2, fun h => by simp at h⟩
    | some x =>
      rw [hc] at hp
      obtain ⟨he, E', r1, r2⟩ := hp
      refine ⟨he, ⟨E', r1, r2⟩, fun _ => ⟨S'.used, ?_⟩⟩
      have := r1.head
      rw [hS'.1, hS'.2.1, hS'.2.2] at this
      exact this)
  have hsW' : Src W 1 (.slice (some ⟨nb, 0, none⟩) ns.length nc) ns.length (strs ns) := hsW
  have hdo := do_any hrepW.head nb nc ns hsW' Hl.out hfew ok.ops0 hops ok.left0 ok.left1 56 _ (cf_with1 _) err R hK
  rw [← HN.out] at hdo
  refine hdo.mono ?_
  clear hK hdo q1 q2 q3 hn0 hsW hsW'
  intro e w' hpost
  have hres : ∃ r : Int, e = .returned (.int .i64 r) ∧ r = (S.onFile ns name S').1 ∧ DiskTo w d (foot d mb E) (S.onFile ns name S').2 w' := by
    unfold DoPost at hpost
    unfold DiskS.onFile DiskS.doing
    have hSf : aget S.files name = (aget E name).map (·.f) := by rw [← Hfs.out, fs, aget_amap]
    split at hpost
    · rename_i x hx'
      obtain ⟨rfl, rfl⟩ := hpost
      rw [hx']
      exact ⟨x, rfl, rfl, DiskTo.same ⟨mb, E, Hrep.out, Hfs.out, rfl⟩ hx⟩
    · rename_i hx'
      obtain ⟨rfl, hh⟩ := hpost
      rw [hx', hSf]
      cases hc : aget E name with
      | none =>
        have e1 : err = 13 := by show (match aget E name with | none => (13 : Int) | some _ => 0) = 13; rw [hc]
        rcases hh with ⟨_, hR⟩ | ⟨he, _⟩
        · have hR' : Ext W w' := by have : (match aget E name with | none => Ext W w' | some _ => RepTo W d mb E S' w') := hR; rw [hc] at this; exact this
          exact ⟨err, rfl, by rw [e1]; rfl, DiskTo.same ⟨mb, E, Hrep.out, Hfs.out, rfl⟩ (hx.trans hR')⟩
        · rw [e1] at he; simp at he
      | some x =>
        have e1 : err = 0 := by show (match aget E name with | none => (13 : Int) | some _ => 0) = 0; rw [hc]
        rcases hh with ⟨he, _⟩ | ⟨_, w1, hR, rfl⟩
        · exact absurd e1 he
        · have hR' : RepTo W d mb E S' w1 := by have : (match aget E name with | none => Ext W w1 | some _ => RepTo W d mb E S' w1) := hR; rw [hc] at this; exact this
          obtain ⟨E', r1, r2, r3, r4⟩ := hR'
          obtain ⟨g1, g2⟩ := bump_rep r1
          rw [hS'.2.1, hS'.2.2] at g1 g2
          refine ⟨err, rfl, by rw [e1]; rfl, DiskTo.pre hx ⟨foot d mb E', ⟨mb, E', ?_, r2, rfl⟩, r3.trans g2 (fun i hi e => by rw [e]; simp [foot]), r4⟩⟩
          simp only [DiskS.count, Option.map_some, if_true, hS'.2.1, hS'.2.2]
          exact g1
  obtain ⟨r, rfl, hr, hto⟩ := hres
  go_wp2_with fail
  go_ret
  exact ⟨by rw [← hr]; rfl, hto⟩

end Go.Proofs.YtfablbhkmddnbaaDoor
