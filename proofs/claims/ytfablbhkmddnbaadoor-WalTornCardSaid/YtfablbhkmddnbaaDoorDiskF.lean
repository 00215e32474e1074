/- The contract of disk's Rename. -/
import Derived.Test.YtfablbhkmddnbaaDoorDiskE
namespace Go.Proofs.YtfablbhkmddnbaaDoor
open Go.RowKit Go.Sort

/-- A file with another name. -/
theorem DiskRep.move {w w' : World} {d mb : Nat} {E : List (ByteArray × FileX)} {old new : ByteArray} {x : FileX} {room used left ops : Int} (h : DiskRep w d mb E room used left ops) (hx : aget E old = some x) (hn : aget (adel E old) new = none)
    (hc : Chg (· = mb) w w') (hm : MapIs (fun s : ByteArray => Value.string s) w' mb (aput (adel (ptrs E) old) new (.pointer (some ⟨x.fb, 0, none⟩)))) :
    DiskRep w' d mb (aput (adel E old) new x) room used left ops ∧ ∀ b ∈ foot d mb (aput (adel E old) new x), b ∈ foot d mb E := by
  have hput := aput_new x hn
  rw [hput]
  obtain ⟨E1, E2, hE, _, hdel⟩ := aget_split hx
  have hperm : List.Perm (foot d mb (adel E old ++ [(new, x)])) (foot d mb E) := by
    rw [hdel, hE]
    refine List.Perm.trans ?_ (foot_perm d mb E1 E2 old x).symm
    have : foot d mb (E1 ++ E2 ++ [(new, x)]) = footR d mb E1 E2 ++ x.blocks := by simp [foot, footR]
    rw [this]
    exact List.perm_append_comm
  have hap := h.apart
  have hap2 := hap
  simp only [foot, List.nodup_cons, List.mem_cons, not_or] at hap2
  refine ⟨⟨?_, ?_, ?_, hperm.nodup_iff.2 hap, ?_⟩, fun b hb => hperm.mem_iff.1 hb⟩
  · rw [hc.block d (block_lt h.head) hap2.1.1]; exact h.head
  · have e : ptrs (adel E old ++ [(new, x)]) = aput (adel (ptrs E) old) new (.pointer (some ⟨x.fb, 0, none⟩)) := by
      rw [← hput]
      have e1 : adel (ptrs E) old = ptrs (adel E old) := adel_amap _ E old
      rw [e1]; exact (aput_amap (fun x : FileX => Value.pointer (some ⟨x.fb, 0, none⟩)) (adel E old) new x).symm
    rw [e]; exact hm
  · intro p hp
    have hpE : ∃ k, (k, p.2) ∈ E := by
      rcases List.mem_append.1 hp with hp | hp
      · exact ⟨p.1, (adel_sub E old).subset hp⟩
      · simp at hp; subst hp; exact ⟨old, aget_mem hx⟩
    obtain ⟨k, hk⟩ := hpE
    refine (h.files (k, p.2) hk).chg hc (fun b hb e => ?_)
    subst e
    exact hap2.2.1 (List.mem_flatMap.2 ⟨(k, p.2), hk, hb⟩)
  · rw [List.map_append, List.nodup_append]
    refine ⟨h.names.sublist ((adel_sub E old).map _), by simp, fun a ha b hb e => ?_⟩
    simp at hb; subst hb; subst e
    exact (aget_none_iff.1 hn) ha

def DiskS.renamed (S : DiskS) (old new : ByteArray) : DiskS :=
  if old = new then S else
  match aget S.files old with
  | none => S
  | some f => { S.drop new with files := aput (adel (S.drop new).files old) new f }
def DiskS.rename (S : DiskS) (old new : ByteArray) : Int × DiskS := S.onFile [old, new] old (S.renamed old new)

theorem cf_rename1 (a b c d : Value) : ∀ W : World, (callFunc 74 (#[a] ++ #[b, c, d])).run Tryd.prog W = .ok (.enter 74 (#[a] ++ #[b, c, d])) W := by
  intro W; simp [go_sem]

theorem renamed_same (S : DiskS) (old new : ByteArray) : (S.renamed old new).room = S.room ∧ (S.renamed old new).left = S.left ∧ (S.renamed old new).ops = S.ops := by
  unfold DiskS.renamed
  split
  · simp
  · split
    · simp
    · exact drop_same S new

/-- What 'drop' comes to, whether the file is there or not. -/
theorem drop_any {w : World} {d mb : Nat} {E : List (ByteArray × FileX)} {S : DiskS} (ok : S.Ok) (h : DiskRep w d mb E S.room S.used S.left S.ops) (hfs : fs E = S.files) (name : ByteArray) :
    Calls Tryd.prog 45 #[.pointer (some ⟨d, 0, none⟩), .string name] w fun e w' => e = .returned (.tuple #[]) ∧ DiskRep w' d mb (adel E name) S.room (S.drop name).used S.left S.ops ∧ fs (adel E name) = (S.drop name).files ∧ Chg (fun b => b = d ∨ b = mb) w w' := by
  cases hx : aget E name with
  | none =>
    have hx' : aget S.files name = none := by rw [← hfs, fs, aget_amap, hx]; rfl
    have hdr : S.drop name = S := by simp [DiskS.drop, hx']
    refine (drop_none h name hx).mono ?_
    rintro e w' ⟨rfl, rfl⟩
    rw [hdr, adel_none hx]
    exact ⟨rfl, h, hfs, Chg.refl _ _⟩
  | some x =>
    have hx' : aget S.files name = some x.f := by rw [← hfs, fs, aget_amap, hx]; rfl
    have hsm : x.f.bytes.length ≤ 1048576 := ok.small _ (aget_mem hx')
    have hdr : S.drop name = { S with files := adel S.files name, used := S.used - x.f.bytes.length } := by simp [DiskS.drop, hx']
    refine (drop_some h name x hx hsm (by have := ok.used1; have := ok.room1; omega) ok.used0).mono ?_
    rintro e w' ⟨rfl, r1, r2⟩
    rw [hdr]
    refine ⟨rfl, r1, ?_, r2⟩
    show fs _ = adel S.files name
    rw [← hfs]; exact (adel_amap _ E name).symm

set_option maxHeartbeats 4000000 in
set_option maxRecDepth 100000 in
theorem rename1_any {W : World} {d mb : Nat} {E : List (ByteArray × FileX)} {S : DiskS} (ok : S.Ok) (h : DiskRep W d mb E S.room S.used S.left S.ops) (hfs : fs E = S.files) (oo nn dd : Nat) (old new : ByteArray) (x : FileX) (hx : aget E old = some x)
    (ho : W.cell? ⟨oo, 0, none⟩ = some (.string old)) (hn : W.cell? ⟨nn, 0, none⟩ = some (.string new)) (hd : W.cell? ⟨dd, 0, none⟩ = some (.pointer (some ⟨d, 0, none⟩)))
    (hoo : oo ∉ foot d mb E) (hnn : nn ∉ foot d mb E) (hdd : dd ∉ foot d mb E) :
    Calls Tryd.prog 74 #[.pointer (some ⟨x.fb, 0, none⟩), .pointer (some ⟨oo, 0, none⟩), .pointer (some ⟨nn, 0, none⟩), .pointer (some ⟨dd, 0, none⟩)] W fun e w' => e = .returned (.tuple #[]) ∧ RepTo W d mb E (S.renamed old new) w' := by
  have hx' : aget S.files old = some x.f := by rw [← hfs, fs, aget_amap, hx]; rfl
  by_cases hon : old = new
  · have hdr : S.renamed old new = S := by simp [DiskS.renamed, hon]
    have heq : (old.toList == new.toList) = true := by simp [hon]
    rw [hdr]
    have H := Lib.hid h; have Hfs := Lib.hid hfs
    clear h hfs hx hx' hdr hon
    go_enter Tryd.func74, Tryd.ntmps74
    go_wp2_with fail
    go_end0
    exact ⟨rfl, E, H.out, Hfs.out, Chg.refl _ _, fun b hb => .inl hb⟩
  · have hdr : S.renamed old new = { S.drop new with files := aput (adel (S.drop new).files old) new x.f } := by simp [DiskS.renamed, hon, hx']
    have heq : (old.toList == new.toList) = false := by
      rw [← beq_toListBytes, bytes_beq]; simp [hon]
    have hcon := drop_any ok h hfs new
    rw [hdr]
    have Hcon := Lib.hid hcon; have H := Lib.hid h; have Hfs := Lib.hid hfs; have Hx := Lib.hid hx; have Hon := Lib.hid hon
    have hlt := h.foot_lt
    clear hcon h hfs hx hx' hdr hon
    have loo := World.block_lt_of_cell? W _ ho
    have lnn := World.block_lt_of_cell? W _ hn
    have ldd := World.block_lt_of_cell? W _ hd
    go_enter Tryd.func74, Tryd.ntmps74
    go_wp2_with fail
    refine Hcon.out.mono ?_
    rintro e w1 ⟨rfl, r1, r2, r3⟩
    have hsub : ∀ b, (b = d ∨ b = mb) → b ∈ foot d mb E := fun b e => by rcases e with e | e <;> rw [e] <;> simp [foot]
    have p1 : w1.cell? ⟨oo, 0, none⟩ = some (.string old) := by rw [r3.cell (p := ⟨oo, 0, none⟩) loo (fun e => hoo (hsub _ e))]; exact ho
    have p2 : w1.cell? ⟨nn, 0, none⟩ = some (.string new) := by rw [r3.cell (p := ⟨nn, 0, none⟩) lnn (fun e => hnn (hsub _ e))]; exact hn
    have p3 : w1.cell? ⟨dd, 0, none⟩ = some (.pointer (some ⟨d, 0, none⟩)) := by rw [r3.cell (p := ⟨dd, 0, none⟩) ldd (fun e => hdd (hsub _ e))]; exact hd
    have p4 : w1.cell? ⟨d, 0, none⟩ = some (.map (some mb)) := by rw [cell_of_block r1.head]; rfl
    have R1 := Lib.hid r1; have R2 := Lib.hid r2; have R3 := Lib.hid r3
    have Ho := Lib.hid p1; have Hn := Lib.hid p2; have Hd := Lib.hid p3; have Hc0 := Lib.hid p4
    clear r1 r2 r3 ho hn hd
    go_wp2_with fail
    refine wp_region_split_lit [] [0, 1, 2, 3, 4] [5] (by kernel_rfl) (by kernel_rfl) (fun _ _ dd _ _ hh => by cases dd <;> exact hh) ?_
    simp only [pickOps, List.getElem?_cons_succ, List.getElem?_cons_zero]
    refine wpQuiet_nil ?_
    repeat (go_big_quiet_step (fail))
    refine wpQuiet_nil ?_
    intro w2 hw'
    have hx2 : Ext w1 w2 := by obtain ⟨k, rfl⟩ := hw'; exact Ext.drewN _ _
    clear hw' p1 p2 p3 p4
    obtain ⟨w3, hdel, hm3, hch3⟩ := (R1.out.ext hx2).map.delete (P := Tryd.prog) (string_kind Tryd.underlying9) Tryd.underlying47 old 9 0
    have hc3 : Chg (· = mb) w1 w3 := (Chg.of_ext hx2).trans hch3 (fun _ _ e => e)
    have hne : ∀ b, b ∉ foot d mb E → b ≠ mb := fun b hb e => hb (by rw [e]; simp [foot])
    have hap := R1.out.apart
    simp only [foot, List.nodup_cons, List.mem_cons, not_or] at hap
    have q2 : w3.cell? ⟨nn, 0, none⟩ = some (.string new) := by rw [hc3.cell (p := ⟨nn, 0, none⟩) (World.block_lt_of_cell? w1 _ Hn.out) (hne _ hnn)]; exact Hn.out
    have q3 : w3.cell? ⟨dd, 0, none⟩ = some (.pointer (some ⟨d, 0, none⟩)) := by rw [hc3.cell (p := ⟨dd, 0, none⟩) (World.block_lt_of_cell? w1 _ Hd.out) (hne _ hdd)]; exact Hd.out
    have q4 : w3.cell? ⟨d, 0, none⟩ = some (.map (some mb)) := by rw [hc3.cell (p := ⟨d, 0, none⟩) (World.block_lt_of_cell? w1 _ Hc0.out) hap.1.1]; exact Hc0.out
    have Hm3 := Lib.hid hm3; have Hc3 := Lib.hid hc3
    clear hm3 hch3 hc3 hx2 hap
    go_wp2_with (at_delete; refine wpList_delete_run rfl rfl _ _ _ _ rfl _ _ w3 rfl rfl hdel ?_)
    clear hdel
    refine wp_region_split_lit [] [0, 1, 2, 3, 4, 5] [6] (by kernel_rfl) (by kernel_rfl) (fun _ _ dd _ _ hh => by cases dd <;> exact hh) ?_
    simp only [pickOps, List.getElem?_cons_succ, List.getElem?_cons_zero]
    refine wpQuiet_nil ?_
    repeat (go_big_quiet_step (fail))
    refine wpQuiet_nil ?_
    intro w4 hw'
    have hx4 : Ext w3 w4 := by obtain ⟨k, rfl⟩ := hw'; exact Ext.drewN _ _
    clear hw' q2 q3 q4
    obtain ⟨w5, hup, hm5, hch5⟩ := (Hm3.out.ext hx4).update (P := Tryd.prog) (string_kind Tryd.underlying9) Tryd.underlying47 new (.pointer (some ⟨x.fb, 0, none⟩))
    have Hm5 := Lib.hid hm5
    have Hc5 := Lib.hid (show Chg (· = mb) w1 w5 from (Hc3.out.trans (Chg.of_ext (S := fun _ => False) hx4) (fun _ _ e => e.elim)).trans hch5 (fun _ _ e => e))
    clear hm5 hch5 hx4
    go_wp2_with fail
    go_end0
    have hxo : aget (adel E new) old = some x := by rw [aget_adel_other Hon.out]; exact Hx.out
    have hno : aget (adel (adel E new) old) new = none := by
      rw [aget_adel_other (Ne.symm Hon.out)]; exact aget_adel_same H.out.names new
    obtain ⟨g1, g2⟩ := R1.out.move hxo hno Hc5.out Hm5.out
    refine ⟨rfl, _, ?_, ?_, ((R3.out.mono (T := (· ∈ foot d mb E)) (fun i hi e => hsub _ e)).trans Hc5.out (fun i hi e => by rw [e]; simp [foot])), fun b hb => .inl ((foot_sub (adel_sub E new)).subset (g2 b hb))⟩
    · have := drop_same S new
      show DiskRep w5 d mb _ (S.drop new).room (S.drop new).used (S.drop new).left (S.drop new).ops
      rw [this.1, this.2.1, this.2.2]; exact g1
    · show fs _ = aput (adel (S.drop new).files old) new x.f
      rw [← R2.out]
      have e1 : adel (fs (adel E new)) old = fs (adel (adel E new) old) := adel_amap _ (adel E new) old
      rw [e1]
      exact (aput_amap (fun x : FileX => x.f) (adel (adel E new) old) new x).symm

theorem two_names {w : World} {b : Nat} {s t : ByteArray} (h : w.cell? ⟨b, 0, none⟩ = some (.string s)) (h2 : w.cell? ⟨b, 1, none⟩ = some (.string t)) : Src w 1 (.slice (some ⟨b, 0, none⟩) [s, t].length 2) [s, t].length (strs [s, t]) := by
  refine .inr ⟨_, _, rfl, rfl, fun j u hj => ?_, ?_⟩
  · have e : (⟨b, 0, none⟩ : Addr).add j = ⟨b, j, none⟩ := by unfold Addr.add; split <;> simp_all
    rw [e]
    match j, hj with
    | 0, hj => simp [strs] at hj; subst hj; exact h
    | 1, hj => simp [strs] at hj; subst hj; exact h2
    | j + 2, hj => simp [strs] at hj
  · intro u hu
    simp [strs] at hu; rcases hu with rfl | rfl <;> rfl

set_option maxHeartbeats 2000000 in
theorem disk_rename {w : World} {d : Nat} {S : DiskS} {B : List Nat} (ok : S.Ok) (hops : S.ops < 4611686018427387904) (h : DiskAt w d S B) (old new : ByteArray) (hold : old.size ≤ maxLen) (hnew : new.size ≤ maxLen) :
    Calls Tryd.prog 52 #[.pointer (some ⟨d, 0, none⟩), .string old, .string new] w fun e w' => e = .returned (.int .i64 (S.rename old new).1) ∧ DiskTo w d B (S.rename old new).2 w' := by
  obtain ⟨mb, E, hrep, hfs, rfl⟩ := h
  have Hlt := Lib.hid hrep.foot_lt
  have Hrep := Lib.hid hrep; have Hfs := Lib.hid hfs
  clear hrep hfs
  go_enter Tryd.func52, Tryd.ntmps52
  go_wp2_with fail
  generalize hW : World.alloc _ _ = W
  have hx : Ext w W := by subst hW; exact ((((Ext.refl w).alloc _).alloc _).alloc _).alloc _
  have q1 : W.cell? ⟨w.heap.size, 0, none⟩ = some (.pointer (some ⟨d, 0, none⟩)) := by subst hW; simp [go_sem]
  have q2 : W.cell? ⟨w.heap.size + 1, 0, none⟩ = some (.string old) := by subst hW; simp [go_sem]
  have q3 : W.cell? ⟨w.heap.size + 1 + 1, 0, none⟩ = some (.string new) := by subst hW; simp [go_sem]
  have q4 : W.cell? ⟨w.heap.size + 1 + 1 + 1, 0, none⟩ = some (.string old) := by subst hW; simp [go_sem]
  have q5 : W.cell? ⟨w.heap.size + 1 + 1 + 1, 1, none⟩ = some (.string new) := by subst hW; simp [go_sem]
  clear hW
  have l1 := World.block_lt_of_cell? W _ q1
  have l2 := World.block_lt_of_cell? W _ q2
  have l3 := World.block_lt_of_cell? W _ q3
  have hcon := with_any ok hops (Hrep.out.ext hx) Hfs.out (renamed_same S old new) [old, new] old rfl (w.heap.size + 1 + 1 + 1) 2 (two_names q4 q5) (by intro s hs; simp at hs; rcases hs with rfl | rfl <;> assumption) (by simp) 74 #[.pointer (some ⟨w.heap.size + 1, 0, none⟩), .pointer (some ⟨w.heap.size + 1 + 1, 0, none⟩), .pointer (some ⟨w.heap.size, 0, none⟩)] (fun a => cf_rename1 a _ _ _)
    (fun x V hx' hV => rename1_any ok ((Hrep.out.ext hx).ext hV) Hfs.out (w.heap.size + 1) (w.heap.size + 1 + 1) w.heap.size old new x hx' (by rw [hV.cell l2]; exact q2) (by rw [hV.cell l3]; exact q3) (by rw [hV.cell l1]; exact q1)
      (fun hb => by have := Hlt.out _ hb; omega) (fun hb => by have := Hlt.out _ hb; omega) (fun hb => by have := Hlt.out _ hb; omega))
  refine hcon.mono ?_
  rintro e w' ⟨rfl, hto⟩
  have Hto := Lib.hid (DiskTo.pre hx hto)
  clear hto hcon q1 q2 q3 q4 q5 l1 l2 l3
  go_wp2_with fail
  go_ret
  exact ⟨rfl, Hto.out⟩

end Go.Proofs.YtfablbhkmddnbaaDoor
