/- Contracts of disk's drop, Delete, Sync. -/
import Derived.Test.YtcmolfhjkkfedaaDiskW
namespace Go.Proofs.Ytcmolfhjkkfedaa
open Go.RowKit Go.Sort

theorem flatMap_sub {α β : Type} {f : α → List β} {l l' : List α} (h : List.Sublist l' l) : List.Sublist (l'.flatMap f) (l.flatMap f) := by
  induction h with
  | slnil => exact List.Sublist.refl _
  | cons a _ ih => rw [List.flatMap_cons]; exact ih.trans (List.sublist_append_right _ _)
  | cons_cons a _ ih => rw [List.flatMap_cons, List.flatMap_cons]; exact List.Sublist.append (List.Sublist.refl _) ih

theorem foot_sub {d mb : Nat} {E E' : List (ByteArray × FileX)} (h : List.Sublist E' E) : List.Sublist (foot d mb E') (foot d mb E) :=
  List.Sublist.cons_cons _ (List.Sublist.cons_cons _ (flatMap_sub h))

/-- A file taken away. -/
theorem DiskRep.del {w w' : World} {d mb : Nat} {E : List (ByteArray × FileX)} {name : ByteArray} {room used left ops room' used' left' ops' : Int} {T : Nat → Prop} (h : DiskRep w d mb E room used left ops)
    (hc : Chg T w w') (hT : ∀ b, T b → b = d ∨ b = mb)
    (hd : w'.heap[d]? = some (.cells #[.map (some mb), .int .i64 room', .int .i64 used', .int .i64 left', .int .i64 ops'] 59 (0, 0)))
    (hm : MapIs (fun s : ByteArray => Value.string s) w' mb (adel (ptrs E) name)) :
    DiskRep w' d mb (adel E name) room' used' left' ops' ∧ ∀ b ∈ foot d mb (adel E name), b ∈ foot d mb E := by
  have hap := h.apart
  have hsub := adel_sub E name
  refine ⟨⟨hd, ?_, ?_, hap.sublist (foot_sub hsub), h.names.sublist (hsub.map _)⟩, fun b hb => (foot_sub hsub).subset hb⟩
  · have e : ptrs (adel E name) = adel (ptrs E) name := (adel_amap _ E name).symm
    rw [e]; exact hm
  · intro p hp
    refine (h.files p (hsub.subset hp)).chg hc (fun b hb hs => ?_)
    have hb' : b ∈ E.flatMap fun p => p.2.blocks := List.mem_flatMap.2 ⟨p, hsub.subset hp, hb⟩
    simp only [foot, List.nodup_cons, List.mem_cons, not_or] at hap
    rcases hT b hs with e | e
    · subst e; exact hap.1.2 hb'
    · subst e; exact hap.2.1 hb'

theorem wpList_delete_run {P : Program} {w : World} {ops : Array Oper} {rest : List Oper} {o : Oper} {a : Act} {Q : Exit → Act → World → Prop} (hgd : o.guard = none) (hdst : o.dst = none) (m x : Operand) (t k : TypeId)
    (ho : o.op = .call { callee := .builtin .delete, args := #[m, x], argTypes := #[t, k] }) (mv kv : Value) (w' : World) (hm : a.eval m = mv) (hx : a.eval x = kv)
    (hr : (Builtin.delete_ #[t, k] o.type #[mv, kv]).run P w = .ok (.tuple #[]) w') (h : wpList P ops Q rest a w') :
    wpList P ops Q (o :: rest) a w := by
  refine wpList_plain hgd fun K hK => ?_
  unfold Oper.wp execOp
  simp only [ho, resolve, invoke, builtin, Sem.run_bind, Sem.run_pure, Result.andThen_ok, List.map_toArray, List.map_cons, List.map_nil, hm, hx, hr]
  simp only [Oper.upon, hdst, Act.put]
  exact hK _ _ h

set_option maxHeartbeats 2000000 in
theorem drop_none {w : World} {d mb : Nat} {E : List (ByteArray × FileX)} {room used left ops : Int} (h : DiskRep w d mb E room used left ops) (name : ByteArray) (hx : aget E name = none) :
    Calls Try.prog 35 #[.pointer (some ⟨d, 0, none⟩), .string name] w fun e w' => e = .returned (.tuple #[]) ∧ w = w' := by
  have c0 : w.cell? ⟨d, 0, none⟩ = some (.map (some mb)) := by rw [cell_of_block h.head]; rfl
  have hz : ∀ w : World, (zeroValue 61).run Try.prog w = .ok (.pointer none) w := fun _ => by kernel_rfl
  have hlk : (Instr.lookup 57 (.map (some mb)) (.string name) false).run Try.prog w = .ok (.pointer none) w := by
    have := h.map.lookup (P := Try.prog) (string_kind Try.underlying9) Try.underlying57 (.pointer none) (hz _) name false
    rw [ptrs, aget_amap, hx] at this
    simpa only [Option.map_none, Option.getD_none, Bool.false_eq_true, if_false] using this
  clear hx hz
  go_enter Try.func35, Try.ntmps35
  go_wp2_with fail
  go_end0
  exact ⟨rfl, rfl⟩

set_option maxHeartbeats 4000000 in
set_option maxRecDepth 100000 in
theorem drop_some {w : World} {d mb : Nat} {E : List (ByteArray × FileX)} {room used left ops : Int} (h : DiskRep w d mb E room used left ops) (name : ByteArray) (x : FileX) (hx : aget E name = some x) (hsm : x.f.bytes.length ≤ 1048576) (hu : used ≤ 1073741824) (hu0 : 0 ≤ used) :
    Calls Try.prog 35 #[.pointer (some ⟨d, 0, none⟩), .string name] w fun e w' => e = .returned (.tuple #[]) ∧ DiskRep w' d mb (adel E name) room (used - x.f.bytes.length) left ops ∧ Chg (fun b => b = d ∨ b = mb) w w' := by
  have c0 : w.cell? ⟨d, 0, none⟩ = some (.map (some mb)) := by rw [cell_of_block h.head]; rfl
  have c2 : w.cell? ⟨d, 2, none⟩ = some (.int .i64 used) := by rw [cell_of_block h.head]; rfl
  have fz2 : w.frozen? ⟨d, 2, none⟩ = false := free_of_block h.head 2
  have hz : ∀ w : World, (zeroValue 61).run Try.prog w = .ok (.pointer none) w := fun _ => by kernel_rfl
  have hlk : (Instr.lookup 57 (.map (some mb)) (.string name) false).run Try.prog w = .ok (.pointer (some ⟨x.fb, 0, none⟩)) w := by
    have := h.map.lookup (P := Try.prog) (string_kind Try.underlying9) Try.underlying57 (.pointer none) (hz _) name false
    rw [ptrs, aget_amap, hx] at this
    simpa only [Option.map_some, Option.getD_some, Bool.false_eq_true, if_false] using this
  have hf : FileAt w x := h.files (name, x) (aget_mem hx)
  have f0 : w.cell? ⟨x.fb, 0, none⟩ = some x.v := by rw [cell_of_block hf.head]; rfl
  obtain ⟨xa, xc, hxv⟩ := hf.row.shape
  rw [hxv] at f0
  have hdmb : d ≠ mb := by
    have := h.apart
    simp [foot] at this
    exact this.1.1
  have hsm' : (x.f.bytes.length : Int) ≤ 1048576 := by omega
  generalize hL : x.f.bytes.length = L at *
  clear hxv hf hz hx hsm
  go_enter Try.func35, Try.ntmps35
  go_wp2_with fail
  clear hlk
  refine wp_region_split_lit [] [0, 1, 2, 3, 4, 5, 6, 7, 8, 9, 10, 11] [12] (by kernel_rfl) (by kernel_rfl) (fun _ _ dd _ _ hh => by cases dd <;> exact hh) ?_
  simp only [pickOps, List.getElem?_cons_succ, List.getElem?_cons_zero]
  refine wpQuiet_nil ?_
  repeat (go_big_quiet_step (fail))
  refine wpQuiet_nil ?_
  intro _ hw'
  obtain ⟨nq, rfl⟩ := hw'
  obtain ⟨w2, hw2⟩ : ∃ w2, w2 = (w.drewN nq).setCell ⟨d, 2, none⟩ (.int .i64 (used - L)) := ⟨_, rfl⟩
  have hch2 : Chg (· = d) w w2 := by rw [hw2]; exact (Chg.of_ext (Ext.drewN w nq)).trans (setCell_chg _ _ _ _) (fun _ _ e => e)
  have b2 : w2.heap[d]? = some (.cells #[.map (some mb), .int .i64 room, .int .i64 (used - L), .int .i64 left, .int .i64 ops] 59 (0, 0)) := by
    rw [hw2]; exact setCell_block (w := w.drewN nq) h.head _
  have m2 := h.map.chg hch2 (Ne.symm hdmb)
  obtain ⟨w3, hdel, hm3, hch3⟩ := m2.delete (P := Try.prog) (string_kind Try.underlying9) Try.underlying57 name 9 0
  have e0 : w2.cell? ⟨d, 0, none⟩ = some (.map (some mb)) := by rw [cell_of_block b2]; rfl
  have H := Lib.hid h; have Hch2 := Lib.hid hch2; have Hb2 := Lib.hid b2; have Hm3 := Lib.hid hm3; have Hch3 := Lib.hid hch3
  have Hw2 := Lib.hid hw2.symm
  clear hch2 b2 m2 hm3 hch3 hw2 h
  go_wp2_with (at_delete; rw [Hw2.out]; refine wpList_delete_run rfl rfl _ _ _ _ rfl _ _ w3 rfl rfl hdel ?_)
  go_end0
  have hch : Chg (fun b => b = d ∨ b = mb) w w3 := (Hch2.out.mono (T := fun b => b = d ∨ b = mb) (fun _ _ e => .inl e)).trans Hch3.out (fun _ _ e => .inr e)
  have hb3 : w3.heap[d]? = some (.cells #[.map (some mb), .int .i64 room, .int .i64 (used - L), .int .i64 left, .int .i64 ops] 59 (0, 0)) := by
    rw [Hch3.out.block d (block_lt Hb2.out) hdmb]; exact Hb2.out
  exact ⟨rfl, (H.out.del hch (fun _ e => e) hb3 Hm3.out).1, hch⟩

end Go.Proofs.Ytcmolfhjkkfedaa
