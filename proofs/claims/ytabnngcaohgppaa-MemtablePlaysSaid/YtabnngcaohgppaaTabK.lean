/- memtable.Table: Take. -/
import Derived.Test.YtabnngcaohgppaaTabT
namespace Go.Proofs.Ytabnngcaohgppaa
open Go.RowKit Go.Sort Go.Lib

theorem MapIs.clear {α : Type} {P : Program} {kt et t : TypeId} {enc : α → Value} {w : World} {b : Nat} {m : List (α × Value)} (h : MapIs enc w b m) (hu : P.underlying t = some (.map kt et)) :
    ∃ w', (∀ ty, (Builtin.clear_ #[t] ty #[.map (some b)]).run P w = .ok (.tuple #[]) w') ∧ MapIs enc w' b [] ∧ Chg (· = b) w w' := by
  have hlt := h.lt
  obtain ⟨es, clock, hb, he, hp, hbd⟩ := h
  refine ⟨setBlk w b (.map #[] clock), fun ty => ?_, ⟨#[], clock, setBlk_same hlt, rfl, by simp, by simp⟩, setBlk_chg _ _ _⟩
  simp [Builtin.clear_, run_underlying hu, Sem.run, getObj, hb, setObj, setBlk]

theorem wpList_clear_run {P : Program} {w : World} {ops : Array Oper} {rest : List Oper} {o : Oper} {a : Act} {Q : Exit → Act → World → Prop} (hgd : o.guard = none) (hdst : o.dst = none) (m : Operand) (t : TypeId)
    (ho : o.op = .call { callee := .builtin .clear, args := #[m], argTypes := #[t] }) (mv : Value) (w' : World) (hm : a.eval m = mv)
    (hr : (Builtin.clear_ #[t] o.type #[mv]).run P w = .ok (.tuple #[]) w') (h : wpList P ops Q rest a w') :
    wpList P ops Q (o :: rest) a w := by
  refine wpList_plain hgd fun K hK => ?_
  unfold Oper.wp execOp
  simp only [ho, resolve, invoke, builtin, Sem.run_bind, Sem.run_pure, Result.andThen_ok, List.map_toArray, List.map_cons, List.map_nil, hm, hr]
  simp only [Oper.upon, hdst, Act.put]
  exact hK _ _ h

/-- What Take leaves. -/
structure TookTo (w : World) (d mb most : Nat) (T : List (ByteArray × Sl)) (v : Value) (L : List (ByteArray × Sl)) (w' : World) : Prop where
  tab : TabAt w' d mb [] 0 most
  row : Row w' 46 2 v L.length (prs L)
  names : L.map (·.1) = tabNames T
  pts : ∀ p ∈ L, p.2.l = tabPts T p.1
  ok : ∀ p ∈ L, p.2.Ok w'
  own : ∀ g, v.ownBlock = some g → w.heap.size ≤ g
  owns : ∀ p ∈ L, ∀ g, p.2.v.ownBlock = some g → w.heap.size ≤ g
  chg : Chg (fun b => b = d ∨ b = mb) w w'

set_option maxHeartbeats 4000000 in
set_option maxRecDepth 100000 in
theorem tab_take {w : World} {d mb : Nat} {T : List (ByteArray × Sl)} {cnt most : Nat} (h : TabAt w d mb T cnt most) (hT : T.length ≤ 69999) :
    Calls Try.prog 12 #[.pointer (some ⟨d, 0, none⟩)] w fun e w' => ∃ v L, e = .returned v ∧ TookTo w d mb most T v L w' := by
  have H := Lib.hid h
  clear h
  go_enter Try.func12, Try.ntmps12
  go_wp2_with fail
  refine (tab_parts H.out hT).mono ?_
  rintro e w1 ⟨v, L, rfl, hp⟩
  have HP := Lib.hid hp
  clear hp
  go_wp2_with fail
  have H1 := Lib.hid (H.out.ext HP.out.ext)
  refine (tab_none H1.out).mono ?_
  rintro e w2 ⟨rfl, rfl⟩
  have c0 : w1.cell? ⟨d, 0, none⟩ = some (.map (some mb)) := by have := cell_of_block H1.out.blk 0; simpa using this
  obtain ⟨w2, hcl, hmap, hchg⟩ := H1.out.map.clear (P := Try.prog) Try.underlying49
  have hb2 := (hchg.block d (block_lt H1.out.blk) H1.out.ne).trans H1.out.blk
  have HB2 := Lib.hid hb2
  have HMAP := Lib.hid hmap
  have HCH := Lib.hid hchg
  clear hmap hchg hb2
  have g0 : w2.cell? ⟨d, 1, none⟩ = some (.int .i64 (cnt : Int)) := by have := cell_of_block HB2.out 1; simpa using this
  have g1 : w2.frozen? ⟨d, 1, none⟩ = false := free_of_block HB2.out 1
  go_wp2_with fail
  go_ret
  have hC : Chg (fun b => b = d ∨ b = mb) w1 (w2.setCell ⟨d, 1, none⟩ (.int .i64 0)) := (HCH.out.mono (fun _ _ e => .inr e)).trans (setCell_chg _ _ _ _) (fun _ _ e => .inl e)
  have hdl := H.out.lt
  have hml := H.out.map.lt
  refine ⟨v, L, rfl, ⟨?_, HMAP.out.chg (setCell_chg _ _ _ _) (fun e => H.out.ne e.symm), by simp, by simp, by simp, Nat.zero_le _, H.out.cap⟩, HP.out.row.chg hC (fun g hg e => by have := HP.out.own g hg; omega), HP.out.names, HP.out.pts, fun p hp => ⟨(HP.out.ok p hp).1.chg hC (fun g hg e => by have := HP.out.owns p hp g hg; omega), (HP.out.ok p hp).2⟩, HP.out.own, HP.out.owns, (Chg.of_ext HP.out.ext).trans hC (fun _ _ e => e)⟩
  have := setCell_block (i := 1) HB2.out (.int .i64 0); simpa using this
end Go.Proofs.Ytabnngcaohgppaa
