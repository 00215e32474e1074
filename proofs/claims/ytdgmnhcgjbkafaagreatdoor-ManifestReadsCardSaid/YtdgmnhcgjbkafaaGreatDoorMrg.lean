/- manifest.Read: plainly; its head: three numbers and a mark. -/
import Derived.Test.YtdgmnhcgjbkafaaGreatDoorMrf
import Derived.Test.YtdgmnhcgjbkafaaGreatDoorFro
namespace Go.Proofs.YtdgmnhcgjbkafaaGreatDoor
open Go.RowKit Go.Sort Go.Lib

def flStp (L : List Fl) (r : Rd) : List Fl × Rd := (L ++ [(rdFl r).1], (rdFl r).2)
def trStp (L : List Tr) (r : Rd) : List Tr × Rd := (L ++ [(rdTr r).1], (rdTr r).2)
/-- A state is read, with its files and tiers. -/
def staTail (x y z : Int) (m : Mk) (r : Rd) : Sta × Rd :=
  (⟨x, y, z, m, (manyR flStp 512 ([], r)).1, (manyR trStp 4 ([], (manyR flStp 512 ([], r)).2)).1⟩, (manyR trStp 4 ([], (manyR flStp 512 ([], r)).2)).2)
def staFrom (r : Rd) : Sta × Rd :=
  staTail (rdNum r).1 (rdNum (rdNum r).2).1 (rdNum (rdNum (rdNum r).2).2).1 (rdMark (rdNum (rdNum (rdNum r).2).2).2).1 (rdMark (rdNum (rdNum (rdNum r).2).2).2).2
def staOk (t : Sta × Rd) : Option Sta := if t.2.bad = true ∨ t.2.l ≠ [] ∨ staR t.1 = false then none else some t.1
/-- What bytes tell: a state, or none. -/
def staRd (l : List UInt8) : Option Sta := if (openR l).2.2 ≠ 0 ∨ (openR l).1 ≠ 7 then none else staOk (staFrom ⟨(openR l).2.1, false⟩)
def staZ : Sta := ⟨0, 0, 0, ⟨false, 0, 0⟩, [], []⟩
/-- What Read leaves. -/
def ReadPost (w : World) (o : Option Sta) (e : Ending) (w' : World) : Prop :=
  ∃ fa fn fc ta tn tc, e = .returned (.tuple #[.agg (staC (o.getD staZ) fa fn fc ta tn tc), .int .i64 (if o.isSome = true then 0 else 24)]) ∧ Ext w w' ∧ StIn w' (o.getD staZ) fa fn fc ta tn tc
theorem markR_ok (l : List UInt8) : (markR l).1.ok := by
  have hz : ∀ l, -9223372036854775808 ≤ zag (varR l).1 ∧ zag (varR l).1 ≤ 9223372036854775807 := fun l => by
    have := (varR_bounds l).1
    unfold zag
    split <;> omega
  have hi : ∀ u, -9223372036854775808 ≤ i64n u ∧ i64n u ≤ 9223372036854775807 := fun u => by
    unfold i64n wrap64
    omega
  have h0 : Mk.zero.ok := ⟨by decide, by decide, by decide, by decide⟩
  have hE : ∀ x, (markE x).1.ok := fun x => h0
  have hF : ∀ m k, m.ok → (markIf m k).1.ok := fun m k hm => by
    unfold markIf
    split
    · exact hm
    · exact hE _
  unfold markR
  split
  · exact hE _
  unfold markC
  split
  · exact hE _
  split
  · exact hF _ _ ⟨by simp, by simp, (hi _).1, (hi _).2⟩
  split
  · unfold markD
    split
    · exact hE _
    · exact hF _ _ ⟨(hz _).1, (hz _).2, (hi _).1, (hi _).2⟩
  · exact hE _
theorem sta_info : (Tryz.prog.info? 27).map (·.size) = some 8 := by kernel_rfl

/-- What stands in memory while a state's head is read. -/
structure RH (w5 w0 : World) (p : Nat) (tr ts : TypeId) (r : Rd) (qo : Option Nat) (w : World) : Prop where
  rd : RdAt tr w0 p r w
  chg : Chg (· = p) w5 w
  box : ∀ q, qo = some q → w5.heap.size ≤ q ∧ w.heap[q]? = some (.cells #[.int .i64 0, .int .i64 0, .int .i64 0, .bool false, .int .i64 0, .int .i64 0, .slice none 0 0, .slice none 0 0] ts (0, 0))
  lt : p < w5.heap.size
section
variable {w5 w0 w w1 : World} {p : Nat} {tr ts : TypeId} {r r' : Rd} {qo : Option Nat}
theorem RH.read (h : RH w5 w0 p tr ts r qo w) (hr : RdAt tr w0 p r' w1) (hc : Chg (· = p) w w1) : RH w5 w0 p tr ts r' qo w1 :=
  ⟨hr, h.chg.trans hc (fun _ _ e => e), fun q e => ⟨(h.box q e).1, (hc.block q (block_lt (h.box q e).2) (fun e2 => by have := (h.box q e).1; have := h.lt; omega)).trans (h.box q e).2⟩, h.lt⟩
theorem RH.alloc (h : RH w5 w0 p tr ts r none w) : RH w5 w0 p tr ts r (some w.heap.size) (w.alloc (.cells #[.int .i64 0, .int .i64 0, .int .i64 0, .bool false, .int .i64 0, .int .i64 0, .slice none 0 0, .slice none 0 0] ts (0, 0))) :=
  ⟨h.rd.ext' ((Ext.refl w).alloc _), h.chg.alloc _, fun q e => by
    simp at e
    subst e
    exact ⟨h.chg.size, heap_alloc_new w _⟩, h.lt⟩
end
theorem RH.turned {w5 w0 w : World} {p : Nat} {tr ts : TypeId} {r : Rd} {qo : Option Nat} (h : RH w5 w0 p tr ts r qo w) : ∃ z : Turned, w = turned w5 (fun k => k == p) z.d z.f z.os :=
  turned_of_chg (h.chg.mono (fun _ _ e => by simpa using e))

end Go.Proofs.YtdgmnhcgjbkafaaGreatDoor
