/- The document's table (tidemillref16): Put. -/
import Derived.Test.YtabnngcaohgppaaRtp0
import Derived.Test.YtabnngcaohgppaaRefM
import Derived.Test.YtabnngcaohgppaaRfn
namespace Go.Proofs.Ytabnngcaohgppaa
open Go.RowKit Go.Sort Go.Lib

theorem elem_rpart : ElemOk Try.prog 61 77 2 40 :=
  ⟨Try.underlying61, by
    obtain ⟨i0, hi, hz0, hz1, hz2⟩ := info_parts (show (Try.prog.info? 77).map (fun i => (i.zero, i.size, i.bytes)) = some (some (.agg #[.string ByteArray.empty, .slice none 0 0]), 2, 40) from by kernel_rfl)
    exact ⟨i0, _, hi, hz0, hz1, hz2, rfl⟩, by decide⟩

/-- The series' list behind a Put. -/
def PutL (L : List (ByteArray × Sl)) (name : ByteArray) (s : Sl) (L' : List (ByteArray × Sl)) : Prop :=
  (∃ r q, L[r]? = some q ∧ q.1 = name ∧ L' = L.set r (name, s)) ∨
  ((∀ p ∈ L, p.1 ≠ name) ∧ ∃ k, Bub L (name, s) k L' ∧ ∀ j y, k = j + 1 → L[j]? = some y → Op.bytesLess name.toList y.1.toList = false)

/-- What a call leaves of the table. -/
structure RtTo (w : World) (rd : Nat) (most : Int) (la : Value) (L' : List (ByteArray × Sl)) (w' : World) : Prop where
  at' : ∃ la' lc', RTab w' rd most L' la' lc' ∧ ∀ g, (Value.slice la' L'.length lc').ownBlock = some g → la.ownBlock = some g ∨ w.heap.size ≤ g
  chg : Chg (fun b => b = rd ∨ la.ownBlock = some b) w w'

theorem bytes_irr (a : ByteArray) (b : ByteArray) (h : a ≠ b) : (a.toList == b.toList) = false := by rw [str_eq]; simpa using h

set_option maxHeartbeats 8000000 in
set_option maxRecDepth 100000 in
theorem rt_put_bad {w : World} (rd : Nat) (name : ByteArray) (p : Pt) (hname : name.size ≤ maxLen) (hv : validL name.data.toList = false) :
    Calls Try.prog 17 #[.pointer (some ⟨rd, 0, none⟩), .string name, p.val] w fun e w' => e = .returned (.int .i64 2) ∧ Ext w w' := by
  unfold Pt.val
  go_enter Try.func17, Try.ntmps17
  go_wp2_with fail
  generalize hW : World.alloc _ _ = W
  have HXW : Hid (Ext w W) := Lib.hid (by subst hW; exact (Ext.refl w).alloc _)
  clear hW
  refine (refName_any name W hname).mono ?_
  rintro e w' ⟨rfl, rfl⟩
  rw [hv]
  go_wp2_with fail
  go_ret
  exact ⟨rfl, HXW.out⟩

set_option maxHeartbeats 8000000 in
set_option maxRecDepth 100000 in
theorem rt_put_full {w : World} {rd : Nat} {most : Int} {L : List (ByteArray × Sl)} {la : Option Addr} {lc : Nat} (h : RTab w rd most L la lc) (hL : L.length ≤ 3000) (hn : (L.map (·.1)).Nodup) (hs : (L.map fun p => p.2.l.length).sum ≤ 3000) (name : ByteArray) (p : Pt) (hname : name.size ≤ maxLen) (hv : validL name.data.toList = true)
    (hh : hasL (tabPts L name) p.t = false) (hfull : most ≤ ((L.map fun p => p.2.l.length).sum : Nat)) :
    Calls Try.prog 17 #[.pointer (some ⟨rd, 0, none⟩), .string name, p.val] w fun e w' => e = .returned (.int .i64 22) ∧ Ext w w' := by
  unfold Pt.val
  have H := Lib.hid h
  have HN := Lib.hid hn
  have HS := Lib.hid hs
  have HH := Lib.hid hh
  clear h hn hs hh
  obtain ⟨tot, htot⟩ : ∃ tot, tot = (L.map fun p => p.2.l.length).sum := ⟨_, rfl⟩
  rw [← htot] at hfull
  have HT := Lib.hid htot
  clear htot
  go_enter Try.func17, Try.ntmps17
  go_wp2_with fail
  generalize hW : World.alloc _ _ = W
  have HXW : Hid (Ext w W) := Lib.hid (by subst hW; exact (Ext.refl w).alloc _)
  have B5 : Hid (W.heap[w.heap.size]? = some (.cells #[.int .i64 p.t, .int .i64 p.v, .int .i64 p.s] 33 (0, 0))) := Lib.hid (by subst hW; exact heap_alloc_new w _)
  clear hW
  refine (refName_any name W hname).mono ?_
  rintro e w' ⟨rfl, rfl⟩
  rw [hv]
  have q0 : W.cell? ⟨w.heap.size, 0, none⟩ = some (.int .i64 p.t) := by have := cell_of_block B5.out 0; simpa using this
  have cm : W.cell? ⟨rd, 0, none⟩ = some (.int .i64 most) := by have := cell_of_block (H.out.ext HXW.out).blk 0; simpa using this
  have HQ1 : Hid (∀ w', Ext W w' → Calls Try.prog 30 #[.pointer (some ⟨rd, 0, none⟩), .string name, .int .i64 p.t] w' fun e w2 => e = .returned (.bool false) ∧ w2 = w') := Lib.hid (fun w' hx => by
    have := rt_has (H.out.ext (HXW.out.trans hx)) (by omega) HN.out (fun q hq => by have h1 := le_sum (f := fun p : ByteArray × Sl => p.2.l.length) hq; have h2 := HS.out; omega) name p.t
    rw [HH.out] at this
    exact this.mono (by rintro e w2 ⟨h1, rfl⟩; exact ⟨h1, rfl⟩))
  have HQ2 : Hid (∀ w', Ext W w' → Calls Try.prog 18 #[.pointer (some ⟨rd, 0, none⟩)] w' fun e w2 => e = .returned (.int .i64 tot) ∧ w2 = w') := Lib.hid (fun w' hx => by
    have := rt_len (H.out.ext (HXW.out.trans hx)) (by have h2 := HS.out; omega) (by omega)
    rw [HT.out]
    exact this.mono (by rintro e w2 ⟨h1, rfl⟩; exact ⟨h1, rfl⟩))
  go_wp2_with fail
  go_big_quiet (first
    | (go_at_call 30; exact Calls.quiet_of_same (HQ1.out _ (by first | exact Ext.refl _ | exact Ext.drewN _ _ | exact (Ext.refl _).drew)))
    | (go_at_call 18; exact Calls.quiet_of_same (HQ2.out _ (by first | exact Ext.refl _ | exact Ext.drewN _ _ | exact (Ext.refl _).drew))))
  go_wp2_with fail
  go_ret
  exact ⟨rfl, HXW.out.drewN' _⟩
end Go.Proofs.Ytabnngcaohgppaa
