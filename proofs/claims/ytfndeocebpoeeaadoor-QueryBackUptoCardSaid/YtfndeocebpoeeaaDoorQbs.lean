/- Parsing: a query in a box; its span; how parsing ends (plain). -/
import Derived.Test.YtfndeocebpoeeaaDoorQbt
namespace Go.Proofs.YtfndeocebpoeeaaDoor
open Go.RowKit Go.Sort Go.Lib

/-- A query in a box. -/
def QAt (w : World) (qb : Nat) (q : Qy) : Prop := w.heap[qb]? = some (.cells #[.int .i64 q.op, .int .i64 q.fn, .string q.ser, .string q.oth, .int .i64 q.fr, .int .i64 q.to, .int .i64 q.wd, .int .i64 q.st, .int .i64 q.off, .int .i64 q.gap, .int .i64 q.tol, .int .i64 q.fill] 23 (0, 0))
theorem QAt.chg {w w' : World} {qb : Nat} {q : Qy} {S : Nat → Prop} (h : QAt w qb q) (hc : Chg S w w') (hn : ¬ S qb) : QAt w' qb q := (hc.block qb (block_lt h) hn).trans h
theorem QAt.ext {w w' : World} {qb : Nat} {q : Qy} (h : QAt w qb q) (hx : Ext w w') : QAt w' qb q := (hx.block (block_lt h)).trans h
theorem QAt.set0 {w : World} {qb : Nat} {q : Qy} (h : QAt w qb q) (z : Int) : QAt (w.setCell ⟨qb, 0, none⟩ (.int .i64 z)) qb { q with op := z } := by unfold QAt; rw [setCell_block h]; simp
theorem QAt.set1 {w : World} {qb : Nat} {q : Qy} (h : QAt w qb q) (z : Int) : QAt (w.setCell ⟨qb, 1, none⟩ (.int .i64 z)) qb { q with fn := z } := by unfold QAt; rw [setCell_block h]; simp
theorem QAt.set2 {w : World} {qb : Nat} {q : Qy} (h : QAt w qb q) (z : ByteArray) : QAt (w.setCell ⟨qb, 2, none⟩ (.string z)) qb { q with ser := z } := by unfold QAt; rw [setCell_block h]; simp
theorem QAt.set3 {w : World} {qb : Nat} {q : Qy} (h : QAt w qb q) (z : ByteArray) : QAt (w.setCell ⟨qb, 3, none⟩ (.string z)) qb { q with oth := z } := by unfold QAt; rw [setCell_block h]; simp
theorem QAt.set4 {w : World} {qb : Nat} {q : Qy} (h : QAt w qb q) (z : Int) : QAt (w.setCell ⟨qb, 4, none⟩ (.int .i64 z)) qb { q with fr := z } := by unfold QAt; rw [setCell_block h]; simp
theorem QAt.set5 {w : World} {qb : Nat} {q : Qy} (h : QAt w qb q) (z : Int) : QAt (w.setCell ⟨qb, 5, none⟩ (.int .i64 z)) qb { q with to := z } := by unfold QAt; rw [setCell_block h]; simp
theorem QAt.set6 {w : World} {qb : Nat} {q : Qy} (h : QAt w qb q) (z : Int) : QAt (w.setCell ⟨qb, 6, none⟩ (.int .i64 z)) qb { q with wd := z } := by unfold QAt; rw [setCell_block h]; simp
theorem QAt.set7 {w : World} {qb : Nat} {q : Qy} (h : QAt w qb q) (z : Int) : QAt (w.setCell ⟨qb, 7, none⟩ (.int .i64 z)) qb { q with st := z } := by unfold QAt; rw [setCell_block h]; simp
theorem QAt.set8 {w : World} {qb : Nat} {q : Qy} (h : QAt w qb q) (z : Int) : QAt (w.setCell ⟨qb, 8, none⟩ (.int .i64 z)) qb { q with off := z } := by unfold QAt; rw [setCell_block h]; simp
theorem QAt.set9 {w : World} {qb : Nat} {q : Qy} (h : QAt w qb q) (z : Int) : QAt (w.setCell ⟨qb, 9, none⟩ (.int .i64 z)) qb { q with gap := z } := by unfold QAt; rw [setCell_block h]; simp
theorem QAt.set10 {w : World} {qb : Nat} {q : Qy} (h : QAt w qb q) (z : Int) : QAt (w.setCell ⟨qb, 10, none⟩ (.int .i64 z)) qb { q with tol := z } := by unfold QAt; rw [setCell_block h]; simp
theorem QAt.set11 {w : World} {qb : Nat} {q : Qy} (h : QAt w qb q) (z : Int) : QAt (w.setCell ⟨qb, 11, none⟩ (.int .i64 z)) qb { q with fill := z } := by unfold QAt; rw [setCell_block h]; simp
/-- All that stands in memory while words are parsed: the taker, the box that points to it, the query's box, and where the words lie. -/
structure PsAt (w : World) (tk sb tb qb : Nat) (l : List ByteArray) (bad : Bool) (q : Qy) : Prop where
  wds : TkAt w tk sb l bad
  qry : QAt w qb q
  box : w.heap[tb]? = some (Obj.cells #[.pointer (some ⟨tk, 0, none⟩)] 39 (0, 0))
  ne : tk ≠ qb ∧ tb ≠ tk ∧ tb ≠ qb ∧ sb ≠ qb
  lib : HasLib w
  no : NoLib (fun k => k = tk ∨ k = qb)
/-- One of two blocks. -/
def T2 (a b k : Nat) : Bool := k == a || k == b
theorem T2_of {a b k : Nat} (h : k = a ∨ k = b) : T2 a b k = true := by simpa [T2] using h
section
variable {w w' : World} {tk sb tb qb : Nat} {l l' : List ByteArray} {bad bad' : Bool} {q q' : Qy}
theorem PsAt.ext (h : PsAt w tk sb tb qb l bad q) (hx : Ext w w') : PsAt w' tk sb tb qb l bad q := ⟨h.wds.ext hx, h.qry.ext hx, (hx.block (block_lt h.box)).trans h.box, h.ne, h.lib.ext hx, h.no⟩
theorem PsAt.take (h : PsAt w tk sb tb qb l bad q) (hc : Chg (· = tk) w w') (ht : TkAt w' tk sb l' bad') : PsAt w' tk sb tb qb l' bad' q :=
  ⟨ht, h.qry.chg hc (fun e => h.ne.1 e.symm), (hc.block tb (block_lt h.box) h.ne.2.1).trans h.box, h.ne, h.lib.chg hc ⟨fun e => h.no.1 (.inl e), fun e => h.no.2.1 (.inl e), fun e => h.no.2.2.1 (.inl e), fun e => h.no.2.2.2 (.inl e)⟩, h.no⟩
theorem PsAt.put (h : PsAt w tk sb tb qb l bad q) (hc : Chg (· = qb) w w') (hq : QAt w' qb q') : PsAt w' tk sb tb qb l bad q' :=
  ⟨h.wds.chg hc h.ne.1 h.ne.2.2.2, hq, (hc.block tb (block_lt h.box) h.ne.2.2.1).trans h.box, h.ne, h.lib.chg hc ⟨fun e => h.no.1 (.inr e), fun e => h.no.2.1 (.inr e), fun e => h.no.2.2.1 (.inr e), fun e => h.no.2.2.2 (.inr e)⟩, h.no⟩
theorem PsAt.notk (h : PsAt w tk sb tb qb l bad q) : NoLib (· = tk) := ⟨fun e => h.no.1 (.inl e), fun e => h.no.2.1 (.inl e), fun e => h.no.2.2.1 (.inl e), fun e => h.no.2.2.2 (.inl e)⟩
end
set_option maxHeartbeats 4000000 in
set_option maxRecDepth 100000 in
theorem span_any {w : World} {tk sb tb qb : Nat} {l : List ByteArray} {bad : Bool} {q : Qy} (h : PsAt w tk sb tb qb l bad q) :
    Calls Tryd.prog 14 #[.pointer (some ⟨tb, 0, none⟩), .pointer (some ⟨qb, 0, none⟩)] w fun e w' => e = .returned (.tuple #[]) ∧ ∃ f t, PsAt w' tk sb tb qb l.tail.tail ((bad || (l.head?.bind numP).isNone) || (l.tail.head?.bind numP).isNone) { q with fr := f, to := t } ∧ (∀ z, l.head?.bind numP = some z → z = f) ∧ (∀ z, l.tail.head?.bind numP = some z → z = t) ∧ Chg (fun k => k = tk ∨ k = qb) w w' := by
  have H := Lib.hid h
  have ct := cell_of_block h.box 0
  simp only [List.getElem?_toArray, List.getElem?_cons_zero] at ct
  have hbt : T2 tk qb tb = false := by have := h.ne; simp [T2]; omega
  have f0 := cell_turned (T := T2 tk qb) ct hbt
  clear h ct
  go_enter Tryd.func14, Tryd.ntmps14
  go_wp2_with fail
  refine wp_region_plan 7 (fun w' => ∃ z : Turned, w' = turned w (T2 tk qb) z.d z.f z.os) (.reads [0, 2] (.one 1 (.reads [4] (.one 3 (.one 5 (.one 6 (.one 7 .done))))))) (by kernel_rfl) (by kernel_rfl) (fun _ _ dd _ _ hh => by cases dd <;> exact hh) ?_ ?_
  · exact turned_of_ext (Ext.drewN w 1)
  refine wpPlan_reads ?_
  simp only [pickOps, List.getElem?_cons_succ, List.getElem?_cons_zero]
  repeat (go_big_quiet_step (fail))
  refine wpQuiet_nil ?_
  clear f0 hbt
  refine wpPlan_one ?_
  simp only [pickOps, List.getElem?_cons_succ, List.getElem?_cons_zero]
  have H1 := Lib.hid (H.out.ext (Ext.drewN w 1))
  go_wp2_with fail
  refine (number_any H1.out.wds H1.out.lib H1.out.notk).mono ?_
  rintro e w2 ⟨f, rfl, hf, htk, hc⟩
  have H2 := Lib.hid (H1.out.take hc htk)
  have HF := Lib.hid hf
  have HC2 : Hid (Chg (fun k => k = tk ∨ k = qb) w w2) := Lib.hid ((Chg.of_ext (Ext.drewN w 1)).trans (hc.mono (fun _ _ e => .inl e)) (fun _ _ e => e))
  clear hc htk hf
  go_wp2_with fail
  refine thenX_mk (turned_of_chg (HC2.out.mono (fun _ _ e => T2_of e))) (wpPlan_reads ?_)
  simp only [pickOps, List.getElem?_cons_succ, List.getElem?_cons_zero]
  repeat (go_big_quiet_step (fail))
  refine wpQuiet_nil (wpPlan_one ?_)
  simp only [pickOps, List.getElem?_cons_succ, List.getElem?_cons_zero]
  go_wp2_with fail
  refine (number_any H2.out.wds H2.out.lib H2.out.notk).mono ?_
  rintro e w3 ⟨t, rfl, ht, htk, hc⟩
  have H3 := Lib.hid (H2.out.take hc htk)
  have HT := Lib.hid ht
  have HC3 : Hid (Chg (fun k => k = tk ∨ k = qb) w w3) := Lib.hid (HC2.out.trans (hc.mono (fun _ _ e => .inl e)) (fun _ _ e => e))
  clear hc htk ht
  go_wp2_with fail
  refine thenX_mk (turned_of_chg (HC3.out.mono (fun _ _ e => T2_of e))) (wpPlan_one ?_)
  simp only [pickOps, List.getElem?_cons_succ, List.getElem?_cons_zero]
  have d4 := cell_of_block H3.out.qry 4
  have z4 := free_of_block H3.out.qry 4
  simp only [List.getElem?_toArray, List.getElem?_cons_succ, List.getElem?_cons_zero] at d4
  have H4 := Lib.hid (H3.out.put (setCell_chg _ _ 4 (.int .i64 f)) (H3.out.qry.set4 f))
  have HC4 : Hid (Chg (fun k => k = tk ∨ k = qb) w (w3.setCell ⟨qb, 4, none⟩ (.int .i64 f))) := Lib.hid (HC3.out.trans ((setCell_chg _ _ _ _).mono (fun _ _ e => .inr e)) (fun _ _ e => e))
  go_wp2_with fail
  refine thenX_mk (turned_of_chg (HC4.out.mono (fun _ _ e => T2_of e))) (wpPlan_one ?_)
  simp only [pickOps, List.getElem?_cons_succ, List.getElem?_cons_zero]
  go_wp2_with fail
  refine thenX_mk (turned_of_chg (HC4.out.mono (fun _ _ e => T2_of e))) (wpPlan_one ?_)
  simp only [pickOps, List.getElem?_cons_succ, List.getElem?_cons_zero]
  generalize World.setCell w3 _ _ = w4 at *
  clear d4 z4
  have d5 := cell_of_block H4.out.qry 5
  have z5 := free_of_block H4.out.qry 5
  simp only [List.getElem?_toArray, List.getElem?_cons_succ, List.getElem?_cons_zero] at d5
  have H5 := Lib.hid (H4.out.put (setCell_chg _ _ 5 (.int .i64 t)) (H4.out.qry.set5 t))
  have HC5 : Hid (Chg (fun k => k = tk ∨ k = qb) w (w4.setCell ⟨qb, 5, none⟩ (.int .i64 t))) := Lib.hid (HC4.out.trans ((setCell_chg _ _ _ _).mono (fun _ _ e => .inr e)) (fun _ _ e => e))
  go_wp2_with fail
  refine thenX_last (wpPlan_done ?_)
  go_end0
  exact ⟨rfl, f, t, H5.out, HF.out, HT.out, HC5.out⟩

/-! How parsing ends. -/
def EndQ (ws : List ByteArray) (bad : Bool) (l : List ByteArray) (q : Qy) : Prop := (bad = false ∧ l = [] ∧ readQ ws = some q) ∨ ((bad = true ∨ l ≠ []) ∧ readQ ws = none)
theorem numP_none {x : Option ByteArray} (h : ¬ (x.bind numP).isNone = true) : ∃ s z, x = some s ∧ numP s = some z := by
  cases x with
  | none => simp at h
  | some s =>
    cases hz : numP s with
    | none => simp [hz] at h
    | some z => exact ⟨s, z, rfl, hz⟩
theorem ne_win : kRaw ≠ kWin ∧ kRaw ≠ kSes ∧ kRaw ≠ kAsof ∧ kWin ≠ kSes ∧ kWin ≠ kAsof ∧ kSes ≠ kAsof ∧ kWin ≠ kRaw ∧ kSes ≠ kRaw ∧ kSes ≠ kWin ∧ kAsof ≠ kRaw ∧ kAsof ≠ kWin ∧ kAsof ≠ kSes := by decide
theorem end_raw {ws : List ByteArray} {f t : Int} (hf : ∀ z, ws.tail.head?.bind numP = some z → z = f) (ht : ∀ z, ws.tail.tail.head?.bind numP = some z → z = t) :
    EndQ (kRaw :: ws) (((false || ws.isEmpty) || (ws.tail.head?.bind numP).isNone) || (ws.tail.tail.head?.bind numP).isNone) ws.tail.tail.tail { q0 with ser := ws.headD ⟨#[]⟩, fr := f, to := t } := by
  have hk := ne_win
  match ws with
  | [] => exact .inr ⟨.inl (by simp), by simp [readQ]⟩
  | [a] => exact .inr ⟨.inl (by simp), by simp [readQ]⟩
  | [a, b] => exact .inr ⟨.inl (by simp), by simp [readQ]⟩
  | [a, b, c] =>
    simp only [List.tail_cons, List.head?_cons, Option.bind_some] at hf ht ⊢
    cases h1 : numP b with
    | none => exact .inr ⟨.inl (by simp), by simp [readQ, h1]⟩
    | some z1 =>
      cases h2 : numP c with
      | none => exact .inr ⟨.inl (by simp), by simp [readQ, h1, h2]⟩
      | some z2 =>
        obtain rfl := hf z1 h1
        obtain rfl := ht z2 h2
        exact .inl ⟨by simp, by simp, by simp [readQ, h1, h2]⟩
  | a :: b :: c :: d :: r =>
    refine .inr ⟨.inr (by simp), ?_⟩
    unfold readQ
    split
    · rename_i h; simp at h
    · rename_i h; simp at h; obtain ⟨rfl, -⟩ := h; rw [if_neg hk.2.1, if_neg hk.2.2.1]
    · rename_i h; simp at h; obtain ⟨rfl, -⟩ := h; rw [if_neg hk.1]
    · rfl
theorem end_ses {ws : List ByteArray} {n f t g : Int} (hn : ∀ z, ws.head?.bind (aget fnS) = some z → z = n) (hf : ∀ z, ws.tail.tail.head?.bind numP = some z → z = f) (ht : ∀ z, ws.tail.tail.tail.head?.bind numP = some z → z = t) (hg : ∀ z, ws.tail.tail.tail.tail.head?.bind numP = some z → z = g) :
    EndQ (kSes :: ws) (((((false || (ws.head?.bind (aget fnS)).isNone) || ws.tail.isEmpty) || (ws.tail.tail.head?.bind numP).isNone) || (ws.tail.tail.tail.head?.bind numP).isNone) || (ws.tail.tail.tail.tail.head?.bind numP).isNone) ws.tail.tail.tail.tail.tail { q0 with op := 2, fn := n, ser := ws.tail.headD ⟨#[]⟩, fr := f, to := t, gap := g } := by
  have hk := ne_win
  match ws with
  | [] => exact .inr ⟨.inl (by simp), by simp [readQ]⟩
  | [a] => exact .inr ⟨.inl (by simp), by simp [readQ]⟩
  | [a, b] => exact .inr ⟨.inl (by simp), by simp [readQ]⟩
  | [a, b, c] => exact .inr ⟨.inl (by simp), by simp [readQ, hk.2.2.2.2.2.2.2.1]⟩
  | [a, b, c, d] => exact .inr ⟨.inl (by simp), by simp [readQ]⟩
  | [a, b, c, d, e] =>
    simp only [List.tail_cons, List.head?_cons, Option.bind_some] at hn hf ht hg ⊢
    cases h0 : aget fnS a with
    | none => exact .inr ⟨.inl (by simp), by simp [readQ, h0]⟩
    | some z0 =>
      cases h1 : numP c with
      | none => exact .inr ⟨.inl (by simp), by simp [readQ, h0, h1]⟩
      | some z1 =>
        cases h2 : numP d with
        | none => exact .inr ⟨.inl (by simp), by simp [readQ, h0, h1, h2]⟩
        | some z2 =>
          cases h3 : numP e with
          | none => exact .inr ⟨.inl (by simp), by simp [readQ, h0, h1, h2, h3]⟩
          | some z3 =>
            obtain rfl := hn z0 h0
            obtain rfl := hf z1 h1
            obtain rfl := ht z2 h2
            obtain rfl := hg z3 h3
            exact .inl ⟨by simp, by simp, by simp [readQ, h0, h1, h2, h3]⟩
  | a :: b :: c :: d :: e :: x :: r =>
    refine .inr ⟨.inr (by simp), ?_⟩
    unfold readQ
    split
    · rename_i h; simp at h
    · rename_i h; simp at h
    · rename_i h; simp at h; obtain ⟨rfl, -⟩ := h; rw [if_neg hk.2.2.2.2.2.2.2.2.1]
    · rfl
theorem end_asof {ws : List ByteArray} {f t g : Int} (hf : ∀ z, ws.tail.tail.head?.bind numP = some z → z = f) (ht : ∀ z, ws.tail.tail.tail.head?.bind numP = some z → z = t) (hg : ∀ z, ws.tail.tail.tail.tail.head?.bind numP = some z → z = g) :
    EndQ (kAsof :: ws) (((((false || ws.isEmpty) || ws.tail.isEmpty) || (ws.tail.tail.head?.bind numP).isNone) || (ws.tail.tail.tail.head?.bind numP).isNone) || (ws.tail.tail.tail.tail.head?.bind numP).isNone) ws.tail.tail.tail.tail.tail { q0 with op := 3, ser := ws.headD ⟨#[]⟩, oth := ws.tail.headD ⟨#[]⟩, fr := f, to := t, tol := g } := by
  have hk := ne_win
  match ws with
  | [] => exact .inr ⟨.inl (by simp), by simp [readQ]⟩
  | [a] => exact .inr ⟨.inl (by simp), by simp [readQ]⟩
  | [a, b] => exact .inr ⟨.inl (by simp), by simp [readQ]⟩
  | [a, b, c] => exact .inr ⟨.inl (by simp), by simp [readQ, hk.2.2.2.2.2.2.2.2.2.1]⟩
  | [a, b, c, d] => exact .inr ⟨.inl (by simp), by simp [readQ]⟩
  | [a, b, c, d, e] =>
    simp only [List.tail_cons, List.head?_cons, Option.bind_some] at hf ht hg ⊢
    have hs : ¬ kAsof = kSes := hk.2.2.2.2.2.2.2.2.2.2.2
    cases h1 : numP c with
    | none => exact .inr ⟨.inl (by simp), by simp [readQ, h1, hs]⟩
    | some z1 =>
      cases h2 : numP d with
      | none => exact .inr ⟨.inl (by simp), by simp [readQ, h1, h2, hs]⟩
      | some z2 =>
        cases h3 : numP e with
        | none => exact .inr ⟨.inl (by simp), by simp [readQ, h1, h2, h3, hs]⟩
        | some z3 =>
          obtain rfl := hf z1 h1
          obtain rfl := ht z2 h2
          obtain rfl := hg z3 h3
          exact .inl ⟨by simp, by simp, by simp [readQ, h1, h2, h3, hs]⟩
  | a :: b :: c :: d :: e :: x :: r =>
    refine .inr ⟨.inr (by simp), ?_⟩
    unfold readQ
    split
    · rename_i h; simp at h
    · rename_i h; simp at h
    · rename_i h; simp at h; obtain ⟨rfl, -⟩ := h; rw [if_neg hk.2.2.2.2.2.2.2.2.2.2.1]
    · rfl
theorem end_none {w0 : ByteArray} {ws : List ByteArray} (h1 : w0 ≠ kRaw) (h2 : w0 ≠ kWin) (h3 : w0 ≠ kSes) (h4 : w0 ≠ kAsof) (l : List ByteArray) (q : Qy) : EndQ (w0 :: ws) true l q := by
  refine .inr ⟨.inl rfl, ?_⟩
  unfold readQ
  split
  · rename_i h; simp at h; obtain ⟨rfl, -⟩ := h; rw [if_neg h1]
  · rename_i h; simp at h; obtain ⟨rfl, -⟩ := h; rw [if_neg h3, if_neg h4]
  · rename_i h; simp at h; obtain ⟨rfl, -⟩ := h; rw [if_neg h2]
  · rfl
set_option maxRecDepth 100000 in
set_option maxHeartbeats 1000000 in
theorem end_win {ws : List ByteArray} {n f t b c d z : Int} (hn : ∀ z, ws.head?.bind (aget fnS) = some z → z = n) (hf : ∀ z, ws.tail.tail.head?.bind numP = some z → z = f) (ht : ∀ z, ws.tail.tail.tail.head?.bind numP = some z → z = t) (hb : ∀ z, ws.tail.tail.tail.tail.head?.bind numP = some z → z = b) (hc : ∀ z, ws.tail.tail.tail.tail.tail.head?.bind numP = some z → z = c) (hd : ∀ z, ws.tail.tail.tail.tail.tail.tail.head?.bind numP = some z → z = d) (hz : ∀ y, ws.tail.tail.tail.tail.tail.tail.tail.head?.bind (aget fillS) = some y → y = z) :
    EndQ (kWin :: ws) ((((((((false || (ws.head?.bind (aget fnS)).isNone) || ws.tail.isEmpty) || (ws.tail.tail.head?.bind numP).isNone) || (ws.tail.tail.tail.head?.bind numP).isNone) || (ws.tail.tail.tail.tail.head?.bind numP).isNone) || (ws.tail.tail.tail.tail.tail.head?.bind numP).isNone) || (ws.tail.tail.tail.tail.tail.tail.head?.bind numP).isNone) || (ws.tail.tail.tail.tail.tail.tail.tail.head?.bind (aget fillS)).isNone) ws.tail.tail.tail.tail.tail.tail.tail.tail { q0 with op := 1, fn := n, ser := ws.tail.headD ⟨#[]⟩, fr := f, to := t, wd := b, st := c, off := d, fill := z } := by
  have hk := ne_win
  rcases ws with _ | ⟨x1, _ | ⟨x2, _ | ⟨x3, _ | ⟨x4, _ | ⟨x5, _ | ⟨x6, _ | ⟨x7, _ | ⟨x8, _ | ⟨x9, r⟩⟩⟩⟩⟩⟩⟩⟩⟩
  · exact .inr ⟨.inl (by simp), by simp [readQ]⟩
  · exact .inr ⟨.inl (by simp), by simp [readQ]⟩
  · exact .inr ⟨.inl (by simp), by simp [readQ]⟩
  · exact .inr ⟨.inl (by simp), by simp [readQ, hk.2.2.2.2.2.2.1]⟩
  · exact .inr ⟨.inl (by simp), by simp [readQ]⟩
  · exact .inr ⟨.inl (by simp), by simp [readQ, hk.2.2.2.1, hk.2.2.2.2.1]⟩
  · exact .inr ⟨.inl (by simp), by simp [readQ]⟩
  · exact .inr ⟨.inl (by simp), by simp [readQ]⟩
  · simp only [List.tail_cons, List.head?_cons, Option.bind_some] at hn hf ht hb hc hd hz ⊢
    cases h0 : aget fnS x1 with
    | none => exact .inr ⟨.inl (by simp), by simp [readQ, h0]⟩
    | some z0 =>
      cases h1 : numP x3 with
      | none => exact .inr ⟨.inl (by simp), by simp [readQ, h0, h1]⟩
      | some z1 =>
        cases h2 : numP x4 with
        | none => exact .inr ⟨.inl (by simp), by simp [readQ, h0, h1, h2]⟩
        | some z2 =>
          cases h3 : numP x5 with
          | none => exact .inr ⟨.inl (by simp), by simp [readQ, h0, h1, h2, h3]⟩
          | some z3 =>
            cases h4 : numP x6 with
            | none => exact .inr ⟨.inl (by simp), by simp [readQ, h0, h1, h2, h3, h4]⟩
            | some z4 =>
              cases h5 : numP x7 with
              | none => exact .inr ⟨.inl (by simp), by simp [readQ, h0, h1, h2, h3, h4, h5]⟩
              | some z5 =>
                cases h6 : aget fillS x8 with
                | none => exact .inr ⟨.inl (by simp), by simp [readQ, h0, h1, h2, h3, h4, h5, h6]⟩
                | some z6 =>
                  obtain rfl := hn z0 h0
                  obtain rfl := hf z1 h1
                  obtain rfl := ht z2 h2
                  obtain rfl := hb z3 h3
                  obtain rfl := hc z4 h4
                  obtain rfl := hd z5 h5
                  obtain rfl := hz z6 h6
                  exact .inl ⟨by simp, by simp, by simp [readQ, h0, h1, h2, h3, h4, h5, h6]⟩
  · refine .inr ⟨.inr (by simp), ?_⟩
    unfold readQ
    split
    · rename_i h; simp at h
    · rename_i h; simp at h
    · rename_i h; simp at h
    · rfl
theorem cut_len : ∀ (l : List UInt8), ∀ x ∈ cutS l, x.length ≤ l.length
  | [], x, hx => by simp [cutS] at hx; simp [hx]
  | c :: l, x, hx => by
    have ih := cut_len l
    unfold cutS at hx
    split at hx
    · rcases List.mem_cons.1 hx with e | e
      · rw [e]; simp
      · have := ih x e; simp; omega
    · obtain ⟨h, t, e⟩ := cutS_ne l
      rw [e] at hx ih
      simp only [consH] at hx
      rcases List.mem_cons.1 hx with e | e
      · have := ih h List.mem_cons_self; rw [e]; simp; omega
      · have := ih x (List.mem_cons_of_mem _ e); simp; omega
theorem split_len {s x : ByteArray} (h : x ∈ splitW s) : x.size ≤ s.size := by
  have h1 : x.data.toList ∈ cutS s.data.toList := by rw [← splitW_data]; exact List.mem_map.2 ⟨x, h, rfl⟩
  exact cut_len _ _ h1
end Go.Proofs.YtfndeocebpoeeaaDoor
