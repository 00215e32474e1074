/- gaps.Fill: a row's address; all windows. -/
import Derived.Test.YtokllgdbmnmieaaGreatR21a
import Derived.Test.YtokllgdbmnmieaaGreatGhl
import Derived.Test.YtokllgdbmnmieaaGreatWia
import Derived.Deep.DeepCutAuto
import Derived.Deep.CutBlock
import Derived.Test.YtokllgdbmnmieaaGreatR7s
import Derived.Test.YtokllgdbmnmieaaGreatR09w
import Derived.Test.YtokllgdbmnmieaaGreatR23l
namespace Go.Proofs.YtokllgdbmnmieaaGreat
open Go.RowKit Go.Sort Go.Lib

set_option maxHeartbeats 1000000 in
theorem rowAt_out (w : World) (g : Nat) (a : Option Addr) (n c : Nat) (i : Int) (hg : w.cell? ⟨g, 0, none⟩ = some (.slice a n c)) (hi : i < 0 ∨ (n : Int) ≤ i) :
    Calls Tryz.prog 51 #[.int .i64 i, .pointer (some ⟨g, 0, none⟩)] w fun e w' => e = .returned (.pointer none) ∧ w = w' := by
  go_enter Tryz.func51, Tryz.ntmps51
  by_cases h0 : i < 0
  · clear hi
    go_wp2_with fail
    go_ret
    exact ⟨rfl, rfl⟩
  · have h1 : (n : Int) ≤ i := by omega
    clear hi
    go_wp2_with fail
    go_ret
    exact ⟨rfl, rfl⟩

set_option maxHeartbeats 1000000 in
theorem rowAt_in (w : World) (g b off : Nat) (n c k : Nat) (hg : w.cell? ⟨g, 0, none⟩ = some (.slice (some ⟨b, off, none⟩) n c)) (hk : k < n) :
    Calls Tryz.prog 51 #[.int .i64 (k : Int), .pointer (some ⟨g, 0, none⟩)] w fun e w' => e = .returned (.pointer (some ⟨b, off + k * 5, none⟩)) ∧ w = w' := by
  go_enter Tryz.func51, Tryz.ntmps51
  have h0 : ¬ (k : Int) < 0 := by omega
  have h1 : ¬ (n : Int) ≤ (k : Int) := by omega
  have h2 : k < n := hk
  go_wp2_with fail
  go_ret
  exact ⟨rfl, rfl⟩

set_option maxHeartbeats 1000000 in
set_option maxRecDepth 100000 in
theorem holeLine_none (lo hi : Int) (p1 p2 : Option Addr) (w : World) (h : p1 = none ∨ p2 = none) :
    Calls Tryz.prog 49 #[.agg #[.int .i64 lo, .int .i64 hi, .bool false, .int .i64 0, .int .u64 0, .pointer p1, .pointer p2]] w fun e w' => e = .returned (.agg (rwc (nullR (lo, hi))).toArray) ∧ Ext w w' := by
  have HN := Lib.hid (fun W => holeNull_any lo hi 0 0 false p1 p2 W)
  show Calls _ _ _ _ fun e w' => e = .returned (.agg #[.int .i64 lo, .int .i64 hi, .bool true, .int .i64 0, .int .u64 0]) ∧ Ext w w'
  cases p1 with
  | none =>
    clear h
    (
        go_enter Tryz.func49, Tryz.ntmps49
        go_wp2_with fail
        generalize hW : World.alloc _ _ = W
        have HXW : Hid (Ext w W) := Lib.hid (by subst hW; exact ((Ext.refl w).alloc _).alloc _)
        have HB2 : Hid (W.heap[w.heap.size + 1]? = some (.cells #[.int .i64 0, .int .i64 0, .bool false, .int .i64 0, .int .u64 0] 42 (0, 0))) := Lib.hid (by subst hW; exact heap_alloc2 w _ _)
        clear hW
        refine (HN.out _).mono ?_
        rintro e w1 ⟨rfl, hx1⟩
        have HX1 := Lib.hid (HXW.out.trans hx1)
        have HC2 := Lib.hid ((hx1.block (block_lt HB2.out)).trans HB2.out)
        clear hx1 HN
        go_wp2_with (first | (refine wpList_store_box rfl _ _ _ rfl _ _ _ _ rfl rfl HC2.out rfl row_info (by simp [Value.oneCell']) ?_; rintro w8 hb8 hc8; have HB8 := Lib.hid hb8; have HC8 := Lib.hid hc8; clear hb8 hc8))
        exact bodyPost_ret (results_box Tryz.results49 _ _ rfl HB8.out Tryz.underlying42 rfl row_info) rfl ⟨rfl, ((Chg.of_ext (S := fun _ => False) HX1.out).trans HC8.out (fun i hi e => by omega)).ext (fun _ _ e => e)⟩)
  | some a1 =>
    have hp : p2 = none := h.resolve_left (by simp)
    subst hp
    clear h
    (
        go_enter Tryz.func49, Tryz.ntmps49
        go_wp2_with fail
        generalize hW : World.alloc _ _ = W
        have HXW : Hid (Ext w W) := Lib.hid (by subst hW; exact ((Ext.refl w).alloc _).alloc _)
        have HB2 : Hid (W.heap[w.heap.size + 1]? = some (.cells #[.int .i64 0, .int .i64 0, .bool false, .int .i64 0, .int .u64 0] 42 (0, 0))) := Lib.hid (by subst hW; exact heap_alloc2 w _ _)
        clear hW
        refine (HN.out _).mono ?_
        rintro e w1 ⟨rfl, hx1⟩
        have HX1 := Lib.hid (HXW.out.trans hx1)
        have HC2 := Lib.hid ((hx1.block (block_lt HB2.out)).trans HB2.out)
        clear hx1 HN
        go_wp2_with (first | (refine wpList_store_box rfl _ _ _ rfl _ _ _ _ rfl rfl HC2.out rfl row_info (by simp [Value.oneCell']) ?_; rintro w8 hb8 hc8; have HB8 := Lib.hid hb8; have HC8 := Lib.hid hc8; clear hb8 hc8))
        exact bodyPost_ret (results_box Tryz.results49 _ _ rfl HB8.out Tryz.underlying42 rfl row_info) rfl ⟨rfl, ((Chg.of_ext (S := fun _ => False) HX1.out).trans HC8.out (fun i hi e => by omega)).ext (fun _ _ e => e)⟩)

/-- What a hole is told. -/
structure HoleTells (g : FuncId) (how : Int) (R : List Rw) : Prop where
  enter : ∀ args w, (callFunc g args).run Tryz.prog w = .ok (.enter g args) w
  call : ∀ (lo hi : Int) (p1 p2 : Option Addr) (r1 r2 : Option Rw) (W : World), RowPt W p1 r1 → RowPt W p2 r2 → (∀ r, r1 = some r → r ∈ R ∧ r.lo < lo ∧ lo ≤ r.lo + 4398046511104) → (∀ s, r2 = some s → s ∈ R ∧ lo < s.lo) →
    Calls Tryz.prog g #[.agg #[.int .i64 lo, .int .i64 hi, .bool false, .int .i64 0, .int .u64 0, .pointer p1, .pointer p2]] W fun e w' => e = .returned (.agg (rwc (holeR how r1 r2 (lo, hi))).toArray) ∧ Ext W w'

theorem tells_null (how : Int) (R : List Rw) (h : how = 1) : HoleTells 47 how R :=
  ⟨fun args w => by kernel_rfl, fun lo hi p1 p2 r1 r2 W _ _ _ _ => by
    have e : holeR how r1 r2 (lo, hi) = nullR (lo, hi) := by unfold holeR; rw [if_neg (by omega), if_neg (by omega)]
    rw [e]
    exact holeNull_any lo hi 0 0 false p1 p2 W⟩
theorem tells_prev (how : Int) (R : List Rw) (h : how = 2) : HoleTells 48 how R :=
  ⟨fun args w => by kernel_rfl, fun lo hi p1 p2 r1 r2 W h1 _ _ _ => by
    have e : holeR how r1 r2 (lo, hi) = prevW lo hi r1 := by unfold holeR; rw [if_pos h]; cases r1 <;> rfl
    rw [e]
    exact holePrev_any lo hi p1 p2 r1 W h1⟩
/-- Rows that are not too much. -/
structure RowsOk (R : List Rw) : Prop where
  t : ∀ r ∈ R, -2305843009213693952 ≤ r.lo ∧ r.lo ≤ 2305843009213693952
  v : ∀ r ∈ R, -1208925819614629174706176 ≤ r.v ∧ r.v ≤ 1208925819614629174706176
theorem tells_line (how : Int) (R : List Rw) (h : how = 3) (hR : RowsOk R) : HoleTells 49 how R :=
  ⟨fun args w => by kernel_rfl, fun lo hi p1 p2 r1 r2 W h1 h2 b1 b2 => by
    cases r1 with
    | none =>
      have e : holeR how none r2 (lo, hi) = nullR (lo, hi) := by unfold holeR; rw [if_neg (by omega), if_pos h]
      rw [e]
      exact holeLine_none lo hi p1 p2 W (.inl h1)
    | some r =>
      cases r2 with
      | none =>
        have e : holeR how (some r) none (lo, hi) = nullR (lo, hi) := by unfold holeR; rw [if_neg (by omega), if_pos h]
        rw [e]
        exact holeLine_none lo hi p1 p2 W (.inr h2)
      | some s =>
        have e : holeR how (some r) (some s) (lo, hi) = ⟨lo, hi, lineV r s lo, false⟩ := by unfold holeR; rw [if_neg (by omega), if_pos h]
        rw [e]
        obtain ⟨m1, l1, l2⟩ := b1 r rfl
        obtain ⟨m2, l3⟩ := b2 s rfl
        have t1 := hR.t r m1
        have t2 := hR.t s m2
        have v1 := hR.v r m1
        have v2 := hR.v s m2
        exact holeLine_any lo hi p1 p2 r s W h1 h2 t1.1 l1 l2 (by omega) t2.2 v1.1 v1.2 v2.1 v2.2⟩

/-- Rows that are windows' of a list that steps evenly. -/
structure WinRows (st F : Int) (ws : List (Int × Int)) (R : List Rw) : Prop where
  mem : ∀ r ∈ R, r.nul = false ∧ (r.lo, r.hi) ∈ ws
  up : R.Pairwise (fun x y => x.lo < y.lo)
  at' : ∀ (j : Nat) (w : Int × Int), ws[j]? = some w → w.1 = F + (j : Int) * st
  near : ∀ x ∈ ws, ∀ y ∈ ws, x.1 ≤ y.1 + 4398046511104
  st1 : 1 ≤ st

theorem WinRows.next {st F : Int} {ws : List (Int × Int)} {R : List Rw} (h : WinRows st F ws R) (j : Nat) :
    nx R (F + ((j + 1 : Nat) : Int) * st) = match R[nx R (F + (j : Int) * st)]? with | some r => if r.lo = F + (j : Int) * st then nx R (F + (j : Int) * st) + 1 else nx R (F + (j : Int) * st) | none => nx R (F + (j : Int) * st) := by
  have e : F + ((j + 1 : Nat) : Int) * st = F + (j : Int) * st + st := by rw [Int.natCast_add, Int.add_mul]; simp; omega
  rw [e]
  refine nx_step h.up h.st1 (fun r hr hz => ?_)
  obtain ⟨i, hi⟩ := List.getElem?_of_mem (h.mem r hr).2
  have e2 := h.at' i _ hi
  simp only at e2
  rcases Nat.lt_trichotomy i j with h1 | h1 | h1
  · exfalso
    have : ((i : Int) + 1) * st ≤ (j : Int) * st := Int.mul_le_mul_of_nonneg_right (by omega) (by have := h.st1; omega)
    rw [Int.add_mul, Int.one_mul] at this
    have := h.st1
    omega
  · left; rw [e2, h1]
  · right
    have : ((j : Int) + 1) * st ≤ (i : Int) * st := Int.mul_le_mul_of_nonneg_right (by omega) (by have := h.st1; omega)
    rw [Int.add_mul, Int.one_mul] at this
    omega
theorem nx_zero {st F : Int} {ws : List (Int × Int)} {R : List Rw} (h : WinRows st F ws R) : nx R (F + ((0 : Nat) : Int) * st) = 0 := by
  unfold nx
  rw [List.filter_eq_nil_iff.2 (fun r hr => ?_)]
  · rfl
  · obtain ⟨i, hi⟩ := List.getElem?_of_mem (h.mem r hr).2
    have e2 := h.at' i _ hi
    simp only at e2
    have : 0 ≤ (i : Int) * st := Int.mul_nonneg (by omega) (by have := h.st1; omega)
    simp
    omega

theorem row_at {w : World} {b off k : Nat} {p : Rw} (h0 : w.cell? ⟨b, off + k * 5, none⟩ = some (.int .i64 p.lo)) (h3 : w.cell? ⟨b, off + k * 5 + 3, none⟩ = some (.int .i64 (p.v / 18446744073709551616))) (h4 : w.cell? ⟨b, off + k * 5 + 4, none⟩ = some (.int .u64 (p.v % 18446744073709551616))) : RowAt w b (off + k * 5) p := ⟨h0, h3, h4⟩

theorem at_prev {w : World} {g : Nat} {a : Option Addr} {n c k : Nat} {R : List Rw} (hg : w.cell? ⟨g, 0, none⟩ = some (.slice a n c)) (hR : Src w 5 (.slice a n c) n (rws R)) (hk : k ≤ n) (z : Int) (hz : z = (k : Int) - 1) :
    ∃ p, RowPt w p (prevR R k) ∧ ∀ W, Ext w W → Calls Tryz.prog 51 #[.int .i64 z, .pointer (some ⟨g, 0, none⟩)] W fun e w' => e = .returned (.pointer p) ∧ W = w' := by
  have hgl := World.block_lt_of_cell? _ _ hg
  subst hz
  rcases Nat.eq_zero_or_pos k with h0 | h0
  · subst h0
    exact ⟨none, by unfold prevR; rw [if_pos rfl]; exact rfl, fun W hx => rowAt_out W g a n c _ ((hx.cell (p := ⟨g, 0, none⟩) hgl).trans hg) (.inl (by omega))⟩
  · obtain ⟨b, off, q, rfl, hq, q0, q1, q2, q3, q4⟩ := rws_src hR (show k - 1 < n by omega)
    refine ⟨some ⟨b, off + (k - 1) * 5, none⟩, by unfold prevR; rw [if_neg (by omega), hq]; exact ⟨b, _, rfl, row_at q0 q3 q4⟩, fun W hx => ?_⟩
    rw [show (k : Int) - 1 = ((k - 1 : Nat) : Int) by omega]
    exact rowAt_in W g b off n c (k - 1) ((hx.cell (p := ⟨g, 0, none⟩) hgl).trans hg) (by omega)
theorem at_next {w : World} {g : Nat} {a : Option Addr} {n c k : Nat} {R : List Rw} (hg : w.cell? ⟨g, 0, none⟩ = some (.slice a n c)) (hR : Src w 5 (.slice a n c) n (rws R)) :
    ∃ p, RowPt w p (R[k]?) ∧ ∀ W, Ext w W → Calls Tryz.prog 51 #[.int .i64 (k : Int), .pointer (some ⟨g, 0, none⟩)] W fun e w' => e = .returned (.pointer p) ∧ W = w' := by
  have hgl := World.block_lt_of_cell? _ _ hg
  have hl := enc_src_len rwc_len (by decide) hR
  rcases Nat.lt_or_ge k n with h0 | h0
  · obtain ⟨b, off, q, rfl, hq, q0, q1, q2, q3, q4⟩ := rws_src hR h0
    exact ⟨some ⟨b, off + k * 5, none⟩, by rw [hq]; exact ⟨b, _, rfl, row_at q0 q3 q4⟩, fun W hx => rowAt_in W g b off n c k ((hx.cell (p := ⟨g, 0, none⟩) hgl).trans hg) h0⟩
  · exact ⟨none, by rw [List.getElem?_eq_none (by omega)]; exact rfl, fun W hx => rowAt_out W g a n c _ ((hx.cell (p := ⟨g, 0, none⟩) hgl).trans hg) (.inr (by omega))⟩
theorem Calls.quiet_turned {P : Program} {f : FuncId} {args : Array Value} {w : World} {T : Nat → Bool} {d : Nat} {g : Nat → Obj} {os : Array Obj} {v : Value} (h : Calls P f args (turned w T d g os) fun e w' => e = .returned v ∧ turned w T d g os = w') :
    Calls P f args (turned w T d g os) fun e w'' => e = .returned v ∧ ∃ z : Turned, w'' = turned w T z.d z.f z.os := h.mono fun _ _ ⟨he, hm⟩ => ⟨he, ⟨d, g, os⟩, hm.symm⟩
theorem RowPt.ext {w w' : World} {p : Option Addr} {r : Option Rw} (h : RowPt w p r) (hx : Ext w w') : RowPt w' p r := by
  cases r with
  | none => exact h
  | some r => obtain ⟨b, o, e, h⟩ := h; exact ⟨b, o, e, h.ext hx⟩
end Go.Proofs.YtokllgdbmnmieaaGreat

/-! gaps.Fill: the walk. -/

namespace Go.Proofs.YtokllgdbmnmieaaGreat
open Go.RowKit Go.Sort Go.Lib

theorem append_none_run {P : Program} (w : World) (t ty e : TypeId) (i : TypeInfo) (ht : P.underlying t = some (.slice e)) (hi : P.info? e = some i) (base a : Option Addr) (c : Nat) :
    (Builtin.append_ #[t, t] ty #[.slice base 0 0, .slice a 0 c]).run P w = .ok (.slice base 0 0) w := by
  cases base <;> cases a <;> simp [Builtin.append_, run_underlying ht, sizeOf, typeInfo, hi, storeCells, go_sem]

theorem ext_turned (w : World) (d : Nat) (f : Nat → Obj) (os : Array Obj) : Ext w (turned w (fun _ => false) d f os) := (chg_turned w (fun _ => false) d f os).ext (fun i hi e => by simp at e)

set_option maxHeartbeats 8000000 in
set_option maxRecDepth 100000 in
theorem gfill_any (how wd st off fr tO : Int) (R : List Rw) (w : World) (a : Option Addr) (n c : Nat) (hR : Src w 5 (.slice a n c) n (rws R)) (hn : n ≤ 70000) (hv : windowB wd st off = true) (h1 : timeB fr = true) (h2 : timeB tO = true) (h3 : fr ≤ tO) (hN : allN wd st off fr tO ≤ 65536)
    (hh0 : 0 ≤ how) (hh3 : how ≤ 3) (hW : WinRows st (firstF wd st off fr) (allW wd st off fr tO) R) (hok : RowsOk R) :
    Calls Tryz.prog 25 #[.slice a n c, .agg #[.int .i64 wd, .int .i64 st, .int .i64 off], .agg #[.int .i64 fr, .int .i64 tO], .int .i64 how] w fun e w' => ∃ a' m c', e = .returned (.tuple #[.slice a' m c', .int .i64 0]) ∧ Src w' 5 (.slice a' m c') m (rws (fillL how (allW wd st off fr tO) R)) ∧ Ext w w' := by
  have HR := Lib.hid hR
  have HW := Lib.hid hW
  have HOK := Lib.hid hok
  have HWA := Lib.hid (fun W => wall_any wd st off fr tO W hv h1 h2 h3 hN)
  have HNN := Lib.hid hN
  obtain ⟨ws, hws⟩ : ∃ ws, ws = allW wd st off fr tO := ⟨_, rfl⟩
  obtain ⟨N, hNe⟩ : ∃ N, N = allN wd st off fr tO := ⟨_, rfl⟩
  obtain ⟨F, hF⟩ : ∃ F, F = firstF wd st off fr := ⟨_, rfl⟩
  rw [← hws, ← hF] at HW
  rw [← hws, ← hNe] at HWA
  rw [← hNe] at HNN
  rw [← hws]
  clear hR hW hok hv h1 h2 h3 hN hws hNe hF
  go_enter Tryz.func25, Tryz.ntmps25
  go_wp2_with fail
  generalize hW : World.alloc _ _ = W
  have HXW : Hid (Ext w W) := Lib.hid (by subst hW; exact (((Ext.refl w).alloc _).alloc _).alloc _)
  have HB : Hid (W.heap[w.heap.size]? = some (.cells #[.slice a n c] 31 (0, 0))) := Lib.hid (by
    subst hW
    have h0 := heap_alloc_new w (.cells #[.slice a n c] 31 (0, 0))
    exact ((((Ext.refl _).alloc _).alloc _).block (block_lt h0)).trans h0)
  clear hW
  refine (HWA.out _).mono ?_
  rintro e w1 ⟨v, rfl, hm⟩
  obtain ⟨va, vc, rfl⟩ := hm.row.shape
  have HX1 := Lib.hid (HXW.out.trans hm.ext)
  have HB1 := Lib.hid ((hm.ext.block (block_lt HB.out)).trans HB.out)
  have HS := Lib.hid (hm.row.src (sps_one _))
  clear hm HB HXW HWA
  go_upto_block 0 with fail
  go_cut [12] (fun s12 wx => ∃ g, s12 = .func (.func g) #[] #[] ∧ Hid (how = 0 ∨ HoleTells g how R) ∧ wx = w1)
  case first =>
    rcases (show how = 0 ∨ how = 1 ∨ how = 2 ∨ how = 3 by omega) with hh | hh | hh | hh
    · subst hh
      go_wp2_with fail
      go_meet
      exact ⟨47, rfl, Lib.hid (.inl (by first | rfl | trivial)), rfl⟩
    · subst hh
      go_wp2_with fail
      go_meet
      exact ⟨47, rfl, Lib.hid (.inr (tells_null 1 R rfl)), rfl⟩
    · subst hh
      go_wp2_with fail
      go_meet
      exact ⟨48, rfl, Lib.hid (.inr (tells_prev 2 R rfl)), rfl⟩
    · subst hh
      go_wp2_with fail
      go_meet
      exact ⟨49, rfl, Lib.hid (.inr (tells_line 3 R rfl HOK.out)), rfl⟩
  case rest =>
    obtain ⟨g, rfl, HG, rfl⟩ := hcut
    have HRW := Lib.hid (HR.out.ext HX1.out)
    have c0 : wc.cell? ⟨w.heap.size, 0, none⟩ = some (.slice a n c) := by have := cell_of_block HB1.out 0; simpa using this
    go_wp2_with fail
    refine (gfine_any wc a n c R HRW.out va N vc ws HS.out (by omega) (by have := HNN.out; omega) HW.out.mem HW.out.up).mono ?_
    rintro e w2 ⟨rfl, hx2⟩
    have HX2 := Lib.hid (HX1.out.trans hx2)
    have HB2 := Lib.hid ((hx2.block (block_lt HB1.out)).trans HB1.out)
    have HR2 := Lib.hid (HRW.out.ext hx2)
    have HS2 := Lib.hid (HS.out.ext hx2)
    clear hx2 HX1 HB1 HRW HS c0 HOK
    have c0 : w2.cell? ⟨w.heap.size, 0, none⟩ = some (.slice a n c) := by have := cell_of_block HB2.out 0; simpa using this
    by_cases hz : how = 0
    · subst hz
      have hbl : w.heap.size < w2.heap.size := World.block_lt_of_cell? _ _ c0
      have HLR := Lib.hid (enc_src_len rwc_len (by decide) HR2.out)
      have HE : Hid (fillL 0 ws R = R) := Lib.hid (by unfold fillL; rw [if_pos rfl])
      rcases Nat.eq_zero_or_pos n with hn0 | hn0
      · subst hn0
        have HR0 : Hid (R = []) := Lib.hid (List.eq_nil_of_length_eq_zero HLR.out)
        obtain ⟨i0, z0, hi0, hz0, _⟩ := elem_rw.info
        have HA := Lib.hid (fun W base => append_none_run W 31 31 42 i0 Tryz.underlying31 hi0 base a c)
        clear hi0 hz0
        go_wp2_with (at_builtin; go_must (refine wpList_append_run rfl _ _ 31 rfl _ _ _ _ rfl rfl (HA.out _ _) ?_))
        go_ret2
        refine ⟨_, _, _, rfl, ?_, HX2.out.alloc _⟩
        rw [HE.out, HR0.out]
        exact .inr ⟨_, _, rfl, rfl, fun j u h => by simp [rws] at h, fun u h => by simp [rws] at h⟩
      · go_wp2_with (at_builtin; go_must (refine wpList_append_start (xs := []) elem_rw rfl _ _ rfl rfl rfl (.inr ⟨_, rfl, .inr ⟨_, _, rfl, rfl, fun j u h => by simp at h, fun u h => by simp at h⟩⟩) ((Ext.refl w2).alloc _) (HR2.out.ext ((Ext.refl _).alloc _)) hn0 (by unfold maxLen; omega) (by omega) ?_; intro v' w4 hmade); have HM := Lib.hid hmade; obtain ⟨va', vc', rfl⟩ := hmade.row.shape; clear hmade)
        go_ret2
        refine ⟨_, _, _, rfl, ?_, HX2.out.trans HM.out.ext⟩
        rw [HE.out]
        have := HM.out.row.src (by simpa using rws_one R)
        simpa using this
    · have HT := Lib.hid (HG.out.resolve_left hz)
      have hzb : (how == 0) = false := by simp [hz]
      have hzz : how ≠ 0 := hz
      have HF : Hid (fillL how ws R = ws.map (fillAt how R)) := Lib.hid (by unfold fillL; rw [if_neg hz])
      have LW := Lib.hid (enc_src_len spc_len (by decide) HS2.out)
      have LR := Lib.hid (enc_src_len rwc_len (by decide) HR2.out)
      have HC0 := Lib.hid c0
      have hNN : N ≤ 65536 := HNN.out
      clear HG hz hzz HR HNN
      go_wp2_with fail
      clear c0 hzb
      go_loopw [14, 15, 51] (fun s14 s15 s51 wr => ∃ (j k : Nat) (oa : Option Addr) (oc : Nat), s14 = .slice oa j oc ∧ s15 = .int .i64 k ∧ s51 = .int .i64 j ∧ j ≤ N ∧ k ≤ n ∧ Hid (MadeTo w2 42 5 (.slice oa j oc) j (rws ((ws.take j).map (fillAt how R))) wr ∧ k = nx R (F + (j : Int) * st))) (fun _ _ t _ => N - (RowKit.intOf t).toNat)
      case atStart => exact ⟨0, 0, none, 0, rfl, rfl, rfl, by omega, by omega, Lib.hid ⟨⟨Row.nil _ _ _, by simp [Value.ownBlock], Ext.refl _⟩, (nx_zero HW.out).symm⟩⟩
      case round =>
        obtain ⟨j, k, oa, oc, rfl, rfl, rfl, hj, hk, I⟩ := hrel
        by_cases hlt : j < N
        · obtain ⟨qb, qo, q, rfl, hq, q0, q1⟩ := sps_src (HS2.out.ext I.out.1.ext) hlt
          have HQ := Lib.hid hq
          have HT1 : Hid (q.1 = F + (j : Int) * st) := Lib.hid (HW.out.at' j q hq)
          have HTK : Hid ((ws.take (j + 1)).map (fillAt how R) = (ws.take j).map (fillAt how R) ++ [fillAt how R q]) := Lib.hid (by rw [List.take_add_one, hq]; simp)
          have HK1 : Hid (nx R q.1 = k) := Lib.hid (by rw [HT1.out]; exact I.out.2.symm)
          have HNXT := Lib.hid (HW.out.next j)
          rw [← HT1.out, HK1.out] at HNXT
          clear hq
          go_upto_region 23 with fail
          generalize hWq : World.alloc _ _ = Wq
          have HXq : Hid (Ext wr Wq) := Lib.hid (by subst hWq; exact (Ext.refl _).alloc _)
          have HQB : Hid (Wq.heap[wr.heap.size]? = some (.cells #[.int .i64 q.1, .int .i64 q.2] 124 (0, 0))) := Lib.hid (by subst hWq; exact heap_alloc_new wr _)
          clear hWq q0 q1
          have HI := Lib.hid (show MadeTo w2 42 5 (.slice oa j oc) j (rws ((ws.take j).map (fillAt how R))) Wq from ⟨I.out.1.row.ext HXq.out, I.out.1.own, I.out.1.ext.trans HXq.out⟩)
          have e0 : Wq.cell? ⟨wr.heap.size, 0, none⟩ = some (.int .i64 q.1) := by have := cell_of_block HQB.out 0; simpa using this
          have e1 : Wq.cell? ⟨wr.heap.size, 1, none⟩ = some (.int .i64 q.2) := by have := cell_of_block HQB.out 1; simpa using this
          have d0 : Wq.cell? ⟨w.heap.size, 0, none⟩ = some (.slice a n c) := by have := cell_of_block ((HI.out.ext.block (block_lt HB2.out)).trans HB2.out) 0; simpa using this
          have HD0 := Lib.hid d0
          have HE01 := Lib.hid (And.intro e0 e1)
          have HRq := Lib.hid (HR2.out.ext HI.out.ext)
          clear I
          have HMIS : Hid ((∀ r, R[k]? = some r → r.lo ≠ q.1) → fillAt how R q = holeR how (prevR R k) R[k]? q ∧ nx R (F + ((j + 1 : Nat) : Int) * st) = k ∧ (∀ r, prevR R k = some r → r ∈ R ∧ r.lo < q.1 ∧ q.1 ≤ r.lo + 4398046511104) ∧ (∀ s, R[k]? = some s → s ∈ R ∧ q.1 < s.lo)) := Lib.hid (fun h => by
            have hkp := nx_parts HW.out.up q.1
            rw [HK1.out] at hkp
            refine ⟨?_, ?_, fun r hr => ?_, fun s hs => ?_⟩
            · unfold fillAt
              rw [HK1.out]
              cases hr : R[k]? with
              | none => rfl
              | some r => simp only; rw [if_neg (h r hr)]
            · rw [HNXT.out]
              cases hr : R[k]? with
              | none => rfl
              | some r => simp only; rw [if_neg (h r hr)]
            · unfold prevR at hr
              by_cases hk0 : k = 0
              · rw [if_pos hk0] at hr; cases hr
              · rw [if_neg hk0] at hr
                have hm := List.mem_of_getElem? hr
                exact ⟨hm, (hkp _ r hr).1 (by omega), HW.out.near q (List.mem_of_getElem? HQ.out) _ (HW.out.mem r hm).2⟩
            · have h2 := (hkp _ s hs).2 (Nat.le_refl _)
              have h3 := h s hs
              exact ⟨List.mem_of_getElem? hs, by omega⟩)
          by_cases hkn : k < n
          · obtain ⟨rb, ro, r, rfl, hr, r0, r1, r2, r3, r4⟩ := rws_src HRq.out hkn
            have hd0 : decide ((k : Int) < (n : Int)) = true := by simp; omega
            by_cases hrq : r.lo = q.1
            · have HA : Hid (fillAt how R q = r ∧ nx R (F + ((j + 1 : Nat) : Int) * st) = k + 1) := Lib.hid ⟨by unfold fillAt; rw [HK1.out, hr]; simp only; rw [if_pos hrq], by rw [HNXT.out, hr]; simp only; rw [if_pos hrq]⟩
              have hbq : (r.lo == q.1) = true := beq_iff_eq.2 hrq
              go_big_quiet (fail)
              clear hd0 hbq hrq HMIS e0 e1
              generalize hWz : Wq.drewN nq = Wz
              have HXz : Hid (Ext Wq Wz) := Lib.hid (by subst hWz; exact Ext.drewN _ _)
              replace r0 := (HXz.out.cell (World.block_lt_of_cell? _ _ r0)).trans r0
              replace r1 := (HXz.out.cell (World.block_lt_of_cell? _ _ r1)).trans r1
              replace r2 := (HXz.out.cell (World.block_lt_of_cell? _ _ r2)).trans r2
              replace r3 := (HXz.out.cell (World.block_lt_of_cell? _ _ r3)).trans r3
              replace r4 := (HXz.out.cell (World.block_lt_of_cell? _ _ r4)).trans r4
              replace d0 := (HXz.out.cell (World.block_lt_of_cell? _ _ d0)).trans d0
              clear hWz hr nq
              go_wp2_with (at_builtin; go_must (refine wpList_append_start elem_rw rfl _ _ rfl rfl rfl (Start.row (HI.out.row.ext (HXz.out.trans ((Ext.refl _).alloc _))) HI.out.own) (HI.out.ext.trans (HXz.out.trans ((Ext.refl _).alloc _))) (src_rw (p := r) (heap_alloc_new _ _)) (by omega) (by unfold maxLen; omega) (by omega) ?_; intro v' w4 hmade); have HM := Lib.hid hmade; obtain ⟨va', vc', rfl⟩ := hmade.row.shape; clear hmade r0 r1 r2 r3 r4 d0)
              go_roundw
              case rel => exact ⟨j + 1, k + 1, va', vc', rfl, by go_num, by go_num, by omega, by omega, Lib.hid ⟨by rw [HTK.out, rws_append, HA.out.1]; exact HM.out, HA.out.2.symm⟩⟩
              case measure => simp [RowKit.intOf]; omega
            · have HM := Lib.hid (HMIS.out (fun r' hr' => by rw [hr] at hr'; cases hr'; exact hrq))
              have hbq : (r.lo == q.1) = false := beq_eq_false_iff_ne.2 hrq
              clear hr r1 r2 r3 r4 hrq HMIS
              go_big_quiet (fail)
              go_upto_region 26 with fail
              clear r0 hd0 hbq e0 e1
              (
                  generalize hWz : Wq.drewN nq = Wz
                  have HXz : Hid (Ext Wq Wz) := Lib.hid (by subst hWz; exact Ext.drewN _ _)
                  clear hWz nq
                  have HDz := Lib.hid ((HXz.out.cell (World.block_lt_of_cell? _ _ d0)).trans d0)
                  clear d0
                  obtain ⟨z, hzk⟩ : ∃ z : Int, z = (k : Int) - 1 := ⟨_, rfl⟩
                  obtain ⟨p1, hp1, hc1⟩ := at_prev HDz.out (HRq.out.ext HXz.out) hk z hzk
                  obtain ⟨p2, hp2, hc2⟩ := at_next (k := k) HDz.out (HRq.out.ext HXz.out)
                  have hzw : IntKind.i64.wrap ((k : Int) - 1) = z := by rw [hzk]; exact IntWalk.i64_in _ (by omega)
                  have HC1 := Lib.hid hc1
                  have HC2 := Lib.hid hc2
                  obtain ⟨X, hX⟩ : ∃ X, X = holeR how (prevR R k) R[k]? q := ⟨_, rfl⟩
                  have HTC : Hid (∀ W, Ext Wz W → Calls Tryz.prog g #[.agg #[.int .i64 q.1, .int .i64 q.2, .bool false, .int .i64 0, .int .u64 0, .pointer p1, .pointer p2]] W fun e w' => e = .returned (.agg #[.int .i64 X.lo, .int .i64 X.hi, .bool X.nul, .int .i64 (X.v / 18446744073709551616), .int .u64 (X.v % 18446744073709551616)]) ∧ Ext W w') := Lib.hid (fun W hx => by
                    rw [hX]
                    exact HT.out.call q.1 q.2 p1 p2 (prevR R k) R[k]? W (hp1.ext hx) (hp2.ext hx) HM.out.2.2.1 HM.out.2.2.2)
                  have HFX : Hid (fillAt how R q = X) := Lib.hid (by rw [hX]; exact HM.out.1)
                  have eg := HT.out.enter
                  have t0 := cell_turned (T := fun _ => false) ((HXz.out.cell (World.block_lt_of_cell? _ _ HE01.out.1)).trans HE01.out.1) rfl
                  have t1 := cell_turned (T := fun _ => false) ((HXz.out.cell (World.block_lt_of_cell? _ _ HE01.out.2)).trans HE01.out.2) rfl
                  clear hp1 hp2 hc1 hc2 hX hzk
                  refine wp_region_plan 17 (fun w' => ∃ p : Turned, w' = turned Wz (fun _ => false) p.d p.f p.os) (.reads [0, 1, 2, 3, 4, 5, 6, 7, 8, 9, 11, 12] (.one 10 (.one 13 (.reads [14] (.one 15 (.one 16 (.one 17 (.one 18 .done)))))))) (by kernel_rfl) (by kernel_rfl) (fun _ _ dd _ _ hh => by cases dd <;> exact hh) ?_ ?_
                  · exact turned_of_ext (Ext.drewN Wz 1)
                  refine wpPlan_reads ?_
                  simp only [pickOps, List.getElem?_cons_succ, List.getElem?_cons_zero]
                  repeat (go_big_quiet_step (fail))
                  refine wpQuiet_nil ?_
                  clear t0 t1 hzw
                  change wpPlan _ _ _ _ _ _ _ _ (Wz.drewN 1)
                  have HXd : Hid (Ext Wz (Wz.drewN 1)) := Lib.hid (Ext.drewN Wz 1)
                  generalize Wz.drewN 1 = Wd at HXd ⊢
                  refine wpPlan_one ?_
                  simp only [pickOps, List.getElem?_cons_succ, List.getElem?_cons_zero]
                  go_wp2_with fail
                  refine (HC1.out _ HXd.out).mono ?_
                  rintro e w5 ⟨rfl, rfl⟩
                  go_wp2_with fail
                  refine thenX_mk (turned_of_ext HXd.out) (wpPlan_one ?_)
                  simp only [pickOps, List.getElem?_cons_succ, List.getElem?_cons_zero]
                  go_wp2_with fail
                  refine (HC2.out _ HXd.out).mono ?_
                  rintro e w5 ⟨rfl, rfl⟩
                  go_wp2_with fail
                  refine thenX_mk (turned_of_ext HXd.out) (wpPlan_reads ?_)
                  simp only [pickOps, List.getElem?_cons_succ, List.getElem?_cons_zero]
                  repeat (go_big_quiet_step (fail))
                  refine wpQuiet_nil ?_
                  refine wpPlan_one ?_
                  simp only [pickOps, List.getElem?_cons_succ, List.getElem?_cons_zero]
                  go_wp2_with (go_at_fn g; refine (HTC.out _ HXd.out).mono ?_; rintro e w5 ⟨rfl, hx5⟩; have HX5 := Lib.hid hx5; clear hx5)
                  refine thenX_mk (turned_of_ext (HXd.out.trans HX5.out)) (wpPlan_one ?_)
                  simp only [pickOps, List.getElem?_cons_succ, List.getElem?_cons_zero]
                  go_wp2_with fail
                  refine thenX_mk (turned_of_ext ((HXd.out.trans HX5.out).alloc _)) (wpPlan_one ?_)
                  simp only [pickOps, List.getElem?_cons_succ, List.getElem?_cons_zero]
                  have HXA := Lib.hid (HXz.out.trans (HXd.out.trans (HX5.out.alloc (.cells #[.int .i64 X.lo, .int .i64 X.hi, .bool X.nul, .int .i64 (X.v / 18446744073709551616), .int .u64 (X.v % 18446744073709551616)] 42 (0, 0)))))
                  have HSX := Lib.hid (src_rw (p := X) (heap_alloc_new w5 (.cells #[.int .i64 X.lo, .int .i64 X.hi, .bool X.nul, .int .i64 (X.v / 18446744073709551616), .int .u64 (X.v % 18446744073709551616)] 42 (0, 0))))
                  go_wp2_with (at_builtin; go_must (refine wpList_append_start elem_rw rfl _ _ rfl rfl rfl (Start.row (HI.out.row.ext HXA.out) HI.out.own) (HI.out.ext.trans HXA.out) HSX.out (by omega) (by unfold maxLen; omega) (by omega) ?_; intro v' w6 hmade); have HMD := Lib.hid hmade; obtain ⟨va', vc', rfl⟩ := hmade.row.shape; clear hmade)
                  refine thenX_last (wpPlan_one ?_)
                  simp only [pickOps, List.getElem?_cons_succ, List.getElem?_cons_zero]
                  go_wp2_with fail
                  refine thenX_last (wpPlan_done ?_)
                  go_wp2_with fail
                  go_roundw
                  case rel => exact ⟨j + 1, k, va', vc', rfl, rfl, by go_num, by omega, hk, Lib.hid ⟨by rw [HTK.out, rws_append, HFX.out]; exact HMD.out, HM.out.2.1.symm⟩⟩
                  case measure => simp [RowKit.intOf]; omega)
          · have HM := Lib.hid (HMIS.out (fun r' hr' => by rw [List.getElem?_eq_none (by have := LR.out; omega)] at hr'; cases hr'))
            have hd0 : decide ((k : Int) < (n : Int)) = false := by simp; omega
            clear HMIS
            go_big_quiet (fail)
            go_upto_region 26 with fail
            clear hd0 e0 e1
            (
                generalize hWz : Wq.drewN nq = Wz
                have HXz : Hid (Ext Wq Wz) := Lib.hid (by subst hWz; exact Ext.drewN _ _)
                clear hWz nq
                have HDz := Lib.hid ((HXz.out.cell (World.block_lt_of_cell? _ _ d0)).trans d0)
                clear d0
                obtain ⟨z, hzk⟩ : ∃ z : Int, z = (k : Int) - 1 := ⟨_, rfl⟩
                obtain ⟨p1, hp1, hc1⟩ := at_prev HDz.out (HRq.out.ext HXz.out) hk z hzk
                obtain ⟨p2, hp2, hc2⟩ := at_next (k := k) HDz.out (HRq.out.ext HXz.out)
                have hzw : IntKind.i64.wrap ((k : Int) - 1) = z := by rw [hzk]; exact IntWalk.i64_in _ (by omega)
                have HC1 := Lib.hid hc1
                have HC2 := Lib.hid hc2
                obtain ⟨X, hX⟩ : ∃ X, X = holeR how (prevR R k) R[k]? q := ⟨_, rfl⟩
                have HTC : Hid (∀ W, Ext Wz W → Calls Tryz.prog g #[.agg #[.int .i64 q.1, .int .i64 q.2, .bool false, .int .i64 0, .int .u64 0, .pointer p1, .pointer p2]] W fun e w' => e = .returned (.agg #[.int .i64 X.lo, .int .i64 X.hi, .bool X.nul, .int .i64 (X.v / 18446744073709551616), .int .u64 (X.v % 18446744073709551616)]) ∧ Ext W w') := Lib.hid (fun W hx => by
                  rw [hX]
                  exact HT.out.call q.1 q.2 p1 p2 (prevR R k) R[k]? W (hp1.ext hx) (hp2.ext hx) HM.out.2.2.1 HM.out.2.2.2)
                have HFX : Hid (fillAt how R q = X) := Lib.hid (by rw [hX]; exact HM.out.1)
                have eg := HT.out.enter
                have t0 := cell_turned (T := fun _ => false) ((HXz.out.cell (World.block_lt_of_cell? _ _ HE01.out.1)).trans HE01.out.1) rfl
                have t1 := cell_turned (T := fun _ => false) ((HXz.out.cell (World.block_lt_of_cell? _ _ HE01.out.2)).trans HE01.out.2) rfl
                clear hp1 hp2 hc1 hc2 hX hzk
                refine wp_region_plan 17 (fun w' => ∃ p : Turned, w' = turned Wz (fun _ => false) p.d p.f p.os) (.reads [0, 1, 2, 3, 4, 5, 6, 7, 8, 9, 11, 12] (.one 10 (.one 13 (.reads [14] (.one 15 (.one 16 (.one 17 (.one 18 .done)))))))) (by kernel_rfl) (by kernel_rfl) (fun _ _ dd _ _ hh => by cases dd <;> exact hh) ?_ ?_
                · exact turned_of_ext (Ext.drewN Wz 1)
                refine wpPlan_reads ?_
                simp only [pickOps, List.getElem?_cons_succ, List.getElem?_cons_zero]
                repeat (go_big_quiet_step (fail))
                refine wpQuiet_nil ?_
                clear t0 t1 hzw
                change wpPlan _ _ _ _ _ _ _ _ (Wz.drewN 1)
                have HXd : Hid (Ext Wz (Wz.drewN 1)) := Lib.hid (Ext.drewN Wz 1)
                generalize Wz.drewN 1 = Wd at HXd ⊢
                refine wpPlan_one ?_
                simp only [pickOps, List.getElem?_cons_succ, List.getElem?_cons_zero]
                go_wp2_with fail
                refine (HC1.out _ HXd.out).mono ?_
                rintro e w5 ⟨rfl, rfl⟩
                go_wp2_with fail
                refine thenX_mk (turned_of_ext HXd.out) (wpPlan_one ?_)
                simp only [pickOps, List.getElem?_cons_succ, List.getElem?_cons_zero]
                go_wp2_with fail
                refine (HC2.out _ HXd.out).mono ?_
                rintro e w5 ⟨rfl, rfl⟩
                go_wp2_with fail
                refine thenX_mk (turned_of_ext HXd.out) (wpPlan_reads ?_)
                simp only [pickOps, List.getElem?_cons_succ, List.getElem?_cons_zero]
                repeat (go_big_quiet_step (fail))
                refine wpQuiet_nil ?_
                refine wpPlan_one ?_
                simp only [pickOps, List.getElem?_cons_succ, List.getElem?_cons_zero]
                go_wp2_with (go_at_fn g; refine (HTC.out _ HXd.out).mono ?_; rintro e w5 ⟨rfl, hx5⟩; have HX5 := Lib.hid hx5; clear hx5)
                refine thenX_mk (turned_of_ext (HXd.out.trans HX5.out)) (wpPlan_one ?_)
                simp only [pickOps, List.getElem?_cons_succ, List.getElem?_cons_zero]
                go_wp2_with fail
                refine thenX_mk (turned_of_ext ((HXd.out.trans HX5.out).alloc _)) (wpPlan_one ?_)
                simp only [pickOps, List.getElem?_cons_succ, List.getElem?_cons_zero]
                have HXA := Lib.hid (HXz.out.trans (HXd.out.trans (HX5.out.alloc (.cells #[.int .i64 X.lo, .int .i64 X.hi, .bool X.nul, .int .i64 (X.v / 18446744073709551616), .int .u64 (X.v % 18446744073709551616)] 42 (0, 0)))))
                have HSX := Lib.hid (src_rw (p := X) (heap_alloc_new w5 (.cells #[.int .i64 X.lo, .int .i64 X.hi, .bool X.nul, .int .i64 (X.v / 18446744073709551616), .int .u64 (X.v % 18446744073709551616)] 42 (0, 0))))
                go_wp2_with (at_builtin; go_must (refine wpList_append_start elem_rw rfl _ _ rfl rfl rfl (Start.row (HI.out.row.ext HXA.out) HI.out.own) (HI.out.ext.trans HXA.out) HSX.out (by omega) (by unfold maxLen; omega) (by omega) ?_; intro v' w6 hmade); have HMD := Lib.hid hmade; obtain ⟨va', vc', rfl⟩ := hmade.row.shape; clear hmade)
                refine thenX_last (wpPlan_one ?_)
                simp only [pickOps, List.getElem?_cons_succ, List.getElem?_cons_zero]
                go_wp2_with fail
                refine thenX_last (wpPlan_done ?_)
                go_wp2_with fail
                go_roundw
                case rel => exact ⟨j + 1, k, va', vc', rfl, rfl, by go_num, by omega, hk, Lib.hid ⟨by rw [HTK.out, rws_append, HFX.out]; exact HMD.out, HM.out.2.1.symm⟩⟩
                case measure => simp [RowKit.intOf]; omega)
        · have HE : Hid (ws.take j = ws) := Lib.hid (List.take_of_length_le (by have := LW.out; omega))
          go_wp2_with fail
          go_ret2
          refine ⟨_, _, _, rfl, ?_, HX2.out.trans I.out.1.ext⟩
          rw [HF.out]
          have h := I.out.1.row.src (rws_one _)
          rw [HE.out] at h
          exact h
end Go.Proofs.YtokllgdbmnmieaaGreat

/-! The document's functions of points: tidemillref21.Value, tidemillref26.Value. -/

namespace Go.Proofs.YtokllgdbmnmieaaGreat
open Go.RowKit Go.Lib Go.Sort

theorem div_bnd26 {X n B : Int} (hn : 1 ≤ n) (h0 : -B ≤ X) (h1 : X ≤ B) : -B ≤ X / n ∧ X / n ≤ B := by
  have hB : B * 1 ≤ B * n := Int.mul_le_mul_of_nonneg_left hn (by omega)
  refine ⟨(Int.le_ediv_iff_mul_le (by omega)).2 ?_, Int.ediv_le_of_le_mul (by omega) (by omega)⟩
  rw [Int.neg_mul]
  omega
theorem agR_sum (g : Ag) (j : Nat) (hj : j < 8) : (agR g)[1 + j]? = (lmA g.s)[j]? := by
  rcases (show j = 0 ∨ j = 1 ∨ j = 2 ∨ j = 3 ∨ j = 4 ∨ j = 5 ∨ j = 6 ∨ j = 7 by omega) with h | h | h | h | h | h | h | h <;> subst h <;> rfl

theorem limbs_small (n : Int) (W : World) (h1 : -9223372036854775808 ≤ n) (h2 : n ≤ 9223372036854775807) :
    Calls Tryz.prog 95 #[.int .i64 (n / 9223372036854775808), .int .u64 (IntKind.u64.wrap n)] W fun e w' => e = .returned (.agg (lmA n)) ∧ Ext W w' := by
  rw [show n / 9223372036854775808 = n / 18446744073709551616 by omega, IntKind.wrap_u64]
  exact limbs_any n W (by omega) (by omega)

theorem limbs_nat (n : Int) (W : World) (h1 : 0 ≤ n) (h2 : n ≤ 9223372036854775807) :
    Calls Tryz.prog 95 #[.int .i64 (n / 9223372036854775808), .int .u64 n] W fun e w' => e = .returned (.agg (lmA n)) ∧ Ext W w' := by
  have := limbs_small n W (by omega) h2
  rw [IntKind.wrap_u64, Int.emod_eq_of_lt h1 (by omega)] at this
  exact this

set_option maxHeartbeats 1000000 in
set_option maxRecDepth 100000 in
theorem rvalue_any (g : Ag) (fn : Int) (w : World) (h0 : 0 ≤ fn) (h6 : fn ≤ 6) (hg : ValOk g) (hn62 : g.n < 4611686018427387904) :
    Calls Tryz.prog 55 #[.agg (agR g), .int .i64 fn] w fun e w' => e = .returned (.tuple #[.agg (lmA (valI g fn)), .bool true]) ∧ Ext w w' := by
  have HG := Lib.hid hg
  have hn1 := hg.n1
  have HI : Hid (∀ x, (Tryz.prog.info? 88).map (·.size) = some (lmA x).size) := Lib.hid (fun x => lm_info)
  obtain ⟨A, hA⟩ : ∃ A, A = agR g := ⟨_, rfl⟩
  have HCA : Hid (A[0]? = some (.int .i64 g.n) ∧ A[9]? = some (.int .i64 g.mn) ∧ A[10]? = some (.int .i64 g.mx) ∧ A[12]? = some (.int .i64 g.f.v) ∧ A[15]? = some (.int .i64 g.l.v)) := Lib.hid (by rw [hA]; exact ⟨rfl, rfl, rfl, rfl, rfl⟩)
  have HSM : Hid (∀ j, j < 8 → A[1 + j]? = (lmA g.s)[j]?) := Lib.hid (fun j hj => by rw [hA]; exact agR_sum g j hj)
  have HAI : Hid ((Tryz.prog.info? 90).map (·.size) = some A.size) := Lib.hid (by rw [hA]; exact ar_info)
  rw [← hA]
  obtain ⟨X, hX⟩ : ∃ X, X = valI g fn := ⟨_, rfl⟩
  have HVX := Lib.hid hX
  rw [← hX]
  clear hA hg hX
  go_enter Tryz.func55, Tryz.ntmps55
  have HB1 : Hid (((w.alloc (.cells A 90 (0, 0))).alloc (.cells #[.int .i64 0, .int .i64 0, .int .i64 0, .int .i64 0, .int .i64 0, .int .i64 0, .int .i64 0, .int .i64 0] 88 (0, 0))).heap[w.heap.size]? = some (.cells A 90 (0, 0))) := Lib.hid (by
    have h0 := heap_alloc_new w (.cells A 90 (0, 0))
    exact (((Ext.refl _).alloc _).block (block_lt h0)).trans h0)
  have HR : Hid (((w.alloc (.cells A 90 (0, 0))).alloc (.cells #[.int .i64 0, .int .i64 0, .int .i64 0, .int .i64 0, .int .i64 0, .int .i64 0, .int .i64 0, .int .i64 0] 88 (0, 0))).heap[w.heap.size + 1]? = some (.cells #[.int .i64 0, .int .i64 0, .int .i64 0, .int .i64 0, .int .i64 0, .int .i64 0, .int .i64 0, .int .i64 0] 88 (0, 0))) := Lib.hid (heap_alloc2 w _ _)
  have HX : Hid (Ext w ((w.alloc (.cells A 90 (0, 0))).alloc (.cells #[.int .i64 0, .int .i64 0, .int .i64 0, .int .i64 0, .int .i64 0, .int .i64 0, .int .i64 0, .int .i64 0] 88 (0, 0)))) := Lib.hid (((Ext.refl w).alloc _).alloc _)
  go_upto_region 1 with fail
  generalize (w.alloc (.cells A 90 (0, 0))).alloc (.cells #[.int .i64 0, .int .i64 0, .int .i64 0, .int .i64 0, .int .i64 0, .int .i64 0, .int .i64 0, .int .i64 0] 88 (0, 0)) = W at HB1 HR HX ⊢
  have a0 : W.cell? ⟨w.heap.size, 0, none⟩ = some (.int .i64 g.n) := by rw [cell_of_block HB1.out]; exact HCA.out.1
  have a9 : W.cell? ⟨w.heap.size, 9, none⟩ = some (.int .i64 g.mn) := by rw [cell_of_block HB1.out]; exact HCA.out.2.1
  have a10 : W.cell? ⟨w.heap.size, 10, none⟩ = some (.int .i64 g.mx) := by rw [cell_of_block HB1.out]; exact HCA.out.2.2.1
  have a12 : W.cell? ⟨w.heap.size, 12, none⟩ = some (.int .i64 g.f.v) := by rw [cell_of_block HB1.out]; exact HCA.out.2.2.2.1
  have a15 : W.cell? ⟨w.heap.size, 15, none⟩ = some (.int .i64 g.l.v) := by rw [cell_of_block HB1.out]; exact HCA.out.2.2.2.2
  have HRS : Hid (W.rangeAt w.heap.size 1 (lmA g.s).toList) := Lib.hid (fun jj u hj => by
    rw [cell_of_block HB1.out, HSM.out jj (by have := (List.getElem?_eq_some_iff.1 hj).1; simpa [lmA] using this)]
    simpa using hj)
  rcases (show fn = 0 ∨ fn = 1 ∨ fn = 2 ∨ fn = 3 ∨ fn = 4 ∨ fn = 5 ∨ fn = 6 by omega) with hf | hf | hf | hf | hf | hf | hf
  · subst hf
    have hvv : X = g.n := by rw [HVX.out]; simp [valI]
    clear HVX
    subst hvv
    have HL := Lib.hid (fun W => limbs_nat g.n W (by omega) (by omega))
    clear a9 a10 a12 a15
    (
        go_wp2_with fail
        refine (HL.out _).mono ?_
        rintro e w2 ⟨rfl, hx2⟩
        have HX2 := Lib.hid (HX.out.trans hx2)
        have HR2 := Lib.hid ((hx2.block (block_lt HR.out)).trans HR.out)
        clear hx2
        go_wp2_with (first | (refine wpList_store_box rfl _ _ _ rfl _ _ _ _ rfl rfl HR2.out rfl (HI.out _) (by simp [lmA, Value.oneCell']) ?_; rintro w5 hb5 hc5; have HB5 := Lib.hid hb5; have HC5 := Lib.hid hc5; clear hb5 hc5))
        exact bodyPost_ret (results_box_tmp Tryz.results55 _ _ rfl HB5.out Tryz.underlying88 rfl (HI.out _)) rfl ⟨rfl, ((Chg.of_ext (S := fun _ => False) HX2.out).trans HC5.out (fun i hi e => by omega)).ext (fun _ _ e => e)⟩)
  · subst hf
    have hvv : X = g.s := by rw [HVX.out]; simp [valI]
    clear HVX
    subst hvv
    clear a9 a10 a12 a15
    go_wp2_with (first | (refine wpList_load_mid rfl _ _ rfl w.heap.size 1 rfl (lmA g.s).toList _ HRS.out Tryz.underlying88 rfl (HI.out _) ?_) | (refine wpList_store_box rfl _ _ _ rfl _ _ _ _ rfl rfl HR.out rfl (HI.out _) (by simp [lmA, Value.oneCell']) ?_; rintro w5 hb5 hc5; have HB5 := Lib.hid hb5; have HC5 := Lib.hid hc5; clear hb5 hc5))
    exact bodyPost_ret (results_box_tmp Tryz.results55 _ _ rfl HB5.out Tryz.underlying88 rfl (HI.out _)) rfl ⟨rfl, ((Chg.of_ext (S := fun _ => False) HX.out).trans HC5.out (fun i hi e => by omega)).ext (fun _ _ e => e)⟩
  · subst hf
    have hvv : X = g.mn := by rw [HVX.out]; simp [valI]
    clear HVX
    subst hvv
    have HL := Lib.hid (fun W => limbs_small g.mn W HG.out.mn.1 HG.out.mn.2)
    clear a10 a12 a15
    (
        go_wp2_with fail
        refine (HL.out _).mono ?_
        rintro e w2 ⟨rfl, hx2⟩
        have HX2 := Lib.hid (HX.out.trans hx2)
        have HR2 := Lib.hid ((hx2.block (block_lt HR.out)).trans HR.out)
        clear hx2
        go_wp2_with (first | (refine wpList_store_box rfl _ _ _ rfl _ _ _ _ rfl rfl HR2.out rfl (HI.out _) (by simp [lmA, Value.oneCell']) ?_; rintro w5 hb5 hc5; have HB5 := Lib.hid hb5; have HC5 := Lib.hid hc5; clear hb5 hc5))
        exact bodyPost_ret (results_box_tmp Tryz.results55 _ _ rfl HB5.out Tryz.underlying88 rfl (HI.out _)) rfl ⟨rfl, ((Chg.of_ext (S := fun _ => False) HX2.out).trans HC5.out (fun i hi e => by omega)).ext (fun _ _ e => e)⟩)
  · subst hf
    have hvv : X = g.mx := by rw [HVX.out]; simp [valI]
    clear HVX
    subst hvv
    have HL := Lib.hid (fun W => limbs_small g.mx W HG.out.mx.1 HG.out.mx.2)
    clear a9 a12 a15
    (
        go_wp2_with fail
        refine (HL.out _).mono ?_
        rintro e w2 ⟨rfl, hx2⟩
        have HX2 := Lib.hid (HX.out.trans hx2)
        have HR2 := Lib.hid ((hx2.block (block_lt HR.out)).trans HR.out)
        clear hx2
        go_wp2_with (first | (refine wpList_store_box rfl _ _ _ rfl _ _ _ _ rfl rfl HR2.out rfl (HI.out _) (by simp [lmA, Value.oneCell']) ?_; rintro w5 hb5 hc5; have HB5 := Lib.hid hb5; have HC5 := Lib.hid hc5; clear hb5 hc5))
        exact bodyPost_ret (results_box_tmp Tryz.results55 _ _ rfl HB5.out Tryz.underlying88 rfl (HI.out _)) rfl ⟨rfl, ((Chg.of_ext (S := fun _ => False) HX2.out).trans HC5.out (fun i hi e => by omega)).ext (fun _ _ e => e)⟩)
  · subst hf
    have hvv : X = g.f.v := by rw [HVX.out]; simp [valI]
    clear HVX
    subst hvv
    have HL := Lib.hid (fun W => limbs_small g.f.v W HG.out.f.1 HG.out.f.2)
    clear a9 a10 a15
    (
        go_wp2_with fail
        refine (HL.out _).mono ?_
        rintro e w2 ⟨rfl, hx2⟩
        have HX2 := Lib.hid (HX.out.trans hx2)
        have HR2 := Lib.hid ((hx2.block (block_lt HR.out)).trans HR.out)
        clear hx2
        go_wp2_with (first | (refine wpList_store_box rfl _ _ _ rfl _ _ _ _ rfl rfl HR2.out rfl (HI.out _) (by simp [lmA, Value.oneCell']) ?_; rintro w5 hb5 hc5; have HB5 := Lib.hid hb5; have HC5 := Lib.hid hc5; clear hb5 hc5))
        exact bodyPost_ret (results_box_tmp Tryz.results55 _ _ rfl HB5.out Tryz.underlying88 rfl (HI.out _)) rfl ⟨rfl, ((Chg.of_ext (S := fun _ => False) HX2.out).trans HC5.out (fun i hi e => by omega)).ext (fun _ _ e => e)⟩)
  · subst hf
    have hvv : X = g.l.v := by rw [HVX.out]; simp [valI]
    clear HVX
    subst hvv
    have HL := Lib.hid (fun W => limbs_small g.l.v W HG.out.l.1 HG.out.l.2)
    clear a9 a10 a12
    (
        go_wp2_with fail
        refine (HL.out _).mono ?_
        rintro e w2 ⟨rfl, hx2⟩
        have HX2 := Lib.hid (HX.out.trans hx2)
        have HR2 := Lib.hid ((hx2.block (block_lt HR.out)).trans HR.out)
        clear hx2
        go_wp2_with (first | (refine wpList_store_box rfl _ _ _ rfl _ _ _ _ rfl rfl HR2.out rfl (HI.out _) (by simp [lmA, Value.oneCell']) ?_; rintro w5 hb5 hc5; have HB5 := Lib.hid hb5; have HC5 := Lib.hid hc5; clear hb5 hc5))
        exact bodyPost_ret (results_box_tmp Tryz.results55 _ _ rfl HB5.out Tryz.underlying88 rfl (HI.out _)) rfl ⟨rfl, ((Chg.of_ext (S := fun _ => False) HX2.out).trans HC5.out (fun i hi e => by omega)).ext (fun _ _ e => e)⟩)
  · subst hf
    obtain ⟨N, hN⟩ := Int.eq_ofNat_of_zero_le (show 0 ≤ g.n by omega)
    have HD := Lib.hid (fun W => rdiv_any g.s N W HG.out.s.1 HG.out.s.2 (by omega) (by omega))
    rw [← hN] at HD
    have hvv : g.s / g.n = X := by rw [HVX.out]; simp [valI]
    rw [hvv] at HD
    clear HVX hvv
    obtain ⟨M, hM⟩ : ∃ M, M = g.s % g.n := ⟨_, rfl⟩
    rw [← hM] at HD
    clear hM hN a9 a10 a12 a15
    go_wp2_with (first | (refine wpList_load_mid rfl _ _ rfl w.heap.size 1 rfl (lmA g.s).toList _ HRS.out Tryz.underlying88 rfl (HI.out _) ?_))
    refine (HD.out _).mono ?_
    rintro e w2 ⟨rfl, hx2⟩
    have HX2 := Lib.hid (HX.out.trans hx2)
    have HR2 := Lib.hid ((hx2.block (block_lt HR.out)).trans HR.out)
    clear hx2
    have HN2 := Lib.hid (heap_alloc_new w2 (.cells #[.int .i64 0, .int .i64 0, .int .i64 0, .int .i64 0, .int .i64 0, .int .i64 0, .int .i64 0, .int .i64 0] 88 (0, 0)))
    go_upto_region 20 with (first | (refine wpList_store_box rfl _ _ _ rfl _ _ _ _ rfl rfl HN2.out rfl (HI.out _) (by simp [lmA, Value.oneCell']) ?_; rintro w3 hb3 hc3; have HB3 := Lib.hid hb3; have HX3 : Hid (Ext w2 w3) := Lib.hid (((Chg.of_ext (S := fun _ => False) ((Ext.refl w2).alloc _)).trans hc3 (fun i hi e => by omega)).ext (fun _ _ e => e)); clear hb3 hc3))
    have HR3 := Lib.hid ((HX3.out.block (block_lt HR2.out)).trans HR2.out)
    go_wp2_with (first | (refine wpList_load_box rfl _ _ rfl _ _ _ _ _ rfl HB3.out Tryz.underlying88 rfl (HI.out _) ?_) | (refine wpList_store_box rfl _ _ _ rfl _ _ _ _ rfl rfl HR3.out rfl (HI.out _) (by simp [lmA, Value.oneCell']) ?_; rintro w5 hb5 hc5; have HB5 := Lib.hid hb5; have HC5 := Lib.hid hc5; clear hb5 hc5))
    exact bodyPost_ret (results_box_tmp Tryz.results55 _ _ rfl HB5.out Tryz.underlying88 rfl (HI.out _)) rfl ⟨rfl, ((Chg.of_ext (S := fun _ => False) (HX2.out.trans HX3.out)).trans HC5.out (fun i hi e => by omega)).ext (fun _ _ e => e)⟩

theorem val_ok {g : Ag} (hg : ValOk g) (fn : Int) (h0 : 0 ≤ fn) (h6 : fn ≤ 6) : -85070591730234615865843651857942052864 ≤ valI g fn ∧ valI g fn < 85070591730234615865843651857942052864 := by
  have h1 := hg.n1
  have h2 := hg.n2
  have h3 := hg.s
  have h4 := hg.mn
  have h5 := hg.mx
  have h6 := hg.f
  have h7 := hg.l
  have hd := div_bnd26 (X := g.s) (n := g.n) (B := 85070591730234615865843651857942052864) h1 h3.1 (by omega)
  have hd2 : g.s / g.n < 85070591730234615865843651857942052864 := Int.ediv_lt_of_lt_mul (by omega) (by
    have : 85070591730234615865843651857942052864 * 1 ≤ 85070591730234615865843651857942052864 * g.n := Int.mul_le_mul_of_nonneg_left h1 (by decide)
    omega)
  unfold valI
  repeat' split
  all_goals omega

set_option maxHeartbeats 4000000 in
set_option maxRecDepth 100000 in
theorem rvalue26_any (g : Ag) (fn : Int) (w : World) (h0 : 0 ≤ fn) (h6 : fn ≤ 6) (hg : ValOk g) (hn62 : g.n < 4611686018427387904) :
    Calls Tryz.prog 27 #[.agg (agR g), .int .i64 fn] w fun e w' => e = .returned (.agg #[.int .i64 (valI g fn / 18446744073709551616), .int .u64 (valI g fn % 18446744073709551616)]) ∧ Ext w w' := by
  have hvo := val_ok hg fn h0 h6
  have HV := Lib.hid (fun W => rvalue_any g fn W h0 h6 hg hn62)
  have HW := Lib.hid (fun W => whole_any (valI g fn) W (by omega) (by omega))
  have HI : Hid (∀ x, (Tryz.prog.info? 88).map (·.size) = some (lmA x).size) := Lib.hid (fun x => lm_info)
  have HAI : Hid ((Tryz.prog.info? 90).map (·.size) = some (agR g).size) := Lib.hid ar_info
  obtain ⟨A, hA⟩ : ∃ A, A = agR g := ⟨_, rfl⟩
  rw [← hA] at HV HAI ⊢
  obtain ⟨X, hX⟩ : ∃ X, X = valI g fn := ⟨_, rfl⟩
  rw [← hX] at HV HW ⊢
  obtain ⟨vh, hvh⟩ : ∃ x, x = X / 18446744073709551616 := ⟨_, rfl⟩
  obtain ⟨vl, hvl⟩ : ∃ x, x = X % 18446744073709551616 := ⟨_, rfl⟩
  rw [← hvh, ← hvl] at HW ⊢
  clear hA hX hvh hvl hvo hg
  go_enter Tryz.func27, Tryz.ntmps27
  have HB1 : Hid (((w.alloc (.cells A 90 (0, 0))).alloc (.cells #[.int .i64 0, .int .u64 0] 40 (0, 0))).heap[w.heap.size]? = some (.cells A 90 (0, 0))) := Lib.hid (by
    have h0 := heap_alloc_new w (.cells A 90 (0, 0))
    exact (((Ext.refl _).alloc _).block (block_lt h0)).trans h0)
  have HR : Hid (((w.alloc (.cells A 90 (0, 0))).alloc (.cells #[.int .i64 0, .int .u64 0] 40 (0, 0))).heap[w.heap.size + 1]? = some (.cells #[.int .i64 0, .int .u64 0] 40 (0, 0))) := Lib.hid (heap_alloc2 w _ _)
  have HX : Hid (Ext w ((w.alloc (.cells A 90 (0, 0))).alloc (.cells #[.int .i64 0, .int .u64 0] 40 (0, 0)))) := Lib.hid (((Ext.refl w).alloc _).alloc _)
  go_upto_region 1 with fail
  generalize (w.alloc (.cells A 90 (0, 0))).alloc (.cells #[.int .i64 0, .int .u64 0] 40 (0, 0)) = W at HB1 HR HX ⊢
  go_wp2_with (first | (refine wpList_load_box rfl _ _ rfl _ _ _ _ _ rfl HB1.out Tryz.underlying90 rfl HAI.out ?_))
  refine (HV.out _).mono ?_
  rintro e w2 ⟨rfl, hx2⟩
  have HX2 := Lib.hid (HX.out.trans hx2)
  have HR2 := Lib.hid ((hx2.block (block_lt HR.out)).trans HR.out)
  clear hx2
  have HN2 := Lib.hid (heap_alloc_new w2 (.cells #[.int .i64 0, .int .i64 0, .int .i64 0, .int .i64 0, .int .i64 0, .int .i64 0, .int .i64 0, .int .i64 0] 88 (0, 0)))
  go_upto_region 2 with (first | (refine wpList_store_box rfl _ _ _ rfl _ _ _ _ rfl rfl HN2.out rfl (HI.out _) (by simp [lmA, Value.oneCell']) ?_; rintro w3 hb3 hc3; have HB3 := Lib.hid hb3; have HX3 : Hid (Ext w2 w3) := Lib.hid (((Chg.of_ext (S := fun _ => False) ((Ext.refl w2).alloc _)).trans hc3 (fun i hi e => by omega)).ext (fun _ _ e => e)); clear hb3 hc3))
  have HR3 := Lib.hid ((HX3.out.block (block_lt HR2.out)).trans HR2.out)
  go_wp2_with (first | (refine wpList_load_box rfl _ _ rfl _ _ _ _ _ rfl HB3.out Tryz.underlying88 rfl (HI.out _) ?_))
  refine (HW.out _).mono ?_
  rintro e w4 ⟨rfl, hx4⟩
  have HX4 := Lib.hid (HX2.out.trans (HX3.out.trans hx4))
  have HR4 := Lib.hid ((hx4.block (block_lt HR3.out)).trans HR3.out)
  clear hx4
  go_wp2_with (first | (refine wpList_store_box rfl _ _ _ rfl _ _ _ _ rfl rfl HR4.out rfl big_info2 (by simp [Value.oneCell']) ?_; rintro w5 hb5 hc5; have HB5 := Lib.hid hb5; have HC5 := Lib.hid hc5; clear hb5 hc5))
  exact bodyPost_ret (results_box Tryz.results27 _ _ rfl HB5.out Tryz.underlying40 rfl big_info2) rfl ⟨rfl, ((Chg.of_ext (S := fun _ => False) HX4.out).trans HC5.out (fun i hi e => by omega)).ext (fun _ _ e => e)⟩
end Go.Proofs.YtokllgdbmnmieaaGreat

/-! The document's gaps: what its walk wants. -/

namespace Go.Proofs.YtokllgdbmnmieaaGreat
open Go.RowKit Go.Sort Go.Lib

/-- Where windows stand. -/
theorem win_idx {st F : Int} {ws : List (Int × Int)} {R : List Rw} (h : WinRows st F ws R) {r : Rw} (hr : r ∈ R) : ∃ m : Nat, ws[m]? = some (r.lo, r.hi) ∧ r.lo = F + (m : Int) * st := by
  obtain ⟨m, hm⟩ := List.getElem?_of_mem (h.mem r hr).2
  exact ⟨m, hm, h.at' m _ hm⟩
theorem idx_mono {st F : Int} (h : 1 ≤ st) {a b : Nat} : F + (a : Int) * st < F + (b : Int) * st ↔ a < b := by
  refine ⟨fun hx => ?_, fun hx => ?_⟩
  · rcases Nat.lt_or_ge a b with h1 | h1
    · exact h1
    · have : (b : Int) * st ≤ (a : Int) * st := Int.mul_le_mul_of_nonneg_right (by omega) (by omega)
      omega
  · have : ((a : Int) + 1) * st ≤ (b : Int) * st := Int.mul_le_mul_of_nonneg_right (by omega) (by omega)
    rw [Int.add_mul, Int.one_mul] at this
    omega

/-- A Bool is written into a struct. -/
theorem wpList_store_bool {P : Program} {ops : Array Oper} {rest : List Oper} {op : Oper} {a : Act} {w : World} {Q : Exit → Act → World → Prop} (hgd : op.guard = none) (ty : TypeId) (x y : Operand) (ho : op.op = .store ty x y)
    (b o : Nat) (old new : Array Value) (bv : Bool) (t : TypeId) (hx : a.eval x = .pointer (some ⟨b, o, none⟩)) (hy : a.eval y = .bool bv)
    (hb : w.heap[b]? = some (.cells old t (0, 0))) (hsz : o + 1 ≤ old.size) (hnew : old.toList.take o ++ [.bool bv] ++ old.toList.drop (o + 1) = new.toList)
    (hi : (P.info? ty).map (·.size) = some 1)
    (h : ∀ w', w'.heap[b]? = some (.cells new t (0, 0)) → Chg (· = b) w w' → wpList P ops Q rest (a.put op.dst undef) w') : wpList P ops Q (op :: rest) a w := by
  have hst := run_storeCells_at P b o t [.bool bv] 0 old w hb (by simpa using hsz) (fun v hv => by simp at hv; subst hv; rfl)
  simp only [Nat.add_zero, List.length_singleton] at hst
  rw [hnew] at hst
  have hsv : (storeVar ty ⟨b, o, none⟩ (.bool bv)).run P w = .ok () (w.setRow b new) := by
    cases hq : P.info? ty with
    | none => simp [hq] at hi
    | some i =>
      have hs : i.size = 1 := by simp [hq] at hi; omega
      simp [storeVar, sizeOf, typeInfo, hq, Value.cells, hs]
      simpa using hst
  refine wpList_plain hgd fun K hK => ?_
  unfold Oper.wp execOp
  simp only [ho, hx, hy, Instr.storeAt, Instr.sureAddr, Sem.run_bind, Sem.run_pure, Result.andThen_ok, hsv]
  exact hK _ _ (h _ (setRow_heap w b old new t (0, 0) hb) ⟨rfl, rfl, rfl, by simp [World.setRow], fun k _ hn => setRow_other w b k new hn⟩)
theorem bool_info23 : (Tryz.prog.info? 4).map (·.size) = some 1 := by kernel_rfl
theorem big_infoF : (Tryz.prog.info? 40).map (·.size) = some 2 := by kernel_rfl
theorem ext_storedF {W wa w' : World} {p : Nat} (hx : Ext W wa) (hc : Chg (· = p) wa w') (hs : W.heap.size ≤ p) : Ext W w' :=
  ((Chg.of_ext (S := fun k => W.heap.size ≤ k) hx).trans hc (fun i hi e => by omega)).ext (fun i hi e => by omega)

end Go.Proofs.YtokllgdbmnmieaaGreat

/-! The document's gaps: tidemillref23.Fill, way 0. -/

namespace Go.Proofs.YtokllgdbmnmieaaGreat
open Go.RowKit Go.Sort Go.Lib

set_option maxHeartbeats 8000000 in
set_option maxRecDepth 100000 in
theorem rfill_0 (how wd st off fr tO : Int) (R : List Rw) (w : World) (a : Option Addr) (n c : Nat) (hR : Src w 5 (.slice a n c) n (rws R)) (hn : n ≤ 70000) (hv : windowB wd st off = true) (h1 : timeB fr = true) (h2 : timeB tO = true) (h3 : fr ≤ tO) (hN : allN wd st off fr tO ≤ 65536)
    (hh : how = 0) (hW : WinRows st (firstF wd st off fr) (allW wd st off fr tO) R) (hok : RowsOk R) :
    Calls Tryz.prog 28 #[.slice a n c, .int .i64 wd, .int .i64 st, .int .i64 off, .int .i64 fr, .int .i64 tO, .int .i64 how] w fun e w' => ∃ a' m c', e = .returned (.tuple #[.slice a' m c', .int .i64 0]) ∧ Src w' 5 (.slice a' m c') m (rws (fillL how (allW wd st off fr tO) R)) ∧ Ext w w' := by
  have HR := Lib.hid hR
  have HW := Lib.hid hW
  have HOK := Lib.hid hok
  have LR := Lib.hid (enc_src_len rwc_len (by decide) hR)
  have HWA := Lib.hid (fun W => rall09_any wd st off fr tO W hv h1 h2 h3 hN)
  have HNN := Lib.hid hN
  obtain ⟨ws, hws⟩ : ∃ ws, ws = allW wd st off fr tO := ⟨_, rfl⟩
  obtain ⟨N, hNe⟩ : ∃ N, N = allN wd st off fr tO := ⟨_, rfl⟩
  obtain ⟨F, hF⟩ : ∃ F, F = firstF wd st off fr := ⟨_, rfl⟩
  rw [← hws, ← hF] at HW
  rw [← hws, ← hNe] at HWA
  rw [← hNe] at HNN
  rw [← hws]
  clear hR hW hok hv h1 h2 h3 hN hws hNe hF
  go_enter Tryz.func28, Tryz.ntmps28
  go_wp2_with fail
  refine (HWA.out _).mono ?_
  rintro e w1 ⟨v, rfl, hm⟩
  obtain ⟨va, vc, rfl⟩ := hm.row.shape
  have HX1 := Lib.hid hm.ext
  have HS := Lib.hid (hm.row.src (sps_one _))
  have LW := Lib.hid (enc_src_len spc_len (by decide) (hm.row.src (sps_one _)))
  have hNN : N ≤ 65536 := HNN.out
  clear hm HWA
  have hh1 : ¬ how < 0 := by omega
  have hh2 : ¬ 3 < how := by omega
  have hb2 : (how == 2) = false := beq_eq_false_iff_ne.2 (by omega)
  have hb3 : (how == 3) = false := beq_eq_false_iff_ne.2 (by omega)
  have HH := Lib.hid hh
  clear hh
  go_upto_block 0 with fail
  go_cut [14] (fun s14 wx => s14 = .slice none 0 0 ∧ Hid (Ext w1 wx))
  case first => as_aux_lemma =>
    go_wp2_with fail
    go_loopw [14, 18, 19] (fun s14 s18 s19 wr => ∃ k i : Nat, s14 = .slice none 0 0 ∧ s18 = .int .i64 k ∧ s19 = .int .i64 i ∧ k ≤ N ∧ i ≤ n ∧ Hid (∀ r m, R[i]? = some r → ws[m]? = some (r.lo, r.hi) → k ≤ m) ∧ Hid (Ext w1 wr)) (fun _ _ t _ => n - (RowKit.intOf t).toNat)
    case atStart => exact ⟨0, 0, rfl, rfl, rfl, by omega, by omega, Lib.hid (fun _ _ _ _ => Nat.zero_le _), Lib.hid (Ext.refl _)⟩
    case round =>
      obtain ⟨k, i, rfl, rfl, rfl, hk, hi, HK, HXR⟩ := hrel
      by_cases hlt : i < n
      · obtain ⟨rb, ro, r, rfl, hr, r0, r1, r2, r3, r4⟩ := rws_src (HR.out.ext (HX1.out.trans HXR.out)) hlt
        obtain ⟨m, hm, hme⟩ := win_idx HW.out (List.mem_of_getElem? hr)
        have hnul := (HW.out.mem r (List.mem_of_getElem? hr)).1
        rw [hnul] at r2
        have hkm : k ≤ m := HK.out r m hr hm
        have hmN : m < N := by have := LW.out; have := (List.getElem?_eq_some_iff.1 hm).1; omega
        have HRI := Lib.hid hr
        have HMI := Lib.hid hm
        have HME := Lib.hid hme
        clear hr hm hme r3 r4 hnul
        have HR012 := Lib.hid (And.intro r0 (And.intro r1 r2))
        clear r0 r1 r2
        obtain ⟨U, hU⟩ : ∃ U, U = wr := ⟨_, rfl⟩
        subst hU
        go_wp2_with fail
        go_loopw [18] (fun s18 wq => ∃ k' : Nat, s18 = .int .i64 k' ∧ k' ≤ m ∧ Hid (Ext U wq)) (fun t _ => m - (RowKit.intOf t).toNat)
        case atStart => exact ⟨k, rfl, hkm, Lib.hid (Ext.refl _)⟩
        case round =>
          obtain ⟨k', rfl, hk', HXQ⟩ := hrel
          have c0 := (HXQ.out.cell (World.block_lt_of_cell? _ _ HR012.out.1)).trans HR012.out.1
          by_cases hkm' : k' < m
          · obtain ⟨qb, qo, q, rfl, hq, q0, q1⟩ := sps_src (HS.out.ext (HXR.out.trans HXQ.out)) (show k' < N by omega)
            have hql : q.1 < r.lo := by
              rw [HME.out, HW.out.at' _ _ hq]
              exact (idx_mono HW.out.st1).2 hkm'
            have hd0 : decide ((k' : Int) < (N : Int)) = true := by simp; omega
            have hd1 : decide (q.1 < r.lo) = true := decide_eq_true hql
            have hkN : k' < N := by omega
            clear hq q1 hql
            go_upto_region 10 with fail
            go_big_quiet (fail)
            go_wp2_with fail
            go_roundw
            case rel => exact ⟨k' + 1, by go_num, by omega, Lib.hid (HXQ.out.trans (Ext.drewN _ _))⟩
            case measure => simp [RowKit.intOf]; omega
          · obtain rfl : k' = m := by omega
            obtain ⟨qb, qo, q, rfl, hq, q0, q1⟩ := sps_src (HS.out.ext (HXR.out.trans HXQ.out)) hmN
            obtain rfl : q = (r.lo, r.hi) := by have := HMI.out; rw [hq] at this; exact Option.some.inj this
            have hd0 : decide ((k' : Int) < (N : Int)) = true := by simp; omega
            have hd1 : decide (r.lo < r.lo) = false := by simp
            have c1 := (HXQ.out.cell (World.block_lt_of_cell? _ _ HR012.out.2.1)).trans HR012.out.2.1
            have c2 := (HXQ.out.cell (World.block_lt_of_cell? _ _ HR012.out.2.2)).trans HR012.out.2.2
            simp only at q0 q1
            have HC := Lib.hid (And.intro c0 (And.intro c1 (And.intro c2 (And.intro q0 q1))))
            clear hq hkm' q1 c1 c2
            go_upto_region 10 with fail
            go_big_quiet (fail)
            go_upto_region 12 with fail
            generalize hWz : wr.drewN nq = Wz
            have HXz : Hid (Ext wr Wz) := Lib.hid (by subst hWz; exact Ext.drewN _ _)
            clear hWz nq c0 q0 hd0 hd1
            have c0 := (HXz.out.cell (World.block_lt_of_cell? _ _ HC.out.1)).trans HC.out.1
            have c1 := (HXz.out.cell (World.block_lt_of_cell? _ _ HC.out.2.1)).trans HC.out.2.1
            have c2 := (HXz.out.cell (World.block_lt_of_cell? _ _ HC.out.2.2.1)).trans HC.out.2.2.1
            have q0 := (HXz.out.cell (World.block_lt_of_cell? _ _ HC.out.2.2.2.1)).trans HC.out.2.2.2.1
            have q1 := (HXz.out.cell (World.block_lt_of_cell? _ _ HC.out.2.2.2.2)).trans HC.out.2.2.2.2
            have hmn : ((k' : Int) == (N : Int)) = false := beq_eq_false_iff_ne.2 (by omega)
            have hne : ∀ x : Int, (x != x) = false := by simp
            have HNX : Hid (∀ r' m', R[i + 1]? = some r' → ws[m']? = some (r'.lo, r'.hi) → k' ≤ m') := Lib.hid (fun r' m' h1 h2 => by
              have hp := List.pairwise_iff_getElem.1 HW.out.up i (i + 1) (List.getElem?_eq_some_iff.1 HRI.out).1 (List.getElem?_eq_some_iff.1 h1).1 (by omega)
              rw [(List.getElem?_eq_some_iff.1 HRI.out).2, (List.getElem?_eq_some_iff.1 h1).2, HME.out, show r'.lo = F + (m' : Int) * st from HW.out.at' _ _ h2] at hp
              exact Nat.le_of_lt ((idx_mono HW.out.st1).1 hp))
            have HXA := Lib.hid (HXR.out.trans (HXQ.out.trans HXz.out))
            rcases Nat.eq_zero_or_pos i with hi0 | hi0
            · subst hi0
              have c0' : Wz.cell? ⟨rb, ro, none⟩ = some (.int .i64 r.lo) := by simpa using c0
              have c1' : Wz.cell? ⟨rb, ro + 1, none⟩ = some (.int .i64 r.hi) := by simpa using c1
              have hd0 : decide ((0 : Int) < ((0 : Nat) : Int)) = false := by decide
              go_big_quiet (fail)
              go_wp2_with fail
              go_roundw
              case rel => exact ⟨k', 1, rfl, rfl, by go_num, by omega, by omega, HNX, Lib.hid (HXA.out.trans (Ext.drewN _ _))⟩
              case measure => simp [RowKit.intOf]; omega
            · obtain ⟨pb, po, pq, hpa, hp, p0, p1, p2, p3, p4⟩ := rws_src (HR.out.ext (HX1.out.trans HXA.out)) (show i - 1 < n by omega)
              simp only [Option.some.injEq, Addr.mk.injEq] at hpa
              obtain ⟨rfl, rfl, _⟩ := hpa
              obtain ⟨j1, hj1⟩ : ∃ j1, j1 = i - 1 := ⟨_, rfl⟩
              rw [← hj1] at p0 hp
              have hw1 : IntKind.i64.wrap ((i : Int) - 1) = (j1 : Int) := by rw [IntWalk.i64_in _ (by omega)]; omega
              have hd0 : decide ((0 : Int) < (i : Int)) = true := by simp; omega
              have hlow : ¬ r.lo ≤ pq.lo := by
                have := List.pairwise_iff_getElem.1 HW.out.up j1 i (by have := (List.getElem?_eq_some_iff.1 hp).1; omega) (List.getElem?_eq_some_iff.1 HRI.out).1 (by omega)
                rw [(List.getElem?_eq_some_iff.1 hp).2, (List.getElem?_eq_some_iff.1 HRI.out).2] at this
                omega
              have hd1 : decide (r.lo ≤ pq.lo) = false := decide_eq_false hlow
              have hj1n : j1 < n := by omega
              clear hp hj1 p1 p2 p3 p4 hlow
              go_big_quiet (fail)
              go_wp2_with fail
              go_roundw
              case rel => exact ⟨k', i + 1, rfl, rfl, by go_num, by omega, by omega, HNX, Lib.hid (HXA.out.trans (Ext.drewN _ _))⟩
              case measure => simp [RowKit.intOf]; omega
      · go_wp2_with fail
        go_meet
        exact ⟨rfl, HXR⟩
  case rest =>
    obtain ⟨rfl, HXC⟩ := hcut
    have HX2 := Lib.hid (HX1.out.trans HXC.out)
    have HE : Hid (fillL how ws R = R) := Lib.hid (by unfold fillL; rw [if_pos HH.out])
    have hb0 : (how == 0) = true := beq_iff_eq.2 HH.out
    clear hh1 hh2 hb2 hb3
    go_wp2_with fail
    go_ret2
    refine ⟨_, _, _, rfl, ?_, HX2.out⟩
    rw [HE.out]
    exact HR.out.ext HX2.out
end Go.Proofs.YtokllgdbmnmieaaGreat
