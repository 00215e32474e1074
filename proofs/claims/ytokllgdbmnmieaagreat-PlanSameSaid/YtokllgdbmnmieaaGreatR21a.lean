/- gaps: rows in memory; spans as keys; fine, where the rows are windows', rising. -/
import Derived.Test.YtokllgdbmnmieaaGreatGpp
import Derived.Test.YtokllgdbmnmieaaGreatFtp
import Derived.Laws.StructEq
import Derived.Deep.DeepCutAuto
import Derived.Test.YtokllgdbmnmieaaGreatR09w
namespace Go.Proofs.YtokllgdbmnmieaaGreat
open Go.RowKit Go.Sort Go.Lib

theorem rws_len (l : List Rw) : (rws l).length = l.length * 5 := enc_len rwc_len l
theorem elem_rw : ElemOk Tryz.prog 31 42 5 40 :=
  ⟨Tryz.underlying31, by
    obtain ⟨i0, hi, hz0, hz1, hz2⟩ := info_parts (show (Tryz.prog.info? 42).map (fun i => (i.zero, i.size, i.bytes)) = some (some (.agg #[.int .i64 0, .int .i64 0, .bool false, .int .i64 0, .int .u64 0]), 5, 40) from by kernel_rfl)
    exact ⟨i0, _, hi, hz0, hz1, hz2, rfl⟩, by decide⟩
theorem rws_src {w : World} {a : Option Addr} {n c : Nat} {l : List Rw} (h : Src w 5 (.slice a n c) n (rws l)) {k : Nat} (hk : k < n) :
    ∃ b off p, a = some ⟨b, off, none⟩ ∧ l[k]? = some p ∧ w.cell? ⟨b, off + k * 5, none⟩ = some (.int .i64 p.lo) ∧ w.cell? ⟨b, off + k * 5 + 1, none⟩ = some (.int .i64 p.hi) ∧ w.cell? ⟨b, off + k * 5 + 2, none⟩ = some (.bool p.nul) ∧ w.cell? ⟨b, off + k * 5 + 3, none⟩ = some (.int .i64 (p.v / 18446744073709551616)) ∧ w.cell? ⟨b, off + k * 5 + 4, none⟩ = some (.int .u64 (p.v % 18446744073709551616)) := by
  obtain ⟨b, off, p, h1, h2, h3⟩ := enc_src rwc_len (by decide) h hk
  exact ⟨b, off, p, h1, h2, h3 0 _ rfl, h3 1 _ rfl, h3 2 _ rfl, h3 3 _ rfl, h3 4 _ rfl⟩
theorem src_rw {W : World} {b : Nat} {p : Rw} {t : TypeId} {fr : Nat × Nat} (h : W.heap[b]? = some (.cells (rwc p).toArray t fr)) : Src W 5 (.slice (some ⟨b, 0, none⟩) 1 1) 1 (rws [p]) := by
  refine .inr ⟨_, _, rfl, rfl, fun j u hj => ?_, rws_one _⟩
  rw [Go.WideShapes.add_plain, Nat.zero_add, cell_of_block h]
  simpa [rws, rwc] using hj

def encSp (q : Int × Int) : Value := .agg #[.int .i64 q.1, .int .i64 q.2]
theorem sp_check (emp : Bool) (k : Int × Int) (w : World) : (Instr.checkKey emp 10000 124 (encSp k)).run Tryz.prog w = .ok () w := by kernel_rfl
theorem part_a (s t : Int) (w : World) : (part 3 #[.int .i64 s, .int .i64 t] 0).run Tryz.prog w = .ok (.int .i64 s) w := by kernel_rfl
theorem part_b (s t : Int) (w : World) : (part 3 #[.int .i64 s, .int .i64 t] 1).run Tryz.prog w = .ok (.int .i64 t) w := by kernel_rfl
theorem sp_equal (k a : Int × Int) (w : World) : (Op.equal 124 (encSp k) (encSp a)).run Tryz.prog w = .ok (decide (k = a)) w := by
  obtain ⟨s, t⟩ := k
  obtain ⟨s', t'⟩ := a
  have h1 : (Op.equal 124 (encSp (s, t)) (encSp (s', t'))).run Tryz.prog w = .ok (if (s == s') = true then (t == t') else false) w := by
    refine (run_equalIn_struct (P := Tryz.prog) w 9999 124 #[.int .i64 s, .int .i64 t] #[.int .i64 s', .int .i64 t'] (by kernel_rfl) (by kernel_rfl)).trans ?_
    cases hb : (s == s') <;> cases hc : (t == t')
    all_goals simp [Program.fieldsOf, Tryz.underlying124, Op.eqFields, part_a, part_b, run_equalIn_int _ _ _ _ _ _ _ Tryz.underlying3, hb, hc]
  rw [h1]
  by_cases h2 : s = s'
  · subst h2
    by_cases h3 : t = t'
    · subst h3; simp
    · simp [h3]
  · simp [h2]
theorem sp_asking (k : Int × Int) (w : World) : ∀ (m : List ((Int × Int) × Value)) (es : List MapEntry) (i : Nat), es.map (fun e => (e.key, e.val)) = m.map (fun p => (encSp p.1, p.2)) →
    (Instr.findAsking 124 (encSp k) es i).run Tryz.prog w = .ok (aidx m k i) w := by
  intro m
  induction m with
  | nil => intro es i h; simp at h; subst h; rfl
  | cons p m ih =>
    obtain ⟨a, v⟩ := p
    intro es i h
    cases es with
    | nil => simp at h
    | cons e es =>
      simp only [List.map_cons, List.cons.injEq, Prod.mk.injEq] at h
      obtain ⟨⟨h1, h2⟩, h3⟩ := h
      simp only [Instr.findAsking, Sem.run_bind, h1, sp_equal, Result.andThen_ok, aidx]
      by_cases hk : k = a
      · subst hk; simp [h2]
      · simp [hk, ih es (i + 1) h3]
theorem sp_kind : KeyKind Tryz.prog 124 encSp :=
  ⟨sp_check,
   fun k m es w he => by
    simp only [Instr.findKey]
    cases m with
    | nil =>
      simp at he
      subst he
      simp only [Sem.run_bind, run_underlying Tryz.underlying124, Result.andThen_ok, Instr.findNow]
      rfl
    | cons p m =>
      cases es with
      | nil => simp at he
      | cons e es =>
        have h1 : e.key = encSp p.1 := by simp at he; exact he.1.1
        have hn : ∀ fs, Instr.findNow (.struct fs) (encSp k) (e :: es) 0 = none := fun fs => by simp [Instr.findNow, Instr.sameNow, encSp]
        simp only [Sem.run_bind, run_underlying Tryz.underlying124, Result.andThen_ok, hn]
        exact sp_asking k w _ _ 0 he,
   fun k => by simp [Instr.sameBits, encSp]⟩

/-- A map that holds all spans of a list. -/
structure SpMap (w0 : World) (mb : Nat) (l : List (Int × Int)) (w : World) : Prop where
  map : ∃ m, MapIs encSp w mb m ∧ ∀ p ∈ l, aget m p = some (.bool true)
  ext : Ext w0 w
  le : w0.heap.size ≤ mb
theorem SpMap.grow {w0 w w2 : World} {mb : Nat} {l : List (Int × Int)} (h : SpMap w0 mb l w) (hx : Ext w w2) : SpMap w0 mb l w2 := by
  obtain ⟨m, h1, h2⟩ := h.map
  exact ⟨⟨m, h1.ext hx, h2⟩, h.ext.trans hx, h.le⟩

set_option maxHeartbeats 4000000 in
set_option maxRecDepth 100000 in
theorem gfine_any (w : World) (a1 : Option Addr) (n1 c1 : Nat) (R : List Rw) (hR : Src w 5 (.slice a1 n1 c1) n1 (rws R)) (a2 : Option Addr) (n2 c2 : Nat) (ws : List (Int × Int)) (hws : Src w 2 (.slice a2 n2 c2) n2 (sps ws))
    (hn1 : n1 < 4398046511104) (hn2 : n2 < 4398046511104) (hin : ∀ r ∈ R, r.nul = false ∧ (r.lo, r.hi) ∈ ws) (hup : R.Pairwise (fun x y => x.lo < y.lo)) :
    Calls Tryz.prog 50 #[.slice a1 n1 c1, .slice a2 n2 c2] w fun e w' => e = .returned (.bool true) ∧ Ext w w' := by
  have hmm := @run_makeMap Tryz.prog
  have HR := Lib.hid hR
  have HW := Lib.hid hws
  have LR := Lib.hid (enc_src_len rwc_len (by decide) hR)
  have LW := Lib.hid (enc_src_len spc_len (by decide) hws)
  have HIN := Lib.hid hin
  have HUP := Lib.hid hup
  clear hR hws hin hup
  go_enter Tryz.func50, Tryz.ntmps50
  go_wp2_with fail
  clear hmm
  go_loopw [13] (fun i wr => ∃ j : Nat, j ≤ n2 ∧ i = .int .i64 j ∧ Hid (SpMap w w.heap.size (ws.take j) wr)) (fun i _ => n2 - (RowKit.intOf i).toNat)
  case atStart => exact ⟨0, by omega, rfl, Lib.hid ⟨⟨[], MapIs.new w, by simp⟩, (Ext.refl w).alloc _, Nat.le_refl _⟩⟩
  case round =>
    obtain ⟨j, hj, rfl, I⟩ := hrel
    by_cases hlt : j < n2
    · obtain ⟨qb, qo, q, rfl, hq, q0, q1⟩ := sps_src (HW.out.ext I.out.ext) hlt
      have HQ := Lib.hid hq
      clear hq
      go_upto_region 5 with fail
      generalize hW : World.alloc _ _ = W
      have HX : Hid (Ext wr W) := Lib.hid (by subst hW; exact (Ext.refl _).alloc _)
      have e0 : W.cell? ⟨wr.heap.size, 0, none⟩ = some (.int .i64 q.1) := by subst hW; simp [go_sem]
      have e1 : W.cell? ⟨wr.heap.size, 1, none⟩ = some (.int .i64 q.2) := by subst hW; simp [go_sem]
      clear hW q0 q1
      obtain ⟨m, hm1, hm2⟩ := (I.out.grow HX.out).map
      obtain ⟨w4, hup, hmap, hchg⟩ := hm1.update (P := Tryz.prog) sp_kind Tryz.underlying173 q (.bool true)
      simp only [encSp] at hup
      have HM := Lib.hid hmap
      have HC := Lib.hid hchg
      have HM2 := Lib.hid hm2
      clear hmap hchg hm1 hm2
      go_wp2_with fail
      clear hup
      go_roundw
      case rel =>
        refine ⟨j + 1, by omega, by go_num, Lib.hid ⟨⟨_, HM.out, fun p hp => ?_⟩, Chg.ext ((Chg.of_ext (I.out.ext.trans HX.out)).trans HC.out (fun _ _ e => e)) (fun i hi e => by omega), Nat.le_refl _⟩⟩
        by_cases hpq : p = q
        · rw [hpq]; exact aget_put_same _ _ _
        · rw [aget_put_other _ _ hpq]
          refine HM2.out p ?_
          rw [List.take_add_one, HQ.out] at hp
          rcases List.mem_append.1 hp with hp | hp
          · exact hp
          · simp at hp; exact absurd hp hpq
      case measure => simp [RowKit.intOf]; omega
    · have HS : Hid (SpMap w w.heap.size ws wr) := Lib.hid (by have h := I.out; rw [List.take_of_length_le (by have := LW.out; omega)] at h; exact h)
      clear I
      go_wp2_with fail
      go_loopw [22] (fun i wr => ∃ j : Nat, j ≤ n1 ∧ i = .int .i64 j ∧ Hid (SpMap w w.heap.size ws wr)) (fun i _ => n1 - (RowKit.intOf i).toNat)
      case atStart => exact ⟨0, by omega, rfl, HS⟩
      case round =>
        clear HS
        obtain ⟨j, hj, rfl, I⟩ := hrel
        by_cases hlt : j < n1
        · obtain ⟨qb, qo, q, rfl, hq, q0, q1, q2, q3, q4⟩ := rws_src (HR.out.ext I.out.ext) hlt
          have HQ := Lib.hid hq
          clear hq
          go_upto_region 10 with fail
          generalize hW : World.alloc _ _ = W
          have HX : Hid (Ext wr W) := Lib.hid (by subst hW; exact (Ext.refl _).alloc _)
          have HB : Hid (W.heap[wr.heap.size]? = some (.cells (rwc q).toArray 42 (0, 0))) := Lib.hid (by subst hW; exact heap_alloc_new wr _)
          clear hW q0 q1 q2 q3 q4
          have hnul := (HIN.out q (List.mem_of_getElem? HQ.out)).1
          have HI := Lib.hid (I.out.grow HX.out)
          obtain ⟨m, hm1, hm2⟩ := HI.out.map
          have hlk := fun k => (hm1.ext (Ext.drewN W k)).lookup (P := Tryz.prog) sp_kind Tryz.underlying173 (.bool false) (by kernel_rfl) (q.lo, q.hi) false
          simp only [hm2 _ (HIN.out q (List.mem_of_getElem? HQ.out)).2, encSp, Option.getD_some, Bool.false_eq_true, if_false] at hlk
          clear hm1 hm2
          have b0 : W.cell? ⟨wr.heap.size, 0, none⟩ = some (.int .i64 q.lo) := by have := cell_of_block HB.out 0; simpa [rwc] using this
          have b1 : W.cell? ⟨wr.heap.size, 1, none⟩ = some (.int .i64 q.hi) := by have := cell_of_block HB.out 1; simpa [rwc] using this
          have b2 : W.cell? ⟨wr.heap.size, 2, none⟩ = some (.bool false) := by have := cell_of_block HB.out 2; simpa [rwc, hnul] using this
          rcases Nat.eq_zero_or_pos j with hj0 | hj0
          · subst hj0
            have hd0 : decide ((0 : Int) < ((0 : Nat) : Int)) = false := by decide
            go_big_quiet (fail)
            go_wp2_with fail
            go_roundw
            case rel => exact ⟨1, by omega, by go_num, Lib.hid (HI.out.grow (Ext.drewN _ _))⟩
            case measure => simp [RowKit.intOf]; omega
          · obtain ⟨pb, po, pq, hpa, hp, p0, p1, p2, p3, p4⟩ := rws_src (HR.out.ext HI.out.ext) (show j - 1 < n1 by omega)
            simp only [Option.some.injEq, Addr.mk.injEq] at hpa
            obtain ⟨rfl, rfl, _⟩ := hpa
            obtain ⟨j1, hj1⟩ : ∃ j1, j1 = j - 1 := ⟨_, rfl⟩
            rw [← hj1] at p0 hp
            have hw1 : IntKind.i64.wrap ((j : Int) - 1) = (j1 : Int) := by rw [IntWalk.i64_in _ (by omega)]; omega
            have hd0 : decide ((0 : Int) < (j : Int)) = true := by simp; omega
            have hlow : ¬ q.lo ≤ pq.lo := by
              have := List.pairwise_iff_getElem.1 HUP.out j1 j (by have := (List.getElem?_eq_some_iff.1 hp).1; omega) (List.getElem?_eq_some_iff.1 HQ.out).1 (by omega)
              rw [(List.getElem?_eq_some_iff.1 hp).2, (List.getElem?_eq_some_iff.1 HQ.out).2] at this
              omega
            have hd1 : decide (q.lo ≤ pq.lo) = false := decide_eq_false hlow
            have hj1n : j1 < n1 := by omega
            clear hp hj1 p1 p2 p3 p4
            go_big_quiet (fail)
            go_wp2_with fail
            go_roundw
            case rel => exact ⟨j + 1, by omega, by go_num, Lib.hid (HI.out.grow (Ext.drewN _ _))⟩
            case measure => simp [RowKit.intOf]; omega
        · go_wp2_with fail
          go_ret
          exact ⟨rfl, I.out.ext⟩
end Go.Proofs.YtokllgdbmnmieaaGreat

/-! The document's aggr: Merge. -/

namespace Go.Proofs.YtokllgdbmnmieaaGreat
open Go.RowKit Go.Lib Go.Sort

/-- So far: the first one's block. -/
structure RmR (W : World) (ba : Nat) (cs : Array Value) (wr : World) : Prop where
  blk : wr.heap[ba]? = some (.cells cs 90 (0, 0))
  chg : Chg (· = ba) W wr

set_option maxHeartbeats 4000000 in
set_option maxRecDepth 100000 in
theorem rMerge_two (a b : Ag) (w : World) (ha : 1 ≤ a.n) (ha2 : a.n ≤ 2305843009213693952) (hb : 1 ≤ b.n) (hb2 : b.n ≤ 2305843009213693952) (hsa : sumOk a.s) (hsb : sumOk b.s) (hs : sumOk (a.s + b.s)) :
    Calls Tryz.prog 92 #[.agg (agR a), .agg (agR b)] w fun e w' => e = .returned (.tuple #[.agg (agR (agM a b)), .int .i64 0]) ∧ Ext w w' := by
  have HADD := Lib.hid (fun W => radd_any a.s b.s W hsa.1 hsa.2 hsb.1 hsb.2 hs.1 hs.2)
  have HF := Lib.hid (fun W => ahead_any b.f a.f W)
  have HL := Lib.hid (fun W => ahead_any a.l b.l W)
  have HLL : Hid (decide (ordI a.l b.l < 0) = decide (0 < ordI b.l a.l)) := Lib.hid (by
    rw [decide_eq_decide, ordI_lt]
    have h2 := ordI_lt b.l a.l
    have h3 : ordI b.l a.l = 0 ↔ (b.l.t = a.l.t ∧ b.l.s = a.l.s ∧ b.l.v = a.l.v) := ordI_zero _ _
    omega)
  have HM : Hid (agM a b = ⟨a.n + b.n, a.s + b.s, min a.mn b.mn, max a.mx b.mx, if ordI b.f a.f < 0 then b.f else a.f, if 0 < ordI b.l a.l then b.l else a.l⟩) := Lib.hid (by unfold agM; rw [if_neg (by omega)])
  rw [HM.out]
  rw [HLL.out] at HL
  clear HM HLL hsa hsb hs
  obtain ⟨an, asu, amn, amx, ⟨aft, afv, afs⟩, ⟨alt, alv, als⟩⟩ := a
  obtain ⟨bn, bsu, bmn, bmx, ⟨bft, bfv, bfs⟩, ⟨blt, blv, bls⟩⟩ := b
  unfold agR
  unfold Pt.val at HF HL
  unfold lmA at HADD
  simp only at ha ha2 hb hb2 HADD HF HL ⊢
  obtain ⟨a0, ha0⟩ : ∃ x, x = asu % 65536 := ⟨_, rfl⟩
  obtain ⟨a1, ha1⟩ : ∃ x, x = asu / 65536 % 65536 := ⟨_, rfl⟩
  obtain ⟨a2, ha2⟩ : ∃ x, x = asu / 4294967296 % 65536 := ⟨_, rfl⟩
  obtain ⟨a3, ha3⟩ : ∃ x, x = asu / 281474976710656 % 65536 := ⟨_, rfl⟩
  obtain ⟨a4, ha4⟩ : ∃ x, x = asu / 18446744073709551616 % 65536 := ⟨_, rfl⟩
  obtain ⟨a5, ha5⟩ : ∃ x, x = asu / 1208925819614629174706176 % 65536 := ⟨_, rfl⟩
  obtain ⟨a6, ha6⟩ : ∃ x, x = asu / 79228162514264337593543950336 % 65536 := ⟨_, rfl⟩
  obtain ⟨a7, ha7⟩ : ∃ x, x = asu / 5192296858534827628530496329220096 % 65536 := ⟨_, rfl⟩
  obtain ⟨b0, hb0⟩ : ∃ x, x = bsu % 65536 := ⟨_, rfl⟩
  obtain ⟨b1, hb1⟩ : ∃ x, x = bsu / 65536 % 65536 := ⟨_, rfl⟩
  obtain ⟨b2, hb2⟩ : ∃ x, x = bsu / 4294967296 % 65536 := ⟨_, rfl⟩
  obtain ⟨b3, hb3⟩ : ∃ x, x = bsu / 281474976710656 % 65536 := ⟨_, rfl⟩
  obtain ⟨b4, hb4⟩ : ∃ x, x = bsu / 18446744073709551616 % 65536 := ⟨_, rfl⟩
  obtain ⟨b5, hb5⟩ : ∃ x, x = bsu / 1208925819614629174706176 % 65536 := ⟨_, rfl⟩
  obtain ⟨b6, hb6⟩ : ∃ x, x = bsu / 79228162514264337593543950336 % 65536 := ⟨_, rfl⟩
  obtain ⟨b7, hb7⟩ : ∃ x, x = bsu / 5192296858534827628530496329220096 % 65536 := ⟨_, rfl⟩
  obtain ⟨s0, hs0⟩ : ∃ x, x = (asu + bsu) % 65536 := ⟨_, rfl⟩
  obtain ⟨s1, hs1⟩ : ∃ x, x = (asu + bsu) / 65536 % 65536 := ⟨_, rfl⟩
  obtain ⟨s2, hs2⟩ : ∃ x, x = (asu + bsu) / 4294967296 % 65536 := ⟨_, rfl⟩
  obtain ⟨s3, hs3⟩ : ∃ x, x = (asu + bsu) / 281474976710656 % 65536 := ⟨_, rfl⟩
  obtain ⟨s4, hs4⟩ : ∃ x, x = (asu + bsu) / 18446744073709551616 % 65536 := ⟨_, rfl⟩
  obtain ⟨s5, hs5⟩ : ∃ x, x = (asu + bsu) / 1208925819614629174706176 % 65536 := ⟨_, rfl⟩
  obtain ⟨s6, hs6⟩ : ∃ x, x = (asu + bsu) / 79228162514264337593543950336 % 65536 := ⟨_, rfl⟩
  obtain ⟨s7, hs7⟩ : ∃ x, x = (asu + bsu) / 5192296858534827628530496329220096 % 65536 := ⟨_, rfl⟩
  rw [← ha0, ← ha1, ← ha2, ← ha3, ← ha4, ← ha5, ← ha6, ← ha7, ← hb0, ← hb1, ← hb2, ← hb3, ← hb4, ← hb5, ← hb6, ← hb7, ← hs0, ← hs1, ← hs2, ← hs3, ← hs4, ← hs5, ← hs6, ← hs7] at HADD
  rw [← ha0, ← ha1, ← ha2, ← ha3, ← ha4, ← ha5, ← ha6, ← ha7, ← hb0, ← hb1, ← hb2, ← hb3, ← hb4, ← hb5, ← hb6, ← hb7, ← hs0, ← hs1, ← hs2, ← hs3, ← hs4, ← hs5, ← hs6, ← hs7]
  clear ha0 ha1 ha2 ha3 ha4 ha5 ha6 ha7 hb0 hb1 hb2 hb3 hb4 hb5 hb6 hb7 hs0 hs1 hs2 hs3 hs4 hs5 hs6 hs7
  obtain ⟨of, hof⟩ : ∃ x, x = ordI ⟨bft, bfv, bfs⟩ ⟨aft, afv, afs⟩ := ⟨_, rfl⟩
  obtain ⟨ol, hol⟩ : ∃ x, x = ordI ⟨blt, blv, bls⟩ ⟨alt, alv, als⟩ := ⟨_, rfl⟩
  rw [← hof] at HF
  rw [← hol] at HL
  rw [← hof, ← hol]
  clear hof hol
  obtain ⟨m1, hm1⟩ : ∃ x, x = min amn bmn := ⟨_, rfl⟩
  obtain ⟨m2, hm2⟩ : ∃ x, x = max amx bmx := ⟨_, rfl⟩
  rw [← hm1, ← hm2]
  have HM1 := Lib.hid hm1
  have HM2 := Lib.hid hm2
  clear hm1 hm2
  obtain ⟨rf, hrf⟩ : ∃ x : Pt, x = if of < 0 then ⟨bft, bfv, bfs⟩ else ⟨aft, afv, afs⟩ := ⟨_, rfl⟩
  obtain ⟨rl, hrl⟩ : ∃ x : Pt, x = if 0 < ol then ⟨blt, blv, bls⟩ else ⟨alt, alv, als⟩ := ⟨_, rfl⟩
  rw [← hrf, ← hrl]
  have HRF := Lib.hid hrf
  have HRL := Lib.hid hrl
  clear hrf hrl
  have h1 : ¬ bn < 0 := by omega
  have h2 : ¬ bn = 0 := by omega
  have h3 : ¬ an < 0 := by omega
  have h4 : ¬ an = 0 := by omega
  have h5 : ¬ 4611686018427387904 < an := by omega
  have h6 : ¬ 4611686018427387904 - an < bn := by omega
  go_enter Tryz.func92, Tryz.ntmps92
  go_wp2_with fail
  refine (HADD.out _).mono ?_
  rintro e w1 ⟨rfl, hx1⟩
  have BB : Hid (w1.heap[w.heap.size]? = some (.cells #[.int .i64 an, .int .i64 a0, .int .i64 a1, .int .i64 a2, .int .i64 a3, .int .i64 a4, .int .i64 a5, .int .i64 a6, .int .i64 a7, .int .i64 amn, .int .i64 amx, .int .i64 aft, .int .i64 afv, .int .i64 afs, .int .i64 alt, .int .i64 alv, .int .i64 als] 90 (0, 0)) ∧ w1.heap[w.heap.size + 1]? = some (.cells #[.int .i64 bn, .int .i64 b0, .int .i64 b1, .int .i64 b2, .int .i64 b3, .int .i64 b4, .int .i64 b5, .int .i64 b6, .int .i64 b7, .int .i64 bmn, .int .i64 bmx, .int .i64 bft, .int .i64 bfv, .int .i64 bfs, .int .i64 blt, .int .i64 blv, .int .i64 bls] 90 (0, 0)) ∧ w1.heap[w.heap.size + 2]? = some arZ) := Lib.hid (by
    have h0 := heap_alloc_new w (.cells #[.int .i64 an, .int .i64 a0, .int .i64 a1, .int .i64 a2, .int .i64 a3, .int .i64 a4, .int .i64 a5, .int .i64 a6, .int .i64 a7, .int .i64 amn, .int .i64 amx, .int .i64 aft, .int .i64 afv, .int .i64 afs, .int .i64 alt, .int .i64 alv, .int .i64 als] 90 (0, 0))
    have h1 := heap_alloc2 w (.cells #[.int .i64 an, .int .i64 a0, .int .i64 a1, .int .i64 a2, .int .i64 a3, .int .i64 a4, .int .i64 a5, .int .i64 a6, .int .i64 a7, .int .i64 amn, .int .i64 amx, .int .i64 aft, .int .i64 afv, .int .i64 afs, .int .i64 alt, .int .i64 alv, .int .i64 als] 90 (0, 0)) (.cells #[.int .i64 bn, .int .i64 b0, .int .i64 b1, .int .i64 b2, .int .i64 b3, .int .i64 b4, .int .i64 b5, .int .i64 b6, .int .i64 b7, .int .i64 bmn, .int .i64 bmx, .int .i64 bft, .int .i64 bfv, .int .i64 bfs, .int .i64 blt, .int .i64 blv, .int .i64 bls] 90 (0, 0))
    have h2 := heap_alloc3' w (.cells #[.int .i64 an, .int .i64 a0, .int .i64 a1, .int .i64 a2, .int .i64 a3, .int .i64 a4, .int .i64 a5, .int .i64 a6, .int .i64 a7, .int .i64 amn, .int .i64 amx, .int .i64 aft, .int .i64 afv, .int .i64 afs, .int .i64 alt, .int .i64 alv, .int .i64 als] 90 (0, 0)) (.cells #[.int .i64 bn, .int .i64 b0, .int .i64 b1, .int .i64 b2, .int .i64 b3, .int .i64 b4, .int .i64 b5, .int .i64 b6, .int .i64 b7, .int .i64 bmn, .int .i64 bmx, .int .i64 bft, .int .i64 bfv, .int .i64 bfs, .int .i64 blt, .int .i64 blv, .int .i64 bls] 90 (0, 0)) arZ
    exact ⟨((((Ext.refl _).alloc _).alloc _).trans hx1).block (block_lt h0) |>.trans h0, (((Ext.refl _).alloc _).trans hx1).block (block_lt h1) |>.trans h1, (hx1.block (block_lt h2)).trans h2⟩)
  have HX1 := Lib.hid (((((Ext.refl w).alloc _).alloc _).alloc _).trans hx1)
  clear hx1 HADD
  obtain ⟨ba, hba⟩ : ∃ x, x = w.heap.size := ⟨_, rfl⟩
  have HBA := Lib.hid hba
  have c0 : ∀ o, (w1.alloc o).cell? ⟨w.heap.size, 0, none⟩ = some (.int .i64 an) := fun o => by have := cell_of_block ((((Ext.refl w1).alloc o).block (block_lt BB.out.1)).trans BB.out.1) 0; simpa using this
  have c1 : ∀ o, (w1.alloc o).cell? ⟨w.heap.size + 1, 0, none⟩ = some (.int .i64 bn) := fun o => by have := cell_of_block ((((Ext.refl w1).alloc o).block (block_lt BB.out.2.1)).trans BB.out.2.1) 0; simpa using this
  go_upto_region 12 with fail
  generalize hW2 : World.alloc _ _ = W2
  have HX2 : Hid (Ext w1 W2) := Lib.hid (by subst hW2; exact (Ext.refl w1).alloc _)
  have HS2 : Hid (W2.heap[w1.heap.size]? = some (.cells #[.int .i64 s0, .int .i64 s1, .int .i64 s2, .int .i64 s3, .int .i64 s4, .int .i64 s5, .int .i64 s6, .int .i64 s7] 88 (0, 0))) := Lib.hid (by subst hW2; exact heap_alloc_new w1 _)
  have HA2 := Lib.hid ((HX2.out.block (block_lt BB.out.1)).trans BB.out.1)
  have HB2 := Lib.hid ((HX2.out.block (block_lt BB.out.2.1)).trans BB.out.2.1)
  have HZ2 := Lib.hid ((HX2.out.block (block_lt BB.out.2.2)).trans BB.out.2.2)
  have HSZ : Hid (w.heap.size + 3 ≤ w1.heap.size) := Lib.hid (by have := block_lt BB.out.2.2; omega)
  clear hW2 c0 c1 BB
  rw [← hba] at HA2 HB2 HZ2 HSZ ⊢
  clear hba
  have HBr : Hid (∀ w', Chg (· = ba) W2 w' → w'.heap[ba + 1]? = some (.cells #[.int .i64 bn, .int .i64 b0, .int .i64 b1, .int .i64 b2, .int .i64 b3, .int .i64 b4, .int .i64 b5, .int .i64 b6, .int .i64 b7, .int .i64 bmn, .int .i64 bmx, .int .i64 bft, .int .i64 bfv, .int .i64 bfs, .int .i64 blt, .int .i64 blv, .int .i64 bls] 90 (0, 0)) ∧ w'.heap[w1.heap.size]? = some (.cells #[.int .i64 s0, .int .i64 s1, .int .i64 s2, .int .i64 s3, .int .i64 s4, .int .i64 s5, .int .i64 s6, .int .i64 s7] 88 (0, 0)) ∧ w'.heap[ba + 2]? = some arZ) := Lib.hid (fun w' hc => ⟨(hc.block _ (block_lt HB2.out) (by omega)).trans HB2.out, (hc.block _ (block_lt HS2.out) (by have := HSZ.out; omega)).trans HS2.out, (hc.block _ (block_lt HZ2.out) (by omega)).trans HZ2.out⟩)
  have c0 : W2.cell? ⟨ba, 0, none⟩ = some (.int .i64 an) := by have := cell_of_block HA2.out 0; simpa using this
  have c1 : W2.cell? ⟨ba + 1, 0, none⟩ = some (.int .i64 bn) := by have := cell_of_block HB2.out 0; simpa using this
  have z0 := free_of_block HA2.out 0
  go_upto_region 13 with fail
  generalize hW3 : World.setCell _ _ _ = W3
  have HR3 : Hid (RmR W2 ba #[.int .i64 (an + bn), .int .i64 a0, .int .i64 a1, .int .i64 a2, .int .i64 a3, .int .i64 a4, .int .i64 a5, .int .i64 a6, .int .i64 a7, .int .i64 amn, .int .i64 amx, .int .i64 aft, .int .i64 afv, .int .i64 afs, .int .i64 alt, .int .i64 alv, .int .i64 als] W3) := Lib.hid ⟨by subst hW3; have := setCell_block (i := 0) HA2.out (.int .i64 (an + bn)); simpa using this, by subst hW3; exact setCell_chg _ _ _ _⟩
  clear hW3 c0 c1 z0
  have U : Hid (1 + (#[.int .i64 s0, .int .i64 s1, .int .i64 s2, .int .i64 s3, .int .i64 s4, .int .i64 s5, .int .i64 s6, .int .i64 s7] : Array Value).size ≤ (#[.int .i64 (an + bn), .int .i64 a0, .int .i64 a1, .int .i64 a2, .int .i64 a3, .int .i64 a4, .int .i64 a5, .int .i64 a6, .int .i64 a7, .int .i64 amn, .int .i64 amx, .int .i64 aft, .int .i64 afv, .int .i64 afs, .int .i64 alt, .int .i64 alv, .int .i64 als] : Array Value).size ∧ (#[.int .i64 (an + bn), .int .i64 a0, .int .i64 a1, .int .i64 a2, .int .i64 a3, .int .i64 a4, .int .i64 a5, .int .i64 a6, .int .i64 a7, .int .i64 amn, .int .i64 amx, .int .i64 aft, .int .i64 afv, .int .i64 afs, .int .i64 alt, .int .i64 alv, .int .i64 als] : Array Value).toList.take 1 ++ (#[.int .i64 s0, .int .i64 s1, .int .i64 s2, .int .i64 s3, .int .i64 s4, .int .i64 s5, .int .i64 s6, .int .i64 s7] : Array Value).toList ++ (#[.int .i64 (an + bn), .int .i64 a0, .int .i64 a1, .int .i64 a2, .int .i64 a3, .int .i64 a4, .int .i64 a5, .int .i64 a6, .int .i64 a7, .int .i64 amn, .int .i64 amx, .int .i64 aft, .int .i64 afv, .int .i64 afs, .int .i64 alt, .int .i64 alv, .int .i64 als] : Array Value).toList.drop (1 + (#[.int .i64 s0, .int .i64 s1, .int .i64 s2, .int .i64 s3, .int .i64 s4, .int .i64 s5, .int .i64 s6, .int .i64 s7] : Array Value).size) = (#[.int .i64 (an + bn), .int .i64 s0, .int .i64 s1, .int .i64 s2, .int .i64 s3, .int .i64 s4, .int .i64 s5, .int .i64 s6, .int .i64 s7, .int .i64 amn, .int .i64 amx, .int .i64 aft, .int .i64 afv, .int .i64 afs, .int .i64 alt, .int .i64 alv, .int .i64 als] : Array Value).toList ∧ (#[.int .i64 s0, .int .i64 s1, .int .i64 s2, .int .i64 s3, .int .i64 s4, .int .i64 s5, .int .i64 s6, .int .i64 s7] : Array Value).all (·.oneCell') = true ∧ (Tryz.prog.info? 88).map (·.size) = some (#[.int .i64 s0, .int .i64 s1, .int .i64 s2, .int .i64 s3, .int .i64 s4, .int .i64 s5, .int .i64 s6, .int .i64 s7] : Array Value).size) := Lib.hid ⟨by simp, by simp, by simp [Value.oneCell'], by kernel_rfl⟩
  go_upto_region 14 with (first | (refine wpList_load_box rfl _ _ rfl _ _ _ _ _ rfl (HBr.out _ HR3.out.chg).2.1 Tryz.underlying88 rfl lm_info ?_) | (refine wpList_store_part rfl _ _ _ rfl _ _ _ _ #[.int .i64 (an + bn), .int .i64 s0, .int .i64 s1, .int .i64 s2, .int .i64 s3, .int .i64 s4, .int .i64 s5, .int .i64 s6, .int .i64 s7, .int .i64 amn, .int .i64 amx, .int .i64 aft, .int .i64 afv, .int .i64 afs, .int .i64 alt, .int .i64 alv, .int .i64 als] _ rfl rfl HR3.out.blk U.out.1 U.out.2.1 U.out.2.2.2 U.out.2.2.1 ?_; rintro W4 hb4 hc4; have HR4 : Hid (RmR W2 ba #[.int .i64 (an + bn), .int .i64 s0, .int .i64 s1, .int .i64 s2, .int .i64 s3, .int .i64 s4, .int .i64 s5, .int .i64 s6, .int .i64 s7, .int .i64 amn, .int .i64 amx, .int .i64 aft, .int .i64 afv, .int .i64 afs, .int .i64 alt, .int .i64 alv, .int .i64 als] W4) := Lib.hid ⟨hb4, HR3.out.chg.trans hc4 (fun _ _ e => e)⟩; clear hb4 hc4))
  simp only [Act.put]
  have c0 : W4.cell? ⟨ba, 9, none⟩ = some (.int .i64 amn) := by have := cell_of_block HR4.out.blk 9; simpa using this
  have c1 : W4.cell? ⟨ba + 1, 9, none⟩ = some (.int .i64 bmn) := by have := cell_of_block (HBr.out _ HR4.out.chg).1 9; simpa using this
  have z0 := free_of_block HR4.out.blk 9
  go_upto_if 70 with fail
  go_cut [5] (fun slot wx => slot = .int .i64 0 ∧ Hid (RmR W2 ba #[.int .i64 (an + bn), .int .i64 s0, .int .i64 s1, .int .i64 s2, .int .i64 s3, .int .i64 s4, .int .i64 s5, .int .i64 s6, .int .i64 s7, .int .i64 m1, .int .i64 amx, .int .i64 aft, .int .i64 afv, .int .i64 afs, .int .i64 alt, .int .i64 alv, .int .i64 als] wx))
  case first =>
    by_cases h : bmn < amn
    · have HE : Hid (m1 = bmn) := Lib.hid (by rw [HM1.out]; omega)
      go_wp2_with fail
      go_meet
      refine ⟨rfl, Lib.hid ⟨?_, HR4.out.chg.trans (setCell_chg _ _ _ _) (fun _ _ e => e)⟩⟩
      have h1 := setCell_block (i := 9) HR4.out.blk (.int .i64 bmn)
      rw [HE.out]
      simpa using h1
    · have HE : Hid (m1 = amn) := Lib.hid (by rw [HM1.out]; omega)
      go_wp2_with fail
      go_meet
      exact ⟨rfl, Lib.hid (by rw [HE.out]; exact HR4.out)⟩
  case rest =>
  obtain ⟨rfl, HR5⟩ := hcut
  clear c0 c1 z0
  obtain ⟨w5, hw5⟩ : ∃ w5, w5 = wc := ⟨_, rfl⟩
  rw [← hw5] at HR5 ⊢
  clear hw5
  have c0 : w5.cell? ⟨ba, 10, none⟩ = some (.int .i64 amx) := by have := cell_of_block HR5.out.blk 10; simpa using this
  have c1 : w5.cell? ⟨ba + 1, 10, none⟩ = some (.int .i64 bmx) := by have := cell_of_block (HBr.out _ HR5.out.chg).1 10; simpa using this
  have z0 := free_of_block HR5.out.blk 10
  go_upto_if 78 with fail
  go_cut [5] (fun slot wx => slot = .int .i64 0 ∧ Hid (RmR W2 ba #[.int .i64 (an + bn), .int .i64 s0, .int .i64 s1, .int .i64 s2, .int .i64 s3, .int .i64 s4, .int .i64 s5, .int .i64 s6, .int .i64 s7, .int .i64 m1, .int .i64 m2, .int .i64 aft, .int .i64 afv, .int .i64 afs, .int .i64 alt, .int .i64 alv, .int .i64 als] wx))
  case first =>
    by_cases h : amx < bmx
    · have HE : Hid (m2 = bmx) := Lib.hid (by rw [HM2.out]; omega)
      go_wp2_with fail
      go_meet
      refine ⟨rfl, Lib.hid ⟨?_, HR5.out.chg.trans (setCell_chg _ _ _ _) (fun _ _ e => e)⟩⟩
      have h1 := setCell_block (i := 10) HR5.out.blk (.int .i64 bmx)
      rw [HE.out]
      simpa using h1
    · have HE : Hid (m2 = amx) := Lib.hid (by rw [HM2.out]; omega)
      go_wp2_with fail
      go_meet
      exact ⟨rfl, Lib.hid (by rw [HE.out]; exact HR5.out)⟩
  case rest =>
  obtain ⟨rfl, HR6⟩ := hcut
  clear c0 c1 z0
  obtain ⟨w6, hw6⟩ : ∃ w6, w6 = wc := ⟨_, rfl⟩
  rw [← hw6] at HR6 ⊢
  clear hw6
  have k0 : w6.cell? ⟨ba, 11, none⟩ = some (.int .i64 aft) := by have := cell_of_block HR6.out.blk 11; simpa using this
  have k3 : w6.cell? ⟨ba + 1, 11, none⟩ = some (.int .i64 bft) := by have := cell_of_block (HBr.out _ HR6.out.chg).1 11; simpa using this
  have k1 : w6.cell? ⟨ba, 12, none⟩ = some (.int .i64 afv) := by have := cell_of_block HR6.out.blk 12; simpa using this
  have k4 : w6.cell? ⟨ba + 1, 12, none⟩ = some (.int .i64 bfv) := by have := cell_of_block (HBr.out _ HR6.out.chg).1 12; simpa using this
  have k2 : w6.cell? ⟨ba, 13, none⟩ = some (.int .i64 afs) := by have := cell_of_block HR6.out.blk 13; simpa using this
  have k5 : w6.cell? ⟨ba + 1, 13, none⟩ = some (.int .i64 bfs) := by have := cell_of_block (HBr.out _ HR6.out.chg).1 13; simpa using this
  go_wp2_with fail
  refine (HF.out _).mono ?_
  rintro e wx ⟨rfl, hx⟩
  have HRX : Hid (RmR W2 ba #[.int .i64 (an + bn), .int .i64 s0, .int .i64 s1, .int .i64 s2, .int .i64 s3, .int .i64 s4, .int .i64 s5, .int .i64 s6, .int .i64 s7, .int .i64 m1, .int .i64 m2, .int .i64 aft, .int .i64 afv, .int .i64 afs, .int .i64 alt, .int .i64 alv, .int .i64 als] wx) := Lib.hid ⟨(hx.block (block_lt HR6.out.blk)).trans HR6.out.blk, HR6.out.chg.trans (Chg.of_ext (S := fun _ => False) hx) (fun _ _ e => e.elim)⟩
  clear k0 k1 k2 k3 k4 k5 hx
  have k3 : wx.cell? ⟨ba + 1, 11, none⟩ = some (.int .i64 bft) := by have := cell_of_block (HBr.out _ HRX.out.chg).1 11; simpa using this
  have k4 : wx.cell? ⟨ba + 1, 12, none⟩ = some (.int .i64 bfv) := by have := cell_of_block (HBr.out _ HRX.out.chg).1 12; simpa using this
  have k5 : wx.cell? ⟨ba + 1, 13, none⟩ = some (.int .i64 bfs) := by have := cell_of_block (HBr.out _ HRX.out.chg).1 13; simpa using this
  have HU : Hid (11 + (#[.int .i64 bft, .int .i64 bfv, .int .i64 bfs] : Array Value).size ≤ (#[.int .i64 (an + bn), .int .i64 s0, .int .i64 s1, .int .i64 s2, .int .i64 s3, .int .i64 s4, .int .i64 s5, .int .i64 s6, .int .i64 s7, .int .i64 m1, .int .i64 m2, .int .i64 aft, .int .i64 afv, .int .i64 afs, .int .i64 alt, .int .i64 alv, .int .i64 als] : Array Value).size ∧ (#[.int .i64 (an + bn), .int .i64 s0, .int .i64 s1, .int .i64 s2, .int .i64 s3, .int .i64 s4, .int .i64 s5, .int .i64 s6, .int .i64 s7, .int .i64 m1, .int .i64 m2, .int .i64 aft, .int .i64 afv, .int .i64 afs, .int .i64 alt, .int .i64 alv, .int .i64 als] : Array Value).toList.take 11 ++ (#[.int .i64 bft, .int .i64 bfv, .int .i64 bfs] : Array Value).toList ++ (#[.int .i64 (an + bn), .int .i64 s0, .int .i64 s1, .int .i64 s2, .int .i64 s3, .int .i64 s4, .int .i64 s5, .int .i64 s6, .int .i64 s7, .int .i64 m1, .int .i64 m2, .int .i64 aft, .int .i64 afv, .int .i64 afs, .int .i64 alt, .int .i64 alv, .int .i64 als] : Array Value).toList.drop (11 + (#[.int .i64 bft, .int .i64 bfv, .int .i64 bfs] : Array Value).size) = (#[.int .i64 (an + bn), .int .i64 s0, .int .i64 s1, .int .i64 s2, .int .i64 s3, .int .i64 s4, .int .i64 s5, .int .i64 s6, .int .i64 s7, .int .i64 m1, .int .i64 m2, .int .i64 bft, .int .i64 bfv, .int .i64 bfs, .int .i64 alt, .int .i64 alv, .int .i64 als] : Array Value).toList ∧ (#[.int .i64 bft, .int .i64 bfv, .int .i64 bfs] : Array Value).all (·.oneCell') = true ∧ (Tryz.prog.info? 37).map (·.size) = some (#[.int .i64 bft, .int .i64 bfv, .int .i64 bfs] : Array Value).size) := Lib.hid ⟨by simp, by simp, by simp [Value.oneCell'], by kernel_rfl⟩
  go_upto_if 86 with fail
  go_cut [5] (fun slot wx => slot = .int .i64 0 ∧ Hid (RmR W2 ba #[.int .i64 (an + bn), .int .i64 s0, .int .i64 s1, .int .i64 s2, .int .i64 s3, .int .i64 s4, .int .i64 s5, .int .i64 s6, .int .i64 s7, .int .i64 m1, .int .i64 m2, .int .i64 rf.t, .int .i64 rf.v, .int .i64 rf.s, .int .i64 alt, .int .i64 alv, .int .i64 als] wx))
  case first =>
    by_cases h : of < 0
    · have HE : Hid (rf = ⟨bft, bfv, bfs⟩) := Lib.hid (by rw [HRF.out, if_pos h])
      go_wp2_with (refine wpList_store_part rfl _ _ _ rfl _ _ _ _ #[.int .i64 (an + bn), .int .i64 s0, .int .i64 s1, .int .i64 s2, .int .i64 s3, .int .i64 s4, .int .i64 s5, .int .i64 s6, .int .i64 s7, .int .i64 m1, .int .i64 m2, .int .i64 bft, .int .i64 bfv, .int .i64 bfs, .int .i64 alt, .int .i64 alv, .int .i64 als] _ rfl rfl HRX.out.blk HU.out.1 HU.out.2.1 HU.out.2.2.2 HU.out.2.2.1 ?_; rintro wy hb4 hc4; have HRY : Hid (RmR W2 ba #[.int .i64 (an + bn), .int .i64 s0, .int .i64 s1, .int .i64 s2, .int .i64 s3, .int .i64 s4, .int .i64 s5, .int .i64 s6, .int .i64 s7, .int .i64 m1, .int .i64 m2, .int .i64 rf.t, .int .i64 rf.v, .int .i64 rf.s, .int .i64 alt, .int .i64 alv, .int .i64 als] wy) := Lib.hid ⟨by rw [HE.out]; exact hb4, HRX.out.chg.trans hc4 (fun _ _ e => e)⟩; clear hb4 hc4)
      go_meet
      exact ⟨rfl, HRY⟩
    · have HE : Hid (rf = ⟨aft, afv, afs⟩) := Lib.hid (by rw [HRF.out, if_neg h])
      go_wp2_with fail
      go_meet
      exact ⟨rfl, Lib.hid (by rw [HE.out]; exact HRX.out)⟩
  case rest =>
  obtain ⟨rfl, HR7⟩ := hcut
  clear k3 k4 k5
  obtain ⟨w7, hnw⟩ : ∃ q, q = wc := ⟨_, rfl⟩
  rw [← hnw] at HR7 ⊢
  clear hnw HU
  have k0 : w7.cell? ⟨ba, 14, none⟩ = some (.int .i64 alt) := by have := cell_of_block HR7.out.blk 14; simpa using this
  have k3 : w7.cell? ⟨ba + 1, 14, none⟩ = some (.int .i64 blt) := by have := cell_of_block (HBr.out _ HR7.out.chg).1 14; simpa using this
  have k1 : w7.cell? ⟨ba, 15, none⟩ = some (.int .i64 alv) := by have := cell_of_block HR7.out.blk 15; simpa using this
  have k4 : w7.cell? ⟨ba + 1, 15, none⟩ = some (.int .i64 blv) := by have := cell_of_block (HBr.out _ HR7.out.chg).1 15; simpa using this
  have k2 : w7.cell? ⟨ba, 16, none⟩ = some (.int .i64 als) := by have := cell_of_block HR7.out.blk 16; simpa using this
  have k5 : w7.cell? ⟨ba + 1, 16, none⟩ = some (.int .i64 bls) := by have := cell_of_block (HBr.out _ HR7.out.chg).1 16; simpa using this
  go_wp2_with fail
  refine (HL.out _).mono ?_
  rintro e wx ⟨rfl, hx⟩
  have HRX : Hid (RmR W2 ba #[.int .i64 (an + bn), .int .i64 s0, .int .i64 s1, .int .i64 s2, .int .i64 s3, .int .i64 s4, .int .i64 s5, .int .i64 s6, .int .i64 s7, .int .i64 m1, .int .i64 m2, .int .i64 rf.t, .int .i64 rf.v, .int .i64 rf.s, .int .i64 alt, .int .i64 alv, .int .i64 als] wx) := Lib.hid ⟨(hx.block (block_lt HR7.out.blk)).trans HR7.out.blk, HR7.out.chg.trans (Chg.of_ext (S := fun _ => False) hx) (fun _ _ e => e.elim)⟩
  clear k0 k1 k2 k3 k4 k5 hx
  have k3 : wx.cell? ⟨ba + 1, 14, none⟩ = some (.int .i64 blt) := by have := cell_of_block (HBr.out _ HRX.out.chg).1 14; simpa using this
  have k4 : wx.cell? ⟨ba + 1, 15, none⟩ = some (.int .i64 blv) := by have := cell_of_block (HBr.out _ HRX.out.chg).1 15; simpa using this
  have k5 : wx.cell? ⟨ba + 1, 16, none⟩ = some (.int .i64 bls) := by have := cell_of_block (HBr.out _ HRX.out.chg).1 16; simpa using this
  have HU : Hid (14 + (#[.int .i64 blt, .int .i64 blv, .int .i64 bls] : Array Value).size ≤ (#[.int .i64 (an + bn), .int .i64 s0, .int .i64 s1, .int .i64 s2, .int .i64 s3, .int .i64 s4, .int .i64 s5, .int .i64 s6, .int .i64 s7, .int .i64 m1, .int .i64 m2, .int .i64 rf.t, .int .i64 rf.v, .int .i64 rf.s, .int .i64 alt, .int .i64 alv, .int .i64 als] : Array Value).size ∧ (#[.int .i64 (an + bn), .int .i64 s0, .int .i64 s1, .int .i64 s2, .int .i64 s3, .int .i64 s4, .int .i64 s5, .int .i64 s6, .int .i64 s7, .int .i64 m1, .int .i64 m2, .int .i64 rf.t, .int .i64 rf.v, .int .i64 rf.s, .int .i64 alt, .int .i64 alv, .int .i64 als] : Array Value).toList.take 14 ++ (#[.int .i64 blt, .int .i64 blv, .int .i64 bls] : Array Value).toList ++ (#[.int .i64 (an + bn), .int .i64 s0, .int .i64 s1, .int .i64 s2, .int .i64 s3, .int .i64 s4, .int .i64 s5, .int .i64 s6, .int .i64 s7, .int .i64 m1, .int .i64 m2, .int .i64 rf.t, .int .i64 rf.v, .int .i64 rf.s, .int .i64 alt, .int .i64 alv, .int .i64 als] : Array Value).toList.drop (14 + (#[.int .i64 blt, .int .i64 blv, .int .i64 bls] : Array Value).size) = (#[.int .i64 (an + bn), .int .i64 s0, .int .i64 s1, .int .i64 s2, .int .i64 s3, .int .i64 s4, .int .i64 s5, .int .i64 s6, .int .i64 s7, .int .i64 m1, .int .i64 m2, .int .i64 rf.t, .int .i64 rf.v, .int .i64 rf.s, .int .i64 blt, .int .i64 blv, .int .i64 bls] : Array Value).toList ∧ (#[.int .i64 blt, .int .i64 blv, .int .i64 bls] : Array Value).all (·.oneCell') = true ∧ (Tryz.prog.info? 37).map (·.size) = some (#[.int .i64 blt, .int .i64 blv, .int .i64 bls] : Array Value).size) := Lib.hid ⟨by simp, by simp, by simp [Value.oneCell'], by kernel_rfl⟩
  go_upto_if 94 with fail
  go_cut [5] (fun slot wx => slot = .int .i64 0 ∧ Hid (RmR W2 ba #[.int .i64 (an + bn), .int .i64 s0, .int .i64 s1, .int .i64 s2, .int .i64 s3, .int .i64 s4, .int .i64 s5, .int .i64 s6, .int .i64 s7, .int .i64 m1, .int .i64 m2, .int .i64 rf.t, .int .i64 rf.v, .int .i64 rf.s, .int .i64 rl.t, .int .i64 rl.v, .int .i64 rl.s] wx))
  case first =>
    by_cases h : 0 < ol
    · have HE : Hid (rl = ⟨blt, blv, bls⟩) := Lib.hid (by rw [HRL.out, if_pos h])
      go_wp2_with (refine wpList_store_part rfl _ _ _ rfl _ _ _ _ #[.int .i64 (an + bn), .int .i64 s0, .int .i64 s1, .int .i64 s2, .int .i64 s3, .int .i64 s4, .int .i64 s5, .int .i64 s6, .int .i64 s7, .int .i64 m1, .int .i64 m2, .int .i64 rf.t, .int .i64 rf.v, .int .i64 rf.s, .int .i64 blt, .int .i64 blv, .int .i64 bls] _ rfl rfl HRX.out.blk HU.out.1 HU.out.2.1 HU.out.2.2.2 HU.out.2.2.1 ?_; rintro wy hb4 hc4; have HRY : Hid (RmR W2 ba #[.int .i64 (an + bn), .int .i64 s0, .int .i64 s1, .int .i64 s2, .int .i64 s3, .int .i64 s4, .int .i64 s5, .int .i64 s6, .int .i64 s7, .int .i64 m1, .int .i64 m2, .int .i64 rf.t, .int .i64 rf.v, .int .i64 rf.s, .int .i64 rl.t, .int .i64 rl.v, .int .i64 rl.s] wy) := Lib.hid ⟨by rw [HE.out]; exact hb4, HRX.out.chg.trans hc4 (fun _ _ e => e)⟩; clear hb4 hc4)
      go_meet
      exact ⟨rfl, HRY⟩
    · have HE : Hid (rl = ⟨alt, alv, als⟩) := Lib.hid (by rw [HRL.out, if_neg h])
      go_wp2_with fail
      go_meet
      exact ⟨rfl, Lib.hid (by rw [HE.out]; exact HRX.out)⟩
  case rest =>
  obtain ⟨rfl, HR8⟩ := hcut
  clear k3 k4 k5
  obtain ⟨w8, hnw⟩ : ∃ q, q = wc := ⟨_, rfl⟩
  rw [← hnw] at HR8 ⊢
  clear hnw HU
  have HIN : Hid ((Tryz.prog.info? 90).map (·.size) = some (#[.int .i64 (an + bn), .int .i64 s0, .int .i64 s1, .int .i64 s2, .int .i64 s3, .int .i64 s4, .int .i64 s5, .int .i64 s6, .int .i64 s7, .int .i64 m1, .int .i64 m2, .int .i64 rf.t, .int .i64 rf.v, .int .i64 rf.s, .int .i64 rl.t, .int .i64 rl.v, .int .i64 rl.s] : Array Value).size ∧ (#[.int .i64 (an + bn), .int .i64 s0, .int .i64 s1, .int .i64 s2, .int .i64 s3, .int .i64 s4, .int .i64 s5, .int .i64 s6, .int .i64 s7, .int .i64 m1, .int .i64 m2, .int .i64 rf.t, .int .i64 rf.v, .int .i64 rf.s, .int .i64 rl.t, .int .i64 rl.v, .int .i64 rl.s] : Array Value).all (·.oneCell') = true) := Lib.hid ⟨by kernel_rfl, by simp [Value.oneCell']⟩
  go_wp2_with (first | (refine wpList_load_box rfl _ _ rfl _ _ _ _ _ rfl HR8.out.blk Tryz.underlying90 rfl HIN.out.1 ?_) | (refine wpList_store_box rfl _ _ _ rfl _ _ _ _ rfl rfl (HBr.out _ HR8.out.chg).2.2 rfl HIN.out.1 HIN.out.2 ?_; rintro w9 hb5 hc5; have HB5 := Lib.hid hb5; have HC5 := Lib.hid hc5; clear hb5 hc5))
  have hx := HX1.out.trans HX2.out
  have hbn := HBA.out
  exact bodyPost_ret (results_box_tmp Tryz.results92 _ _ rfl HB5.out Tryz.underlying90 rfl HIN.out.1) rfl ⟨rfl, (((Chg.of_ext (S := fun _ => False) hx).trans HR8.out.chg (fun i hi e => by omega)).trans HC5.out (fun i hi e => by omega)).ext (fun _ _ e => e)⟩

end Go.Proofs.YtokllgdbmnmieaaGreat

/-! A part of an element of a row is written; the document's buckets in memory; plain: putting into sorted buckets. -/

namespace Go.Proofs.YtokllgdbmnmieaaGreat
open Go.RowKit Go.Lib Go.Sort

theorem flat_set {α : Type} {enc : α → List Value} {s : Nat} (hs : ∀ x, (enc x).length = s) {L : List α} {k : Nat} {x p : α} (hx : L[k]? = some x) (j : Nat) (mid : List Value) (hj : j + mid.length ≤ s) (hp : enc p = (enc x).take j ++ mid ++ (enc x).drop (j + mid.length)) (rest : List Value) :
    (L.flatMap enc ++ rest).take (k * s + j) ++ mid ++ (L.flatMap enc ++ rest).drop (k * s + j + mid.length) = (L.set k p).flatMap enc ++ rest := by
  obtain ⟨hk, rfl⟩ := List.getElem?_eq_some_iff.1 hx
  have e1 : L.flatMap enc = (L.take k).flatMap enc ++ (enc L[k] ++ (L.drop (k + 1)).flatMap enc) := by
    conv => lhs; rw [← List.take_append_drop k L, List.flatMap_append, List.drop_eq_getElem_cons hk, List.flatMap_cons]
  have e2 : (L.set k p).flatMap enc = (L.take k).flatMap enc ++ (enc p ++ (L.drop (k + 1)).flatMap enc) := by
    rw [List.set_eq_take_append_cons_drop, if_pos hk, List.flatMap_append, List.flatMap_cons]
  have hl1 : ((L.take k).flatMap enc).length = k * s := by rw [enc_len hs, List.length_take, Nat.min_eq_left (by omega)]
  have hlx := hs L[k]
  rw [e1, e2, hp]
  simp only [List.append_assoc]
  rw [← hl1, List.take_length_add_append, List.take_append_of_le_length (by omega)]
  rw [Nat.add_assoc, ← List.drop_drop, List.drop_left]
  rw [List.drop_append_of_le_length (by omega)]
  simp only [List.append_assoc]

/-- A part of an element is written. -/
theorem row_part {α : Type} {enc : α → List Value} {s : Nat} (hs : ∀ x, (enc x).length = s) (h0 : 0 < s) {w : World} {e : TypeId} {b so n c : Nat} {L : List α} (h : Row w e s (.slice (some ⟨b, so, none⟩) n c) n (L.flatMap enc)) {k : Nat} {x p : α} (hx : L[k]? = some x) (j : Nat) (mid : List Value) (hj : j + mid.length ≤ s)
    (hp : enc p = (enc x).take j ++ mid ++ (enc x).drop (j + mid.length)) :
    ∃ old new : Array Value, w.heap[b]? = some (.cells old e (0, 0)) ∧ so + (k * s + j) + mid.length ≤ old.size ∧ old.toList.take (so + (k * s + j)) ++ mid ++ old.toList.drop (so + (k * s + j) + mid.length) = new.toList ∧
      ∀ w', w'.heap[b]? = some (.cells new e (0, 0)) → Row w' e s (.slice (some ⟨b, so, none⟩) n c) n ((L.set k p).flatMap enc) := by
  have hkl := (List.getElem?_eq_some_iff.1 hx).1
  obtain ⟨hl, ⟨e', _⟩ | ⟨g', cap, cur, e', hb0, hb, h1, h2, h3, h4⟩⟩ := h
  · cases e'
  · simp only [Value.slice.injEq, Option.some.injEq, Addr.mk.injEq, and_true, true_and] at e'
    obtain ⟨⟨rfl, rfl⟩, rfl⟩ := e'
    have hln : L.length = n := by
      rw [enc_len hs] at hl
      exact Nat.eq_of_mul_eq_mul_right h0 hl
    have hks : k * s + s ≤ n * s := by rw [← Nat.succ_mul]; exact Nat.mul_le_mul_right _ (by omega)
    have hnc : n * s ≤ c * s := Nat.mul_le_mul_right _ h1
    have hcur : cur.toList = L.flatMap enc ++ cur.toList.drop (n * s) := by rw [← h4, List.take_append_drop]
    have key := flat_set hs hx j mid hj hp (cur.toList.drop (n * s))
    rw [← hcur] at key
    refine ⟨cur, ((L.set k p).flatMap enc ++ cur.toList.drop (n * s)).toArray, hb, by omega, ?_, ?_⟩
    · rw [Nat.zero_add, key]
    · intro w' hw'
      have hlen : ((L.set k p).flatMap enc).length = n * s := by rw [enc_len hs, List.length_set, hln]
      refine ⟨hlen, .inr ⟨b, c, _, rfl, hb0, hw', h1, h2, ?_, ?_⟩⟩
      · simp only [List.size_toArray, List.length_append, hlen, List.length_drop, Array.length_toList]; omega
      · rw [← hlen, List.take_left]

/-- A bucket's cells, as the document has it. -/
def rbc (b : Bk) : List Value := .int .i64 b.lo :: .int .i64 b.hi :: (agR b.a).toList
theorem rbc_len (b : Bk) : (rbc b).length = 19 := rfl
theorem rbc_one (b : Bk) : ∀ v ∈ rbc b, v.oneCell' = true := by
  intro v hv
  simp only [rbc, agR, List.mem_cons, List.not_mem_nil, or_false] at hv
  rcases hv with rfl | rfl | rfl | rfl | rfl | rfl | rfl | rfl | rfl | rfl | rfl | rfl | rfl | rfl | rfl | rfl | rfl | rfl | rfl <;> rfl
def rbs (l : List Bk) : List Value := l.flatMap rbc
theorem rbs_one (l : List Bk) : ∀ u ∈ rbs l, u.oneCell' = true := by
  intro u hu
  simp only [rbs, List.mem_flatMap] at hu
  obtain ⟨b, _, h⟩ := hu
  exact rbc_one b u h
theorem rbs_append (a b : List Bk) : rbs (a ++ b) = rbs a ++ rbs b := by simp [rbs]
theorem elem_rbk : ElemOk Tryz.prog 85 92 19 152 :=
  ⟨Tryz.underlying85, by
    obtain ⟨i0, hi, hz0, hz1, hz2⟩ := info_parts (show (Tryz.prog.info? 92).map (fun i => (i.zero, i.size, i.bytes)) = some (some (.agg #[.int .i64 0, .int .i64 0, .int .i64 0, .int .i64 0, .int .i64 0, .int .i64 0, .int .i64 0, .int .i64 0, .int .i64 0, .int .i64 0, .int .i64 0, .int .i64 0, .int .i64 0, .int .i64 0, .int .i64 0, .int .i64 0, .int .i64 0, .int .i64 0, .int .i64 0]), 19, 152) from by kernel_rfl)
    exact ⟨i0, _, hi, hz0, hz1, hz2, rfl⟩, by decide⟩
theorem rb_info : (Tryz.prog.info? 92).map (·.size) = some 19 := by kernel_rfl

/-- The document's Merge, where the second one has points. -/
theorem rMerge_any (a b : Ag) (w : World) (ha : a.fine) (hb : b.fine) (hb1 : 1 ≤ b.n) (hs : sumOk (a.s + b.s)) :
    Calls Tryz.prog 92 #[.agg (agR a), .agg (agR b)] w fun e w' => e = .returned (.tuple #[.agg (agR (agM a b)), .int .i64 0]) ∧ Ext w w' := by
  by_cases h : a.n = 0
  · have := rMerge_none a b w h hb1
    unfold agM
    rw [if_pos h]
    exact this
  · exact rMerge_two a b w (by have := ha.1; omega) ha.2.1 hb1 hb.2.1 ha.2.2 hb.2.2 hs

/-- Into buckets that rise. -/
def putB (a : Ag) (x : Int × Int) : List Bk → List Bk
  | [] => [⟨x.1, x.2, agM Ag.zero a⟩]
  | b :: l => if b.lo < x.1 then b :: putB a x l else if b.lo = x.1 then ⟨b.lo, b.hi, agM b.a a⟩ :: l else ⟨x.1, x.2, agM Ag.zero a⟩ :: b :: l
def putSL (L : List Bk) (a : Ag) (l : List (Int × Int)) : List Bk := l.foldl (fun L x => putB a x L) L
/-- Where it is put. -/
def kAt (z : Int) : List Bk → Nat
  | [] => 0
  | b :: l => if b.lo < z then kAt z l + 1 else 0
theorem kAt_le (z : Int) (L : List Bk) : kAt z L ≤ L.length := by
  induction L with
  | nil => simp [kAt]
  | cons b l ih => simp only [kAt]; split <;> simp <;> omega
theorem kAt_lt {z : Int} {L : List Bk} {i : Nat} {b : Bk} (hi : i < kAt z L) (hb : L[i]? = some b) : b.lo < z := by
  induction L generalizing i with
  | nil => simp at hb
  | cons c l ih =>
    simp only [kAt] at hi
    split at hi
    · cases i with
      | zero => simp at hb; subst hb; assumption
      | succ i => exact ih (i := i) (by omega) (by simpa using hb)
    · omega
theorem kAt_ge {z : Int} {L : List Bk} {b : Bk} (hb : L[kAt z L]? = some b) : ¬ b.lo < z := by
  induction L with
  | nil => simp at hb
  | cons c l ih =>
    simp only [kAt] at hb
    split at hb
    · exact ih (by simpa using hb)
    · simp at hb; subst hb; assumption
theorem putB_old {a : Ag} {x : Int × Int} {L : List Bk} {b : Bk} (hb : L[kAt x.1 L]? = some b) (h : b.lo = x.1) : putB a x L = L.set (kAt x.1 L) ⟨b.lo, b.hi, agM b.a a⟩ := by
  induction L with
  | nil => simp at hb
  | cons c l ih =>
    simp only [kAt, putB] at hb ⊢
    split at hb
    · rename_i hc
      rw [if_pos hc, if_pos hc, List.set_cons_succ, ih (by simpa using hb)]
    · rename_i hc
      simp at hb; subst hb
      rw [if_neg hc, if_pos h, if_neg hc]; rfl
theorem putB_new {a : Ag} {x : Int × Int} {L : List Bk} (h : ∀ b, L[kAt x.1 L]? = some b → b.lo ≠ x.1) : putB a x L = L.take (kAt x.1 L) ++ ⟨x.1, x.2, agM Ag.zero a⟩ :: L.drop (kAt x.1 L) := by
  induction L with
  | nil => simp [putB, kAt]
  | cons c l ih =>
    simp only [kAt, putB] at h ⊢
    split at h
    · rename_i hc
      rw [if_pos hc, if_pos hc, ih (fun b hb => h b (by simpa using hb))]
      simp
    · rename_i hc
      have := h c (by simp)
      rw [if_neg hc, if_neg this, if_neg hc]; simp
end Go.Proofs.YtokllgdbmnmieaaGreat
