/- MergeTimes: the walk. -/
import Derived.Test.YtlgdfiapljmojaaMgl
namespace Go.Proofs.Ytlgdfiapljmojaa
open Go.RowKit Go.Sort Go.Lib

/-- How two points stand to each other. -/
theorem pt_ways (q p : Pt) (h : q.t = p.t → q.s ≤ p.s) : q = p ∨ q.t ≠ p.t ∨ (q.t = p.t ∧ q.v ≠ p.v ∧ q.s ≤ p.s) ∨ (q.t = p.t ∧ q.v = p.v ∧ q.s < p.s) := by
  by_cases h1 : q.t = p.t
  · by_cases h2 : q.v = p.v
    · by_cases h3 : q.s = p.s
      · left; cases q; cases p; simp at h1 h2 h3 ⊢; omega
      · right; right; right; have := h h1; exact ⟨h1, h2, by omega⟩
    · right; right; left; exact ⟨h1, h2, h h1⟩
  · right; left; exact h1

def ThereB (b : Bool) (P : Prop) : Prop := b = true ↔ P
def Rel2 (n : Nat) (ls : List Sl) (p : Pt) (wo : World) (s8 s9 : Value) (wr : World) : Prop := ∃ (b : Bool) (kk : Nat), s8 = .bool b ∧ s9 = .int .i64 kk ∧ kk ≤ n ∧ Hid (Ext wo wr ∧ ThereB b (∃ x ∈ ls.take kk, p ∈ x.l))
def Rel3 (x : Sl) (ls : List Sl) (p : Pt) (kk : Nat) (wi : World) (s8 s10 : Value) (wr : World) : Prop := ∃ (b : Bool) (j : Nat), s8 = .bool b ∧ s10 = .int .i64 j ∧ j ≤ x.n ∧ Hid (Ext wi wr ∧ ThereB b ((∃ x ∈ ls.take kk, p ∈ x.l) ∨ p ∈ x.l.take j))

set_option maxHeartbeats 16000000 in
set_option maxRecDepth 100000 in
theorem mergeTimes_any (w : World) (a : Option Addr) (n c : Nat) (ls : List Sl) (hs : Src w 1 (.slice a n c) n (ls.map Sl.v)) (hok : ∀ x ∈ ls, x.Ok w ∧ x.n ≤ 1099511627776000) (hn : n ≤ 1099511627776000) :
    Calls Try.prog 4 #[.slice a n c] w fun e w' => e = .returned (.bool true) ∧ Ext w w' := by
  have HS := Lib.hid hs
  have HO := Lib.hid hok
  have HLn := Lib.hid (lists_len hs)
  go_enter Try.func4, Try.ntmps4
  go_wp2_with fail
  refine (few_any w a n c ls hs hok hn).mono ?_
  rintro e w0 ⟨b, rfl, rfl, hb⟩
  clear hs hok
  cases b
  · go_wp2_with fail
    go_ret
    exact ⟨rfl, Ext.refl _⟩
  replace hb := hb rfl
  go_wp2_with fail
  refine (merge_any w a n c ls HS.out (fun x hx => (HO.out x hx).1) (by omega)).mono ?_
  rintro e w1 hM0
  obtain ⟨hx1, va, vn, vc, ve, rfl, hM⟩ := hM0.parts
  clear hM0
  have HX1 := Lib.hid hx1; clear hx1
  have HM := Lib.hid hM; clear hM
  go_wp2_with fail
  generalize hW2 : World.alloc _ _ = W2
  have HX2 : Hid (Ext w1 W2) := Lib.hid (by subst hW2; exact ((Ext.refl w1).alloc _).alloc _)
  have hS2 : Hid (Src W2 1 (.slice (some ⟨w1.heap.size + 1, 0, none⟩) 1 1) 1 ([(⟨some ⟨w1.heap.size, 0, none⟩, 1, 1, [⟨4, 0, 0⟩]⟩ : Sl)].map Sl.v)) := Lib.hid (by
    refine .inr ⟨_, _, rfl, rfl, fun j u hj => ?_, fun u hu => by simp at hu; subst hu; rfl⟩
    rw [Go.WideShapes.add_plain, Nat.zero_add]
    match j, hj with
    | 0, hj => simp at hj; subst hj; subst hW2; simp [go_sem, Sl.v]
    | j + 1, hj => simp at hj)
  have hO2 : Hid (Sl.Ok W2 ⟨some ⟨w1.heap.size, 0, none⟩, 1, 1, [⟨4, 0, 0⟩]⟩) := Lib.hid (by
    refine ⟨?_, Nat.le_refl _⟩
    have hb : W2.heap[w1.heap.size]? = some (.cells #[.int .i64 4, .int .i64 0, .int .i64 0] 26 (0, 0)) := by
      subst hW2
      have := ((Ext.refl (w1.alloc (.cells #[.int .i64 4, .int .i64 0, .int .i64 0] 26 (0, 0)))).alloc (.cells #[.slice (some ⟨w1.heap.size, 0, none⟩) 1 1] 24 (0, 0))).block (k := w1.heap.size) (by simp)
      rw [this]; exact heap_alloc_new w1 _
    exact src_pt' (p := ⟨4, 0, 0⟩) hb)
  clear hW2
  refine (merge_any W2 _ 1 1 [⟨some ⟨w1.heap.size, 0, none⟩, 1, 1, [⟨4, 0, 0⟩]⟩] hS2.out (fun x hx => by simp at hx; subst hx; exact hO2.out) (by simp [totS])).mono ?_
  rintro e w3 hM3
  obtain ⟨hx3, oa, oc, rfl, _⟩ := merged_one (l := [⟨4, 0, 0⟩]) (Rises.one _) hM3
  have HX3 := Lib.hid ((HX2.out.trans hx3)); clear hx3 hM3
  simp only [List.length_cons, List.length_nil]
  rcases HM.out with ⟨rfl, hrs, out, rfl, hrow, hown, hmg, hlen⟩ | ⟨rfl, rfl, rfl, rfl, hnr⟩
  case inr =>
    go_wp2_with fail
    go_ret
    exact ⟨rfl, HX1.out.trans HX3.out⟩
  have ROW := Lib.hid (row_src (hrow.ext HX3.out))
  have MG := Lib.hid hmg
  have hol : out.length < 2000 := by rw [totS_map] at hlen; omega
  have HXW := Lib.hid (HX1.out.trans HX3.out)
  clear hrs hrow hown hmg hlen HM hS2 hO2
  go_wp2_with fail
  go_loopw [7] (fun i wr => ∃ k : Nat, i = .int .i64 k ∧ k ≤ out.length ∧ Hid (Ext w3 wr)) (fun i _ => out.length - (intOf i).toNat)
  case atStart => exact ⟨0, rfl, by omega, Lib.hid (Ext.refl _)⟩
  case round =>
    obtain ⟨k, rfl, hk, hx4⟩ := hrel
    by_cases hlt : k < out.length
    · obtain ⟨pb, po, p, rfl, hp, p0, p1, p2⟩ := pts_src (ROW.out.ext hx4.out) hlt
      have HP := Lib.hid hp
      have PB : Hid (∀ (x : Sl) (q : Pt), x ∈ ls → q ∈ x.l → q.t = p.t → q.s ≤ p.s) := Lib.hid (fun x q hx hq ht => by
        obtain ⟨i, l, hi, hpl, hb⟩ := MG.out.best p (List.mem_of_getElem? hp)
        obtain ⟨j, hj⟩ := List.mem_iff_getElem?.1 hx
        have := hb j x.l q (by simp [hj]) hq ht
        omega)
      have PT : Hid (∃ x ∈ ls, p ∈ x.l) := Lib.hid (by
        obtain ⟨i, l, hi, hpl, _⟩ := MG.out.best p (List.mem_of_getElem? hp)
        simp at hi
        obtain ⟨x, hx, rfl⟩ := hi
        exact ⟨x, List.mem_of_getElem? hx, hpl⟩)
      clear hp
      obtain ⟨wo, rfl⟩ : ∃ wo : World, wo = wr := ⟨_, rfl⟩
      go_wp2_with fail
      go_loopw [8, 9] (fun s8 s9 wr => Rel2 n ls p wo s8 s9 wr) (fun _ s9 _ => n - (intOf s9).toNat)
      case atStart => exact ⟨false, 0, rfl, rfl, by omega, Lib.hid ⟨Ext.refl _, by simp [ThereB]⟩⟩
      case round =>
        obtain ⟨b, kk, rfl, rfl, hkk, I2⟩ := hrel
        by_cases hlt2 : kk < n
        · obtain ⟨lb, lo, x, rfl, hxi, l0⟩ := lists_src (HS.out.ext ((HXW.out.trans hx4.out).trans I2.out.1)) hlt2
          have XI := Lib.hid hxi
          have HT2 := Lib.hid (take_snoc' hxi)
          have XO := Lib.hid (HO.out x (List.mem_of_getElem? hxi))
          have hxn : x.n < 2000 := by
            have h1 := le_totS (List.mem_of_getElem? hxi)
            have h2 := src_len (HO.out x (List.mem_of_getElem? hxi)).1.1
            omega
          clear hxi
          have hp0 := World.block_lt_of_cell? wo _ p0
          obtain ⟨wi, rfl⟩ : ∃ wi : World, wi = wr := ⟨_, rfl⟩
          go_wp2_with fail
          go_loopw [8, 10] (fun s8 s10 wr => Rel3 x ls p kk wi s8 s10 wr) (fun _ s10 _ => x.n - (intOf s10).toNat)
          case atStart => exact ⟨b, 0, rfl, rfl, by omega, Lib.hid ⟨Ext.refl _, by simpa [ThereB] using I2.out.2⟩⟩
          case round =>
            obtain ⟨b, j, rfl, rfl, hj, I3⟩ := hrel
            have lw := World.block_lt_of_cell? wi _ l0
            have l0' := (I3.out.1.cell (p := ⟨lb, lo + kk, none⟩) lw).trans l0
            by_cases hlt3 : j < x.n
            · obtain ⟨qb, qo, q, hqa, hq, q0, q1, q2⟩ := pts_src ((XO.out.1.1.ext ((HXW.out.trans hx4.out).trans I2.out.1)).ext I3.out.1) hlt3
              have hways := pt_ways q p (fun ht => PB.out x q (List.mem_of_getElem? XI.out) (List.mem_of_getElem? hq) ht)
              have HT3 := Lib.hid (take_snoc' hq)
              clear hq
              have hpw : pb < wo.heap.size := hp0
              have p0' := ((I2.out.1.trans I3.out.1).cell (p := ⟨pb, po + k * 3, none⟩) hpw).trans p0
              have p1' := ((I2.out.1.trans I3.out.1).cell (p := ⟨pb, po + k * 3 + 1, none⟩) hpw).trans p1
              have p2' := ((I2.out.1.trans I3.out.1).cell (p := ⟨pb, po + k * 3 + 2, none⟩) hpw).trans p2
              rw [hqa] at l0'
              cases b
              · rcases hways with rfl | hw1 | ⟨hw1, hw2, hw3⟩ | ⟨hw1, hw2, hw3⟩
                · go_wp2_with fail
                  go_quiet (fail)
                  go_wp2_with fail
                  go_quiet (fail)
                  go_wp2_with fail
                  go_roundw
                  case rel => exact ⟨true, j + 1, rfl, by go_num, by omega, Lib.hid ⟨I3.out.1.drewN' _, by rw [HT3.out]; exact ⟨fun _ => .inr (List.mem_append_right _ (by simp)), fun _ => rfl⟩⟩⟩
                  case measure => simp [intOf]; omega
                · have hb1 : (q.t == p.t) = false := beq_eq_false_iff_ne.2 hw1
                  have HNE : Hid (q ≠ p) := Lib.hid (fun e => hw1 (by rw [e]))
                  clear hw1
                  go_wp2_with fail
                  go_quiet (fail)
                  go_wp2_with fail
                  go_quiet (fail)
                  go_wp2_with fail
                  go_roundw
                  case rel => exact ⟨false, j + 1, rfl, by go_num, by omega, Lib.hid ⟨I3.out.1.drewN' _, by { rw [HT3.out]; refine ⟨fun h => (by cases h), fun h => I3.out.2.2 (h.imp id (fun h => ?_))⟩; rcases List.mem_append.1 h with h | h; { exact h }; { simp at h; exact absurd h.symm HNE.out } }⟩⟩
                  case measure => simp [intOf]; omega
                · have hb1 : (q.v == p.v) = false := beq_eq_false_iff_ne.2 hw2
                  have hb3 : (q.t == p.t) = true := beq_iff_eq.2 hw1
                  have hb4 : ¬ p.s < q.s := by omega
                  have HNE : Hid (q ≠ p) := Lib.hid (fun e => hw2 (by rw [e]))
                  clear hw1 hw2 hw3
                  go_wp2_with fail
                  go_quiet (fail)
                  go_wp2_with fail
                  go_quiet (fail)
                  go_wp2_with fail
                  go_roundw
                  case rel => exact ⟨false, j + 1, rfl, by go_num, by omega, Lib.hid ⟨I3.out.1.drewN' _, by { rw [HT3.out]; refine ⟨fun h => (by cases h), fun h => I3.out.2.2 (h.imp id (fun h => ?_))⟩; rcases List.mem_append.1 h with h | h; { exact h }; { simp at h; exact absurd h.symm HNE.out } }⟩⟩
                  case measure => simp [intOf]; omega
                · have hb1 : (q.s == p.s) = false := beq_eq_false_iff_ne.2 (by omega)
                  have hb3 : (q.t == p.t) = true := beq_iff_eq.2 hw1
                  have hb5 : (q.v == p.v) = true := beq_iff_eq.2 hw2
                  have hb4 : ¬ p.s < q.s := by omega
                  have HNE : Hid (q ≠ p) := Lib.hid (fun e => by rw [e] at hw3; omega)
                  clear hw1 hw2 hw3
                  go_wp2_with fail
                  go_quiet (fail)
                  go_wp2_with fail
                  go_quiet (fail)
                  go_wp2_with fail
                  go_roundw
                  case rel => exact ⟨false, j + 1, rfl, by go_num, by omega, Lib.hid ⟨I3.out.1.drewN' _, by { rw [HT3.out]; refine ⟨fun h => (by cases h), fun h => I3.out.2.2 (h.imp id (fun h => ?_))⟩; rcases List.mem_append.1 h with h | h; { exact h }; { simp at h; exact absurd h.symm HNE.out } }⟩⟩
                  case measure => simp [intOf]; omega
              · rcases hways with rfl | hw1 | ⟨hw1, hw2, hw3⟩ | ⟨hw1, hw2, hw3⟩
                · go_wp2_with fail
                  go_quiet (fail)
                  go_wp2_with fail
                  go_quiet (fail)
                  go_wp2_with fail
                  go_roundw
                  case rel => exact ⟨true, j + 1, rfl, by go_num, by omega, Lib.hid ⟨I3.out.1.drewN' _, by rw [HT3.out]; exact ⟨fun _ => (I3.out.2.1 rfl).imp id (fun h => List.mem_append_left _ h), fun _ => rfl⟩⟩⟩
                  case measure => simp [intOf]; omega
                · have hb1 : (q.t == p.t) = false := beq_eq_false_iff_ne.2 hw1
                  have HNE : Hid (q ≠ p) := Lib.hid (fun e => hw1 (by rw [e]))
                  clear hw1
                  go_wp2_with fail
                  go_quiet (fail)
                  go_wp2_with fail
                  go_quiet (fail)
                  go_wp2_with fail
                  go_roundw
                  case rel => exact ⟨true, j + 1, rfl, by go_num, by omega, Lib.hid ⟨I3.out.1.drewN' _, by rw [HT3.out]; exact ⟨fun _ => (I3.out.2.1 rfl).imp id (fun h => List.mem_append_left _ h), fun _ => rfl⟩⟩⟩
                  case measure => simp [intOf]; omega
                · have hb1 : (q.v == p.v) = false := beq_eq_false_iff_ne.2 hw2
                  have hb3 : (q.t == p.t) = true := beq_iff_eq.2 hw1
                  have hb4 : ¬ p.s < q.s := by omega
                  have HNE : Hid (q ≠ p) := Lib.hid (fun e => hw2 (by rw [e]))
                  clear hw1 hw2 hw3
                  go_wp2_with fail
                  go_quiet (fail)
                  go_wp2_with fail
                  go_quiet (fail)
                  go_wp2_with fail
                  go_roundw
                  case rel => exact ⟨true, j + 1, rfl, by go_num, by omega, Lib.hid ⟨I3.out.1.drewN' _, by rw [HT3.out]; exact ⟨fun _ => (I3.out.2.1 rfl).imp id (fun h => List.mem_append_left _ h), fun _ => rfl⟩⟩⟩
                  case measure => simp [intOf]; omega
                · have hb1 : (q.s == p.s) = false := beq_eq_false_iff_ne.2 (by omega)
                  have hb3 : (q.t == p.t) = true := beq_iff_eq.2 hw1
                  have hb5 : (q.v == p.v) = true := beq_iff_eq.2 hw2
                  have hb4 : ¬ p.s < q.s := by omega
                  have HNE : Hid (q ≠ p) := Lib.hid (fun e => by rw [e] at hw3; omega)
                  clear hw1 hw2 hw3
                  go_wp2_with fail
                  go_quiet (fail)
                  go_wp2_with fail
                  go_quiet (fail)
                  go_wp2_with fail
                  go_roundw
                  case rel => exact ⟨true, j + 1, rfl, by go_num, by omega, Lib.hid ⟨I3.out.1.drewN' _, by rw [HT3.out]; exact ⟨fun _ => (I3.out.2.1 rfl).imp id (fun h => List.mem_append_left _ h), fun _ => rfl⟩⟩⟩
                  case measure => simp [intOf]; omega
            · have HF : Hid (x.l.take j = x.l) := Lib.hid (List.take_of_length_le (by have := src_len XO.out.1.1; omega))
              go_wp2_with fail
              go_roundw
              case rel =>
                refine ⟨_, _, _, ⟨b, kk + 1, rfl, by go_num, by omega, Lib.hid ⟨I2.out.1.trans I3.out.1, ?_⟩⟩, rfl, rfl, rfl⟩
                have hI := I3.out.2
                unfold ThereB at hI ⊢
                rw [HT2.out, hI, HF.out]
                constructor
                · rintro (⟨y, hy, hp⟩ | hp)
                  · exact ⟨y, List.mem_append_left _ hy, hp⟩
                  · exact ⟨x, List.mem_append_right _ (by simp), hp⟩
                · rintro ⟨y, hy, hp⟩
                  rcases List.mem_append.1 hy with hy | hy
                  · exact .inl ⟨y, hy, hp⟩
                  · simp at hy; subst hy; exact .inr hp
              case measure => simp [intOf]; omega
        · have hbt : b = true := I2.out.2.2 (by
            have : ls.take kk = ls := List.take_of_length_le (by rw [HLn.out]; omega)
            rw [this]; exact PT.out)
          subst hbt
          have hp0 := World.block_lt_of_cell? wo _ p0
          replace p0 := (I2.out.1.cell (p := ⟨pb, po + k * 3, none⟩) hp0).trans p0
          go_wp2_with fail
          rcases Nat.eq_zero_or_pos k with rfl | hk0
          · go_quiet (fail)
            go_wp2_with fail
            go_roundw
            case rel =>
              (repeat apply Exists.intro)
              refine ⟨?rl, ?eqs⟩
              case eqs => (repeat (first | rfl | refine ⟨rfl, ?_⟩))
              case rl => exact ⟨1, by go_num, by omega, Lib.hid ((hx4.out.trans I2.out.1).drewN' _)⟩
            case measure => simp [intOf]; omega
          · obtain ⟨j, rfl⟩ : ∃ j, k = j + 1 := ⟨k - 1, by omega⟩
            obtain ⟨qb, qo, q, hqa, hq, q0, _, _⟩ := pts_src (ROW.out.ext (hx4.out.trans I2.out.1)) (show j < out.length by omega)
            have hle : ¬ p.t ≤ q.t := by have := MG.out.rises.at hq HP.out (by omega); omega
            simp at hqa
            obtain ⟨rfl, rfl⟩ := hqa
            clear hq
            go_quiet (fail)
            go_wp2_with fail
            go_roundw
            case rel =>
              (repeat apply Exists.intro)
              refine ⟨?rl, ?eqs⟩
              case eqs => (repeat (first | rfl | refine ⟨rfl, ?_⟩))
              case rl => exact ⟨j + 1 + 1, by go_num, by omega, Lib.hid ((hx4.out.trans I2.out.1).drewN' _)⟩
            case measure => simp [intOf]; omega
    · have HX5 := Lib.hid (HXW.out.trans hx4.out)
      obtain ⟨wb, rfl⟩ : ∃ wb : World, wb = wr := ⟨_, rfl⟩
      go_wp2_with fail
      go_loopw [11] (fun i wr => ∃ kk : Nat, i = .int .i64 kk ∧ kk ≤ n ∧ Hid (Ext wb wr)) (fun i _ => n - (intOf i).toNat)
      case atStart => exact ⟨0, rfl, by omega, Lib.hid (Ext.refl _)⟩
      case round =>
        obtain ⟨kk, rfl, hkk, I2⟩ := hrel
        by_cases hlt2 : kk < n
        · obtain ⟨lb, lo, x, rfl, hxi, l0⟩ := lists_src (HS.out.ext (HX5.out.trans I2.out)) hlt2
          have XI := Lib.hid hxi
          have XO := Lib.hid (HO.out x (List.mem_of_getElem? hxi))
          have hxn : x.n < 2000 := by
            have h1 := le_totS (List.mem_of_getElem? hxi)
            have h2 := src_len (HO.out x (List.mem_of_getElem? hxi)).1.1
            omega
          clear hxi
          have lw := World.block_lt_of_cell? wr _ l0
          obtain ⟨wi, rfl⟩ : ∃ wi : World, wi = wr := ⟨_, rfl⟩
          go_wp2_with fail
          go_loopw [12] (fun s12 wr => ∃ (j : Nat), s12 = .int .i64 j ∧ j ≤ x.n ∧ Hid (Ext wi wr)) (fun s12 _ => x.n - (intOf s12).toNat)
          case atStart => exact ⟨0, rfl, by omega, Lib.hid (Ext.refl _)⟩
          case round =>
            obtain ⟨j, rfl, hj, I3⟩ := hrel
            have l1 := (I3.out.cell (p := ⟨lb, lo + kk, none⟩) lw).trans l0
            by_cases hlt3 : j < x.n
            · obtain ⟨qb, qo, q, hqa, hq, q0, _, _⟩ := pts_src ((XO.out.1.1.ext (HX5.out.trans I2.out)).ext I3.out) hlt3
              obtain ⟨pm, hpm, hpt⟩ := MG.out.has kk x.l q (by simp [XI.out]) (List.mem_of_getElem? hq)
              obtain ⟨m, hm⟩ := List.mem_iff_getElem?.1 hpm
              have hml : m < out.length := (List.getElem?_eq_some_iff.1 hm).1
              have PM := Lib.hid hm
              have HPT := Lib.hid hpt
              rw [hqa] at l1
              clear hq hm hpt hpm
              obtain ⟨wj, rfl⟩ : ∃ wj : World, wj = wr := ⟨_, rfl⟩
              have lw3 := World.block_lt_of_cell? wj _ l1
              have qw := World.block_lt_of_cell? wj _ q0
              go_wp2_with fail
              go_loopw [13] (fun s13 wr => ∃ (t : Nat), s13 = .int .i64 t ∧ t ≤ m ∧ Hid (Ext wj wr)) (fun s13 _ => m - (intOf s13).toNat)
              case atStart => exact ⟨0, rfl, by omega, Lib.hid (Ext.refl _)⟩
              case round =>
                obtain ⟨t, rfl, ht, I4⟩ := hrel
                obtain ⟨pb, po, p, rfl, hp, p0, _, _⟩ := pts_src (ROW.out.ext (((hx4.out.trans I2.out).trans I3.out).trans I4.out)) (show t < out.length by omega)
                have l2 := (I4.out.cell (p := ⟨lb, lo + kk, none⟩) lw3).trans l1
                have q2 := (I4.out.cell (p := ⟨qb, qo + j * 3, none⟩) qw).trans q0
                have htl : t < out.length := by omega
                by_cases htm : t < m
                · have hlt4 : p.t < q.t := by have := MG.out.rises.at hp PM.out htm; have := HPT.out; omega
                  clear hp
                  go_wp2_with fail
                  go_quiet (fail)
                  go_wp2_with fail
                  go_roundw
                  case rel => exact ⟨t + 1, by go_num, by omega, Lib.hid (I4.out.drewN' _)⟩
                  case measure => simp [intOf]; omega
                · obtain rfl : t = m := by omega
                  have heq : p.t = q.t := by rw [PM.out] at hp; cases hp; exact HPT.out
                  have hlt4 : ¬ p.t < q.t := by omega
                  have hb0 : ((t : Int) == (out.length : Int)) = false := by rw [beq_eq_false_iff_ne]; omega
                  have hb1 : (p.t != q.t) = false := by simp [heq]
                  clear hp heq
                  go_wp2_with fail
                  go_quiet (fail)
                  go_wp2_with fail
                  go_quiet (fail)
                  go_wp2_with fail
                  go_roundw
                  case rel => exact ⟨j + 1, by go_num, by omega, Lib.hid ((I3.out.trans I4.out).drewN' _)⟩
                  case measure => simp [intOf]; omega
            · go_wp2_with fail
              go_roundw
              case rel =>
                (repeat apply Exists.intro)
                refine ⟨?rl, ?eqs⟩
                case eqs => (repeat (first | rfl | refine ⟨rfl, ?_⟩))
                case rl => exact ⟨kk + 1, by go_num, by omega, Lib.hid (I2.out.trans I3.out)⟩
              case measure => simp [intOf]; omega
        · go_wp2_with fail
          go_ret
          exact ⟨rfl, HX5.out.trans I2.out⟩

end Go.Proofs.Ytlgdfiapljmojaa
