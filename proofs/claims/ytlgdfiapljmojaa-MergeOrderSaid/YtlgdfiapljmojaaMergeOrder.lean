/- MergeOrder: the walk. -/
import Derived.Test.YtlgdfiapljmojaaMergeOrder0
namespace Go.Proofs.Ytlgdfiapljmojaa
open Go.RowKit Go.Sort Go.Lib

def Rel1 (w : World) (n : Nat) (ls : List Sl) (s5 s7 s8 : Value) (wr : World) : Prop := ∃ (k q : Nat) (pa : Option Addr) (pc : Nat) (L : List Sl), s5 = .slice pa k pc ∧ s7 = .int .i64 q ∧ s8 = .int .i64 k ∧ k ≤ n ∧ q ≤ totS ls ∧
  Hid (L.length = k ∧ OwnLists w wr (.slice pa k pc) L ∧ Numbered (L.map Sl.l).flatten ∧ (L.map Sl.l).flatten.length = q ∧ q = totS (ls.take k))
def Rel2' (wi : World) (x : Sl) (q0 : Nat) (F : List Pt) (s7 s9 s10 : Value) (wr : World) : Prop := ∃ (j : Nat) (ka : Option Addr) (kc : Nat) (M : List Pt), s7 = .int .i64 ((q0 + j : Nat) : Int) ∧ s9 = .slice ka j kc ∧ s10 = .int .i64 j ∧ j ≤ x.n ∧
  Hid (M.length = j ∧ CutTo wi M (.slice ka j kc) wr ∧ Numbered (F ++ M))
def Rel3' (w5 : World) (n : Nat) (L : List Sl) (s6 s11 : Value) (wr : World) : Prop := ∃ (i m : Nat) (ba : Option Addr) (bc : Nat), s6 = .slice ba m bc ∧ s11 = .int .i64 ((i : Int) - 1) ∧ i + m = n ∧
  Hid (OwnLists w5 wr (.slice ba m bc) (L.drop i).reverse)

set_option maxHeartbeats 16000000 in
set_option maxRecDepth 100000 in
theorem mergeOrder_any (w : World) (a : Option Addr) (n c : Nat) (ls : List Sl) (cut : Int) (hs : Src w 1 (.slice a n c) n (ls.map Sl.v)) (hok : ∀ x ∈ ls, x.Ok w ∧ x.n ≤ 1099511627776000) (hn : n ≤ 1099511627776000) :
    Calls Try.prog 3 #[.slice a n c, .int .i64 cut] w fun e w' => e = .returned (.bool true) ∧ Ext w w' := by
  have HS := Lib.hid hs
  have HO := Lib.hid hok
  have HLn := Lib.hid (lists_len hs)
  go_enter Try.func3, Try.ntmps3
  go_wp2_with fail
  refine (few_any w a n c ls hs hok hn).mono ?_
  rintro e w0 ⟨b, rfl, rfl, hb⟩
  clear hs hok
  cases b
  · go_wp2_with fail
    go_ret
    exact ⟨rfl, Ext.refl _⟩
  replace hb := hb rfl
  go_wp2_with fail
  go_loopw [5, 7, 8] (fun s5 s7 s8 wr => Rel1 w n ls s5 s7 s8 wr) (fun _ _ s8 _ => n - (intOf s8).toNat)
  case atStart => exact ⟨0, 0, none, 0, [], rfl, rfl, rfl, by omega, by omega, Lib.hid ⟨rfl, OwnLists.nil _, Numbered.nil, rfl, by simp [totS]⟩⟩
  case round =>
    obtain ⟨k, q, pa, pc, L, rfl, rfl, rfl, hk, hq, I⟩ := hrel
    by_cases hlt : k < n
    · obtain ⟨lb, lo, x, rfl, hxi, l0⟩ := lists_src (HS.out.ext I.out.2.1.ext) hlt
      have HT := Lib.hid (take_snoc' hxi)
      have XO := Lib.hid ((HO.out x (List.mem_of_getElem? hxi)).1.ext I.out.2.1.ext)
      have HXL := Lib.hid (src_len XO.out.1)
      have hxn : x.n < 2000 := by
        have h1 := le_totS (List.mem_of_getElem? hxi)
        have h2 := HXL.out
        omega
      have hqx : q + x.n ≤ totS ls := by
        have h1 := totS_take_le ls (k + 1)
        rw [HT.out, totS_append] at h1
        have h2 := HXL.out
        have h3 := I.out.2.2.2.2
        simp [totS] at h1 h3 ⊢
        omega
      clear hxi
      have lw := World.block_lt_of_cell? wr _ l0
      obtain ⟨wi, rfl⟩ : ∃ wi : World, wi = wr := ⟨_, rfl⟩
      go_wp2_with fail
      go_loopw [7, 9, 10] (fun s7 s9 s10 wr => Rel2' wi x q (L.map Sl.l).flatten s7 s9 s10 wr) (fun _ _ s10 _ => x.n - (intOf s10).toNat)
      case atStart => exact ⟨0, none, 0, [], rfl, rfl, rfl, by omega, Lib.hid ⟨rfl, CutTo.nil _, by simpa using I.out.2.2.1⟩⟩
      case round =>
        obtain ⟨j, ka, kc, M, rfl, rfl, rfl, hj, J⟩ := hrel
        have l1 := (J.out.2.1.ext.cell (p := ⟨lb, lo + k, none⟩) lw).trans l0
        by_cases hlt2 : j < x.n
        · obtain ⟨qb, qo, p, hqa, hp, p0, p1, p2⟩ := pts_src (XO.out.1.ext J.out.2.1.ext) hlt2
          rw [hqa] at l1
          clear hp p2
          have hqj : q + j + 1 < 4000 := by omega
          obtain ⟨z, hz⟩ : ∃ z : Nat, z = q + j := ⟨_, rfl⟩
          rw [← hz]
          have HZ := Lib.hid hz
          have hz4 : z < 4000 := by omega
          clear hz
          have e1 : IntKind.i64.wrap (((z : Int) + 1) * 7) = ((z : Int) + 1) * 7 := IntWalk.i64_in _ (by omega)
          go_wp2_with fail
          refine wp_region_split_lit [0] [1, 2, 3, 4, 5, 6, 7, 8, 9, 10, 11, 12, 13, 14, 15, 16, 17, 18, 19, 20] [21, 22, 23] (by kernel_rfl) (by kernel_rfl) (fun _ _ dd _ _ hh => by cases dd <;> exact hh) ?_
          simp only [pickOps, List.getElem?_cons_succ, List.getElem?_cons_zero]
          repeat (go_big_quiet_step (fail))
          refine wpQuiet_nil ?_
          repeat (go_big_quiet_step (fail))
          refine wpQuiet_nil ?_
          intro w4 hw'
          have HX4 : Hid (Ext wr w4) := Lib.hid (by obtain ⟨q, rfl⟩ := hw'; exact Ext.drewN _ _)
          clear hw' p0 p1 l1 e1
          go_wp2_with (at_builtin; go_must (refine wpList_append_to (n := M.length) (m := 1) elem_pt rfl _ _ rfl (v := .slice _ _ _) rfl rfl ((J.out.2.1.row.ext HX4.out).alloc _) (src_pt' (p := ⟨p.t, p.v, ((z : Int) + 1) * 7 % 1009⟩) (heap_alloc_new _ _)) (by unfold maxLen; have := J.out.1; omega) (by have := J.out.1; omega) ?_; intro v' w6 happ); have K := Lib.hid (J.out.2.1.snoc (HX4.out.alloc _) happ); obtain ⟨ka', kc', rfl⟩ := happ.row.shape; clear happ)
          go_roundw
          case rel =>
            refine ⟨j + 1, ka', kc', M ++ [⟨p.t, p.v, ((z : Int) + 1) * 7 % 1009⟩], by rw [show q + (j + 1) = z + 1 by have := HZ.out; omega]; go_num, by rw [J.out.1], by go_num, by omega, Lib.hid ⟨by simp [J.out.1], by have := K.out; rw [J.out.1] at this; exact this, ?_⟩⟩
            rw [← List.append_assoc]
            refine J.out.2.2.snoc ?_
            have h1 := I.out.2.2.2.1
            have h2 := J.out.1
            have h3 := HZ.out
            rw [List.length_append, h1, h2, ← h3]
          case measure => simp [intOf]; omega
        · obtain rfl : j = x.n := by omega
          have YO := Lib.hid J.out.2.1.ok.2
          have hml := J.out.1
          have HML := Lib.hid hml
          clear hml
          go_wp2_with (at_builtin; go_must (refine wpList_append_to (n := L.length) (m := 1) elem_lists rfl _ _ rfl (v := .slice _ _ _) rfl rfl ((I.out.2.1.row.ext J.out.2.1.ext).alloc _) (src_slice (x := ⟨ka, x.n, kc, M⟩) (heap_alloc_new _ _)) (by unfold maxLen; have := I.out.1; omega) (by have := I.out.1; omega) ?_; intro v' w6 happ); have K := Lib.hid (I.out.2.1.snoc (x := ⟨ka, x.n, kc, M⟩) (J.out.2.1.ext.alloc _) (YO.out.ext ((Ext.refl _).alloc _)) (fun _ g hg e => by { have h1 := J.out.2.1.own g hg; have h2 := I.out.2.1.row.lt e; omega }) happ); obtain ⟨pa', pc', rfl⟩ := happ.row.shape; clear happ)
          go_roundw
          case rel =>
            have hc : L.length = k := I.out.1
            refine ⟨k + 1, q + x.n, pa', pc', L ++ [⟨ka, x.n, kc, M⟩], by rw [hc], by go_num, by go_num, by omega, hqx, Lib.hid ⟨by simp [hc], by have := K.out; rw [hc] at this; exact this, ?_, ?_, ?_⟩⟩
            · simpa using J.out.2.2
            · have h1 := I.out.2.2.2.1
              have h2 := HML.out
              rw [List.map_append, List.flatten_append, List.length_append, h1]; simp [h2]
            · have h1 := I.out.2.2.2.2
              have h2 := HXL.out
              rw [HT.out, totS_append, ← h1]; simp [totS, h2]
          case measure => simp [intOf]; omega
    · obtain rfl : k = n := by omega
      have hall : ls.take k = ls := List.take_of_length_le (by rw [HLn.out]; exact Nat.le_refl _)
      have OL := Lib.hid I.out.2.1
      have NM := Lib.hid I.out.2.2.1
      have FL := Lib.hid I.out.2.2.2.1
      have HLk := Lib.hid I.out.1
      have hTL : totS L = q := by rw [← totS_map, ← flat_len]; exact I.out.2.2.2.1
      have HTL := Lib.hid hTL
      clear I hall hTL
      by_cases hq1 : 1000 < q
      · go_wp2_with fail
        go_ret
        exact ⟨rfl, OL.out.ext⟩
      obtain ⟨w5, rfl⟩ : ∃ w5 : World, w5 = wr := ⟨_, rfl⟩
      go_wp2_with fail
      go_loopw [6, 11] (fun s6 s11 wr => Rel3' w5 k L s6 s11 wr) (fun _ s11 _ => (intOf s11 + 1).toNat)
      case atStart =>
        refine ⟨k, 0, none, 0, rfl, rfl, by omega, Lib.hid ?_⟩
        rw [List.drop_of_length_le (by rw [HLk.out]; exact Nat.le_refl _)]
        exact OwnLists.nil _
      case round =>
        obtain ⟨i, m, ba, bc, rfl, rfl, him, B⟩ := hrel
        rcases Nat.eq_zero_or_pos i with rfl | hi0
        · obtain rfl : m = k := by omega
          have hB : Hid (OwnLists w5 wr (.slice ba m bc) L.reverse) := Lib.hid (by have := B.out; simpa using this)
          clear B him
          have hTq : totS L ≤ 1000 := by have := HTL.out; omega
          have hTr : totS L.reverse = totS L := by rw [← totS_map, ← totS_map]; exact ((List.reverse_perm L).map _ |>.map _).sum_nat
          have HTR := Lib.hid hTr; clear hTr
          have hsrcO := OL.out.src
          rw [HLk.out] at hsrcO
          have SO := Lib.hid hsrcO
          have hsrcB := hB.out.src
          rw [List.length_reverse, HLk.out] at hsrcB
          have SB := Lib.hid hsrcB
          clear hsrcO hsrcB
          go_wp2_with fail
          refine (merge_any wr pa m pc L (SO.out.ext hB.out.ext) (fun x hx => (OL.out.ok x hx).1.ext hB.out.ext) (by omega)).mono ?_
          rintro e w6 hM0
          obtain ⟨hx6, va, vn, vc, ve, rfl, hM⟩ := hM0.parts
          clear hM0
          have HX6 := Lib.hid hx6; have HM := Lib.hid hM; clear hx6 hM
          go_wp2_with fail
          refine (merge_any w6 ba m bc L.reverse (SB.out.ext HX6.out) (fun x hx => (hB.out.ok x hx).1.ext HX6.out) (by have := HTR.out; omega)).mono ?_
          rintro e w7 hM0
          obtain ⟨hx7, ua, un, uc, ue, rfl, hM⟩ := hM0.parts
          clear hM0
          have HX7 := Lib.hid hx7; have HN := Lib.hid hM; clear hx7 hM
          have hmem : ∀ l, l ∈ L.map Sl.l ↔ l ∈ L.reverse.map Sl.l := fun l => by simp
          obtain ⟨out, EQ⟩ : ∃ out : List Pt, Hid (ve = ue ∧ vn = out.length ∧ un = out.length ∧ Src w7 3 (.slice va out.length vc) out.length (pts out) ∧ Src w7 3 (.slice ua out.length uc) out.length (pts out) ∧ out.length < 4000 ∧
              ((ve = 0 ∧ (∀ l ∈ L.map Sl.l, Rises l) ∧ IsMerge (L.map Sl.l) out) ∨ (ve = 2 ∧ out = []))) := by
            rcases HM.out with ⟨e1, hr, o1, e2, r1, _, m1, l1⟩ | ⟨e1, e2, e3, e4, hnr⟩
            · rcases HN.out with ⟨f1, _, o2, f2, r2, _, m2, l2⟩ | ⟨_, _, _, _, hnr⟩
              · have he : o1 = o2 := order_same NM.out (by rw [FL.out]; omega) hmem m1 m2
                subst he
                refine ⟨o1, Lib.hid ⟨by rw [e1, f1], e2, f2, (row_src r1).ext HX7.out, row_src r2, ?_, .inl ⟨e1, hr, m1⟩⟩⟩
                rw [totS_map] at l1; omega
              · exact absurd (fun l hl => hr l ((hmem l).2 hl)) hnr
            · rcases HN.out with ⟨_, hr, _⟩ | ⟨f1, f2, f3, f4, _⟩
              · exact absurd (fun l hl => hr l ((hmem l).1 hl)) hnr
              · subst e2 e3 e4 f2 f3 f4
                exact ⟨[], Lib.hid ⟨by rw [e1, f1], rfl, rfl, .inl ⟨rfl, rfl, rfl⟩, .inl ⟨rfl, rfl, rfl⟩, by simp, .inr ⟨e1, rfl⟩⟩⟩
          obtain ⟨h1, h2, h3, h4, h5, h6, h7⟩ := EQ.out
          subst h1 h2 h3
          have S1 := Lib.hid h4; have S2 := Lib.hid h5; have G := Lib.hid h7
          clear h4 h5 h7 EQ HM HN
          go_wp2_with fail
          refine (same_any w7 va ua out.length vc out.length uc out out S1.out S2.out (by omega) (by omega)).mono ?_
          rintro e w8 ⟨rfl, hx8⟩
          have HX8 := Lib.hid hx8; clear hx8
          rw [decide_eq_true (rfl : out = out)]
          go_wp2_with fail
          generalize hW9 : World.alloc _ _ = W9
          have HX9 : Hid (Ext w8 W9) := Lib.hid (by subst hW9; exact (((Ext.refl w8).alloc _).alloc _).alloc _)
          have b0 : W9.heap[w8.heap.size]? = some (.cells #[.int .i64 1, .int .i64 7, .int .i64 2] 26 (0, 0)) := by
            subst hW9
            have h1 := heap_alloc_new w8 (.cells #[.int .i64 1, .int .i64 7, .int .i64 2] 26 (0, 0))
            have hx := ((Ext.refl (w8.alloc (.cells #[.int .i64 1, .int .i64 7, .int .i64 2] 26 (0, 0)))).alloc (.cells #[.int .i64 1, .int .i64 0, .int .i64 1] 26 (0, 0))).alloc (.cells #[.slice (some ⟨w8.heap.size, 0, none⟩) 1 1, .slice (some ⟨w8.heap.size + 1, 0, none⟩) 1 1] 24 (0, 0))
            rw [hx.block (block_lt h1)]; exact h1
          have b1 : W9.heap[w8.heap.size + 1]? = some (.cells #[.int .i64 1, .int .i64 0, .int .i64 1] 26 (0, 0)) := by
            subst hW9
            have h1 := heap_alloc2 w8 (.cells #[.int .i64 1, .int .i64 7, .int .i64 2] 26 (0, 0)) (.cells #[.int .i64 1, .int .i64 0, .int .i64 1] 26 (0, 0))
            have hx := (Ext.refl ((w8.alloc (.cells #[.int .i64 1, .int .i64 7, .int .i64 2] 26 (0, 0))).alloc (.cells #[.int .i64 1, .int .i64 0, .int .i64 1] 26 (0, 0)))).alloc (.cells #[.slice (some ⟨w8.heap.size, 0, none⟩) 1 1, .slice (some ⟨w8.heap.size + 1, 0, none⟩) 1 1] 24 (0, 0))
            rw [hx.block (block_lt h1)]; exact h1
          have c0 : W9.cell? ⟨w8.heap.size + 1 + 1, 0, none⟩ = some (.slice (some ⟨w8.heap.size, 0, none⟩) 1 1) := by subst hW9; simp [go_sem]
          have c1 : W9.cell? ⟨w8.heap.size + 1 + 1, 1, none⟩ = some (.slice (some ⟨w8.heap.size + 1, 0, none⟩) 1 1) := by subst hW9; simp [go_sem]
          have S9 : Hid (Src W9 1 (.slice (some ⟨w8.heap.size + 1 + 1, 0, none⟩) 2 2) 2 ([(⟨some ⟨w8.heap.size, 0, none⟩, 1, 1, [⟨1, 7, 2⟩]⟩ : Sl), ⟨some ⟨w8.heap.size + 1, 0, none⟩, 1, 1, [⟨1, 0, 1⟩]⟩].map Sl.v)) := Lib.hid (by
            refine .inr ⟨_, _, rfl, rfl, fun j u hj => ?_, vs_one _⟩
            rw [Go.WideShapes.add_plain, Nat.zero_add]
            match j, hj with
            | 0, hj => simp at hj; subst hj; exact c0
            | 1, hj => simp at hj; subst hj; exact c1
            | j + 2, hj => simp at hj)
          have O9a : Hid (Sl.Ok W9 ⟨some ⟨w8.heap.size, 0, none⟩, 1, 1, [⟨1, 7, 2⟩]⟩) := Lib.hid ⟨src_pt' (p := ⟨1, 7, 2⟩) b0, Nat.le_refl _⟩
          have O9b : Hid (Sl.Ok W9 ⟨some ⟨w8.heap.size + 1, 0, none⟩, 1, 1, [⟨1, 0, 1⟩]⟩) := Lib.hid ⟨src_pt' (p := ⟨1, 0, 1⟩) b1, Nat.le_refl _⟩
          clear hW9 b0 b1 c0 c1
          refine (merge_any W9 _ 2 2 [⟨some ⟨w8.heap.size, 0, none⟩, 1, 1, [⟨1, 7, 2⟩]⟩, ⟨some ⟨w8.heap.size + 1, 0, none⟩, 1, 1, [⟨1, 0, 1⟩]⟩] S9.out (fun x hx => by { simp at hx; rcases hx with rfl | rfl; { exact O9a.out }; { exact O9b.out } }) (by simp [totS])).mono ?_
          rintro e w10 hM0
          obtain ⟨hx10, oa, on, oc, oe, rfl, hM⟩ := hM0.parts
          clear hM0
          rcases hM with ⟨rfl, ha1, o1, rfl, r1, ha2, m1, ha3⟩ | ⟨_, _, _, _, hnr⟩
          case inr => exact absurd (by simp [Rises]) hnr
          have ho1 := one_best o1 m1
          subst ho1
          obtain ⟨ob, oo, op, hoa, hop, o6, o7, o8⟩ := pts_src (row_src r1) (show 0 < 1 by omega)
          simp at hop
          subst hop
          simp only [Nat.zero_mul, Nat.add_zero] at o7
          simp only [List.length_cons, List.length_nil, Nat.zero_add] at hoa ⊢
          subst hoa
          have HX10 := Lib.hid (HX9.out.trans hx10)
          clear hx10 r1 m1 S9 O9a O9b o6 o8 ha1 ha2 ha3
          rcases G.out with ⟨rfl, hri, hmg⟩ | ⟨rfl, rfl⟩
          case inr =>
            go_wp2_with fail
            go_ret
            exact ⟨rfl, ((((OL.out.ext.trans hB.out.ext).trans HX6.out).trans HX7.out).trans HX8.out).trans HX10.out⟩
          have RI := Lib.hid hri; have MG := Lib.hid hmg
          clear hri hmg G
          have tr := tmod_range cut m
          obtain ⟨tr1, tr2⟩ := tr
          obtain ⟨t, ht⟩ : ∃ t : Nat, (cut.tmod ((m : Int) + 1) + m + 1) % ((m : Int) + 1) = (t : Int) := ⟨_, (Int.toNat_of_nonneg (cut_range cut m).1).symm⟩
          have htm : t ≤ m := by have := (cut_range cut m).2; omega
          have XR : Hid ((∀ l ∈ (L.take t).map Sl.l, Rises l) ∧ (∀ l ∈ (L.drop t).map Sl.l, Rises l)) := Lib.hid ⟨fun l hl => RI.out l (by obtain ⟨x, h1, h2⟩ := List.mem_map.1 hl; exact List.mem_map.2 ⟨x, List.mem_of_mem_take h1, h2⟩), fun l hl => RI.out l (by obtain ⟨x, h1, h2⟩ := List.mem_map.1 hl; exact List.mem_map.2 ⟨x, List.mem_of_mem_drop h1, h2⟩)⟩
          have HXT := Lib.hid ((((hB.out.ext.trans HX6.out).trans HX7.out).trans HX8.out).trans HX10.out)
          have TT : Hid (totS (L.take t) ≤ 1000 ∧ totS (L.drop t) ≤ 1000) := Lib.hid (by
            have := totS_append (L.take t) (L.drop t)
            rw [List.take_append_drop] at this; omega)
          have hcase : (pa = none ∧ m = 0 ∧ pc = 0 ∧ t = 0) ∨ (∃ g, pa = some ⟨g, 0, none⟩ ∧ m = t ∧ pc = t) ∨ (∃ g, pa = some ⟨g, 0, none⟩ ∧ m ≤ pc ∧ t < pc) := by
            obtain ⟨_, ⟨e, e2⟩ | ⟨g, cap, cur, e, _, _, hnc, _⟩⟩ := OL.out.row
            · simp at e; left; exact ⟨e.1, e.2.1, e.2.2, by omega⟩
            · simp at e
              right
              have := HLk.out
              by_cases hp : pc = t
              · left; exact ⟨g, e.1, by omega, hp⟩
              · right; exact ⟨g, e.1, by omega, by omega⟩
          rcases hcase with ⟨rfl, rfl, rfl, rfl⟩ | ⟨g, rfl, rfl, rfl⟩ | ⟨g, rfl, hmp, htp⟩
          case' inl =>
            have SX : Hid (∀ w', Ext w5 w' → Src w' 1 (.slice none 0 0) 0 ((L.take 0).map Sl.v)) := Lib.hid (fun _ _ => .inl ⟨rfl, rfl, by simp⟩)
            have SY : Hid (∀ w', Ext w5 w' → Src w' 1 (.slice none 0 0) 0 ((L.drop 0).map Sl.v)) := Lib.hid (fun _ hx => by simpa using SO.out.ext hx)
            go_wp2_with fail
          case' inr.inl =>
            have SX : Hid (∀ w', Ext w5 w' → Src w' 1 (.slice (some ⟨g, 0, none⟩) pc pc) pc ((L.take pc).map Sl.v)) := Lib.hid (fun _ hx => by rw [List.take_of_length_le (by rw [HLk.out]; exact Nat.le_refl _)]; exact SO.out.ext hx)
            have SY : Hid (∀ w', Ext w5 w' → Src w' 1 (.slice (some ⟨g, 0, none⟩) 0 0) 0 ((L.drop pc).map Sl.v)) := Lib.hid (fun _ _ => by rw [List.drop_of_length_le (by rw [HLk.out]; exact Nat.le_refl _)]; exact src_none _ _ _)
            go_wp2_with fail
          case' inr.inr =>
            have SX : Hid (∀ w', Ext w5 w' → Src w' 1 (.slice (some ⟨g, 0, none⟩) t pc) t ((L.take t).map Sl.v)) := Lib.hid (fun _ hx => by rw [List.map_take]; exact src_take (SO.out.ext hx) htm (by simp))
            have SY : Hid (∀ w', Ext w5 w' → Src w' 1 (.slice (some ⟨g, t, none⟩) (m - t) (pc - t)) (m - t) ((L.drop t).map Sl.v)) := Lib.hid (fun _ hx => by rw [List.map_drop]; have := src_drop (SO.out.ext hx) htm (pc - t); simpa using this)
            go_wp2_with fail
          all_goals
            refine (merge_any w10 _ _ _ _ (SX.out w10 HXT.out) (fun x hx => (OL.out.ok x (List.mem_of_mem_take hx)).1.ext HXT.out) (by have := TT.out; omega)).mono ?_
            rintro e w11 hM0
            obtain ⟨hx11, xa, xn, xc, xe, rfl, hM⟩ := hM0.parts
            clear hM0
            rcases hM with ⟨rfl, ha1, xo, rfl, rx, ha2, mx, lx⟩ | ⟨_, _, _, _, hnr⟩
            case inr => exact absurd XR.out.1 hnr
            have HX11 := Lib.hid hx11; have RX := Lib.hid rx; have MX := Lib.hid mx
            have hxol : xo.length ≤ 1000 := by rw [totS_map] at lx; have := TT.out; omega
            clear hx11 ha1 ha2 rx mx lx
            go_wp2_with fail
            refine (merge_any w11 _ _ _ _ (SY.out w11 (HXT.out.trans HX11.out)) (fun x hx => (OL.out.ok x (List.mem_of_mem_drop hx)).1.ext (HXT.out.trans HX11.out)) (by have := TT.out; omega)).mono ?_
            rintro e w12 hM0
            obtain ⟨hx12, ya, yn, yc, ye, rfl, hM⟩ := hM0.parts
            clear hM0
            rcases hM with ⟨rfl, ha1, yo, rfl, ry, ha2, my, ly⟩ | ⟨_, _, _, _, hnr⟩
            case inr => exact absurd XR.out.2 hnr
            have HX12 := Lib.hid hx12; have RY := Lib.hid ry; have MY := Lib.hid my
            have hyol : yo.length ≤ 1000 := by rw [totS_map] at ly; have := TT.out; omega
            clear hx12 ha1 ha2 ry my ly
            go_wp2_with fail
            generalize hW13 : World.alloc _ _ = W13
            have HX13 : Hid (Ext w12 W13) := Lib.hid (by subst hW13; exact (Ext.refl w12).alloc _)
            have c0 : W13.cell? ⟨w12.heap.size, 0, none⟩ = some (.slice ya yo.length yc) := by subst hW13; simp [go_sem]
            have c1 : W13.cell? ⟨w12.heap.size, 1, none⟩ = some (.slice xa xo.length xc) := by subst hW13; simp [go_sem]
            have S13 : Hid (Src W13 1 (.slice (some ⟨w12.heap.size, 0, none⟩) 2 2) 2 ([(⟨ya, yo.length, yc, yo⟩ : Sl), ⟨xa, xo.length, xc, xo⟩].map Sl.v)) := Lib.hid (by
              refine .inr ⟨_, _, rfl, rfl, fun j u hj => ?_, vs_one _⟩
              rw [Go.WideShapes.add_plain, Nat.zero_add]
              match j, hj with
              | 0, hj => simp at hj; subst hj; exact c0
              | 1, hj => simp at hj; subst hj; exact c1
              | j + 2, hj => simp at hj)
            clear hW13 c0 c1
            refine (merge_any W13 _ 2 2 [⟨ya, yo.length, yc, yo⟩, ⟨xa, xo.length, xc, xo⟩] S13.out (fun x hx => by { simp at hx; rcases hx with rfl | rfl; { exact (row_ok RY.out).ext HX13.out }; { exact ((row_ok RX.out).ext HX12.out).ext HX13.out } }) (by simp [totS]; omega)).mono ?_
            rintro e w14 hM0
            obtain ⟨hx14, za, zn, zc, ze, rfl, hM⟩ := hM0.parts
            clear hM0
            rcases hM with ⟨rfl, ha1, zo, rfl, rz, ha2, mz, lz⟩ | ⟨_, _, _, _, hnr⟩
            case inr => exact absurd (by simp; exact ⟨MY.out.rises, MX.out.rises⟩) hnr
            have HZ : Hid (zo = out) := Lib.hid (order_groups _ NM.out (by rw [FL.out]; omega) MG.out (by rw [← List.map_take]; exact MX.out) (by rw [← List.map_drop]; exact MY.out) mz)
            have hzl : zo.length < 4000 := by rw [HZ.out]; exact h6
            have HX14 := Lib.hid (HX13.out.trans hx14)
            have RZ := Lib.hid (row_src rz)
            have S1' := Lib.hid (S1.out.ext ((((HX8.out.trans HX10.out).trans HX11.out).trans HX12.out).trans HX14.out))
            have HXF := Lib.hid (((((OL.out.ext.trans HXT.out).trans HX11.out).trans HX12.out)).trans HX14.out)
            clear hx14 ha1 ha2 rz mz lz
            go_wp2_with fail
            refine (same_any w14 za va zo.length zc out.length vc zo out RZ.out S1'.out (by omega) (by omega)).mono ?_
            rintro e w15 ⟨rfl, hx15⟩
            have HX15 := Lib.hid hx15; clear hx15
            have hd : decide (zo = out) = true := decide_eq_true HZ.out
            rw [hd]
            clear hd
            go_wp2_with fail
            go_ret
            exact ⟨rfl, HXF.out.trans HX15.out⟩
        · obtain ⟨j, rfl⟩ : ∃ j, i = j + 1 := ⟨i - 1, by omega⟩
          rw [show (((j + 1 : Nat) : Int) - 1) = (j : Int) by omega]
          have hsrc := OL.out.src
          rw [HLk.out] at hsrc
          obtain ⟨lb, lo, x, rfl, hxi, l0⟩ := lists_src (hsrc.ext B.out.ext) (show j < k by omega)
          have XO := Lib.hid (OL.out.ok x (List.mem_of_getElem? hxi)).1
          have HD : Hid ((L.drop j).reverse = (L.drop (j + 1)).reverse ++ [x]) := Lib.hid (by
            obtain ⟨h1, h2⟩ := List.getElem?_eq_some_iff.1 hxi
            rw [List.drop_eq_getElem_cons h1, h2, List.reverse_cons])
          have HBl : Hid ((L.drop (j + 1)).reverse.length = m) := Lib.hid (by have := HLk.out; simp; omega)
          clear hsrc hxi
          go_wp2_with (at_builtin; go_must (refine wpList_append_to (n := (L.drop (j + 1)).reverse.length) (m := 1) elem_lists rfl _ _ rfl (v := .slice _ _ _) rfl rfl (B.out.row.alloc _) (src_slice (x := x) (heap_alloc_new _ _)) (by unfold maxLen; have := HBl.out; omega) (by have := HBl.out; omega) ?_; intro v' w6 happ); have K := Lib.hid (B.out.snoc (x := x) ((Ext.refl _).alloc _) ((XO.out.ext B.out.ext).ext ((Ext.refl _).alloc _)) (fun h0 g hg e => by { have h1 := XO.out.lt h0 hg; have h2 := B.out.own g e; omega }) happ); obtain ⟨ba', bc', rfl⟩ := happ.row.shape; clear happ)
          go_roundw
          case rel =>
            have hc := HBl.out
            refine ⟨j, m + 1, ba', bc', by rw [show L.length - (j + 1) + 1 = m + 1 by have := HLk.out; omega], rfl, by omega, Lib.hid ?_⟩
            rw [HD.out]
            have := K.out; rw [hc] at this; exact this
          case measure => simp [intOf]

end Go.Proofs.Ytlgdfiapljmojaa
