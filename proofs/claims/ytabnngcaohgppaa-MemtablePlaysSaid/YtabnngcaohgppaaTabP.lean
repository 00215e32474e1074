/- memtable.Table.Put. -/
import Derived.Test.YtabnngcaohgppaaTab
namespace Go.Proofs.Ytabnngcaohgppaa
open Go.RowKit Go.Sort Go.Lib

theorem nodup_len_le {α : Type} [DecidableEq α] : ∀ {a b : List α}, a.Nodup → (∀ x ∈ a, x ∈ b) → a.length ≤ b.length
  | [], _, _, _ => Nat.zero_le _
  | x :: a, b, hn, hs => by
    rw [List.nodup_cons] at hn
    have hx := hs x (by simp)
    have h1 := nodup_len_le (b := b.erase x) hn.2 (fun y hy => (List.mem_erase_of_ne (fun e => hn.1 (by rw [← e]; exact hy))).2 (hs y (by simp [hy])))
    rw [List.length_erase_of_mem hx] at h1
    have := List.length_pos_of_mem hx
    simp; omega

theorem Rises.nodup {l : List Pt} (h : Rises l) : (l.map Pt.t).Nodup := by
  rw [List.nodup_iff_pairwise_ne, List.pairwise_map]
  exact List.Pairwise.imp (fun h => by omega) h

theorem hasL_iff {l : List Pt} {t : Int} : hasL l t = true ↔ t ∈ l.map Pt.t := by
  rw [hasL, List.any_eq_true, List.mem_map]
  constructor
  · rintro ⟨x, h1, h2⟩; exact ⟨x, h1, by simpa using h2⟩
  · rintro ⟨x, h1, h2⟩; exact ⟨x, h1, by simpa using h2⟩

theorem merge_times {l out : List Pt} {p : Pt} (h : IsMerge [l, [p]] out) (t : Int) : t ∈ out.map Pt.t ↔ (t ∈ l.map Pt.t ∨ t = p.t) := by
  constructor
  · intro ht
    obtain ⟨q, hq, rfl⟩ := List.mem_map.1 ht
    obtain ⟨i, m, hi, hm, _⟩ := h.best q hq
    match i, hi with
    | 0, hi => simp at hi; subst hi; exact .inl (List.mem_map.2 ⟨q, hm, rfl⟩)
    | 1, hi => simp at hi; subst hi; simp at hm; subst hm; exact .inr rfl
    | i + 2, hi => simp at hi
  · rintro (ht | rfl)
    · obtain ⟨q, hq, rfl⟩ := List.mem_map.1 ht
      obtain ⟨x, hx, he⟩ := h.has 0 l q rfl hq
      exact List.mem_map.2 ⟨x, hx, he⟩
    · obtain ⟨x, hx, he⟩ := h.has 1 [p] p rfl (by simp)
      exact List.mem_map.2 ⟨x, hx, he⟩

theorem merge_len {l out : List Pt} {p : Pt} (hr : Rises l) (h : IsMerge [l, [p]] out) : out.length = if hasL l p.t then l.length else l.length + 1 := by
  have hm := merge_times h
  have n1 := h.rises.nodup
  have n2 := hr.nodup
  split
  · rename_i hh
    rw [hasL_iff] at hh
    have h1 := nodup_len_le n1 (b := l.map Pt.t) (fun x hx => ((hm x).1 hx).elim id (fun e => e ▸ hh))
    have h2 := nodup_len_le n2 (b := out.map Pt.t) (fun x hx => (hm x).2 (.inl hx))
    simp at h1 h2; omega
  · rename_i hh
    rw [hasL_iff] at hh
    have h1 := nodup_len_le n1 (b := p.t :: l.map Pt.t) (fun x hx => ((hm x).1 hx).elim (List.mem_cons_of_mem _) (fun e => by rw [e]; exact List.mem_cons_self))
    have h2 := nodup_len_le (a := p.t :: l.map Pt.t) (b := out.map Pt.t) (List.nodup_cons.2 ⟨hh, n2⟩) (fun x hx => (hm x).2 ((List.mem_cons.1 hx).elim .inr .inl))
    simp at h1 h2; omega

theorem aput_sum {α β : Type} [DecidableEq α] (f : β → Nat) (T : List (α × β)) (k : α) (s : β) :
    ((aput T k s).map fun p => f p.2).sum + ((aget T k).map f).getD 0 = (T.map fun p => f p.2).sum + f s := by
  induction T with
  | nil => simp [aput, aget]
  | cons q T ih =>
    obtain ⟨a, u⟩ := q
    simp only [aput, aget]
    split
    · simp; omega
    · simp only [List.map_cons, List.sum_cons]; omega
theorem mem_aput {α β : Type} [DecidableEq α] {T : List (α × β)} {k : α} {s : β} {q : α × β} (h : q ∈ aput T k s) : q = (k, s) ∨ q ∈ T := by
  induction T with
  | nil => simp [aput] at h; exact .inl h
  | cons x T ih =>
    obtain ⟨a, u⟩ := x
    simp only [aput] at h
    split at h
    · rename_i e
      subst e
      rcases List.mem_cons.1 h with h | h
      · exact .inl h
      · exact .inr (List.mem_cons_of_mem _ h)
    · rcases List.mem_cons.1 h with h | h
      · exact .inr (by rw [h]; exact List.mem_cons_self)
      · rcases ih h with h | h
        · exact .inl h
        · exact .inr (List.mem_cons_of_mem _ h)
theorem aput_nodup {α β : Type} [DecidableEq α] {T : List (α × β)} {k : α} {s : β} (h : (T.map (·.1)).Nodup) : ((aput T k s).map (·.1)).Nodup := by
  cases hx : aget T k with
  | none =>
    rw [aput_new s hx, List.map_append, List.nodup_append]
    refine ⟨h, by simp, fun a ha b hb e => ?_⟩
    simp at hb
    rw [aget_none_iff] at hx
    exact hx (by rw [← hb, ← e]; exact ha)
  | some u => rw [aput_keys_old s (by rw [hx]; simp)]; exact h

theorem TabAt.put {w w' : World} {d mb : Nat} {T : List (ByteArray × Sl)} {cnt cnt' most : Nat} {name : ByteArray} {s : Sl} (h : TabAt w d mb T cnt most) (hs : s.Ok w) (hr : Rises s.l) (own : ∀ g, s.v.ownBlock = some g → g ≠ d ∧ g ≠ mb)
    (hblk : w'.heap[d]? = some (.cells #[.map (some mb), .int .i64 cnt', .int .i64 most] 51 (0, 0))) (hmap : MapIs (fun s : ByteArray => Value.string s) w' mb (aput (amap Sl.v T) name s.v))
    (hc : Chg (fun b => b = d ∨ b = mb) w w') (hlen : s.l.length + cnt = (tabPts T name).length + cnt') (hle : cnt' ≤ most) : TabAt w' d mb (aput T name s) cnt' most := by
  refine ⟨hblk, by rw [← aput_amap]; exact hmap, aput_nodup h.nodup, fun q hq => ?_, ?_, hle, h.cap⟩
  · rcases mem_aput hq with rfl | hq
    · exact ⟨⟨hs.1.chg hc (fun g hg e => by have := own g hg; omega), hs.2⟩, hr, own⟩
    · obtain ⟨h1, h2, h3⟩ := h.ok q hq
      exact ⟨⟨h1.1.chg hc (fun g hg e => by have := h3 g hg; omega), h1.2⟩, h2, h3⟩
  · have h1 := aput_sum (fun x : Sl => x.l.length) T name s
    have h2 := h.tot
    have h3 : ((aget T name).map (fun x : Sl => x.l.length)).getD 0 = (tabPts T name).length := by
      unfold tabPts tabSl
      cases aget T name <;> rfl
    omega

theorem row_cap {w : World} {e : TypeId} {size n m c : Nat} {a : Option Addr} {xs : List Value} (h : Row w e size (.slice a m c) n xs) : m ≤ c := by
  obtain ⟨_, ⟨e, _⟩ | ⟨g, cap, cur, e, _, _, h2, _⟩⟩ := h
  · simp at e; omega
  · simp at e; omega

/-- What Put leaves. -/
def TabPut (w : World) (d mb : Nat) (T : List (ByteArray × Sl)) (cnt most : Nat) (name : ByteArray) (p : Pt) (e : Ending) (w' : World) : Prop :=
  Chg (fun b => b = d ∨ b = mb) w w' ∧
  ((validL name.data.toList = false ∧ e = .returned (.int .i64 2) ∧ TabAt w' d mb T cnt most) ∨
   (validL name.data.toList = true ∧ hasL (tabPts T name) p.t = false ∧ cnt = most ∧ e = .returned (.int .i64 22) ∧ TabAt w' d mb T cnt most) ∨
   (validL name.data.toList = true ∧ e = .returned (.int .i64 0) ∧ ∃ s : Sl, IsMerge [tabPts T name, [p]] s.l ∧ (∀ g, s.v.ownBlock = some g → w.heap.size ≤ g) ∧
      ((hasL (tabPts T name) p.t = true ∧ TabAt w' d mb (aput T name s) cnt most) ∨ (hasL (tabPts T name) p.t = false ∧ cnt < most ∧ TabAt w' d mb (aput T name s) (cnt + 1) most))))

set_option maxHeartbeats 8000000 in
set_option maxRecDepth 100000 in
theorem tab_put {w : World} {d mb : Nat} {T : List (ByteArray × Sl)} {cnt most : Nat} (h : TabAt w d mb T cnt most) (name : ByteArray) (p : Pt) (hname : name.size ≤ maxLen) :
    Calls Try.prog 9 #[.pointer (some ⟨d, 0, none⟩), .string name, p.val] w (TabPut w d mb T cnt most name p) := by
  have hcap := h.cap
  have hle := h.le
  have hdlt := h.lt
  have H := Lib.hid h; clear h
  unfold Pt.val
  go_enter Try.func9, Try.ntmps9
  go_wp2_with fail
  generalize hW : World.alloc _ _ = W
  have HXW : Hid (Ext w W) := Lib.hid (by subst hW; exact (Ext.refl w).alloc _)
  have B5 : Hid (W.heap[w.heap.size]? = some (.cells #[.int .i64 p.t, .int .i64 p.v, .int .i64 p.s] 33 (0, 0))) := Lib.hid (by subst hW; exact heap_alloc_new w _)
  clear hW
  refine (tab_none (H.out.ext HXW.out)).mono ?_; rintro e w' ⟨rfl, rfl⟩
  go_wp2_with fail
  refine (valid_any _ _ hname).mono ?_; rintro e w' ⟨rfl, rfl⟩
  cases hv : validL name.data.toList
  · have Hv := Lib.hid hv; clear hv
    go_wp2_with fail
    go_ret
    exact ⟨Chg.of_ext HXW.out, .inl ⟨Hv.out, rfl, H.out.ext HXW.out⟩⟩
  have Hv := Lib.hid hv; clear hv
  have q0 : W.cell? ⟨w.heap.size, 0, none⟩ = some (.int .i64 p.t) := by have := cell_of_block B5.out 0; simpa using this
  go_wp2_with fail
  clear q0
  refine (tab_has (H.out.ext HXW.out) name p).mono ?_
  rintro e w1 ⟨rfl, hx1⟩
  have HX1 : Hid (Ext w w1) := Lib.hid (HXW.out.trans hx1)
  have B1 : Hid (w1.heap[w.heap.size]? = some (.cells #[.int .i64 p.t, .int .i64 p.v, .int .i64 p.s] 33 (0, 0))) := Lib.hid ((hx1.block (block_lt B5.out)).trans B5.out)
  have H1 := Lib.hid (H.out.ext HX1.out)
  clear hx1 HXW B5
  have c1 : w1.cell? ⟨d, 1, none⟩ = some (.int .i64 cnt) := by have := cell_of_block H1.out.blk 1; simpa using this
  have c2 : w1.cell? ⟨d, 2, none⟩ = some (.int .i64 most) := by have := cell_of_block H1.out.blk 2; simpa using this
  have c0 : w1.cell? ⟨d, 0, none⟩ = some (.map (some mb)) := by have := cell_of_block H1.out.blk 0; simpa using this
  cases hh : hasL (tabPts T name) p.t
  case' false =>
    have HH := Lib.hid hh; clear hh
    go_wp2_with fail
    refine dite (cnt < most) (fun hlt => ?lt) (fun hlt => ?ge)
    case' ge =>
      have hge : most ≤ cnt := by omega
      go_quiet (fail)
      go_wp2_with fail
      go_ret
      exact ⟨Chg.of_ext (HX1.out.drewN' _), .inr (.inl ⟨Hv.out, HH.out, by omega, rfl, H1.out.ext (Ext.drewN _ _)⟩)⟩
    case' lt =>
      go_quiet (fail)
      go_wp2_with fail
  case' true =>
    have HH := Lib.hid hh; clear hh
    go_wp2_with fail
    go_quiet (fail)
    go_wp2_with fail
  all_goals
    clear c1 c2
    generalize hw2 : World.drewN w1 _ = w2
    have HX2 : Hid (Ext w1 w2) := Lib.hid (by rw [← hw2]; exact Ext.drewN _ _)
    clear hw2
    have H2 := Lib.hid (H1.out.ext HX2.out)
    have B2 := Lib.hid ((HX2.out.block (block_lt B1.out)).trans B1.out)
    have HXX := Lib.hid (HX1.out.trans HX2.out)
    clear HX1 HX2 B1 H1 c0
    have hlk := (H2.out.ext (Ext.refl w2).drew).look name
    obtain ⟨hok, hr, hown, hn⟩ := H2.out.at name
    have d0 : w2.cell? ⟨d, 0, none⟩ = some (.map (some mb)) := by have := cell_of_block H2.out.blk 0; simpa using this
    have p0 : w2.cell? ⟨w.heap.size, 0, none⟩ = some (.int .i64 p.t) := by have := cell_of_block B2.out 0; simpa using this
    have p1 : w2.cell? ⟨w.heap.size, 1, none⟩ = some (.int .i64 p.v) := by have := cell_of_block B2.out 1; simpa using this
    have p2 : w2.cell? ⟨w.heap.size, 2, none⟩ = some (.int .i64 p.s) := by have := cell_of_block B2.out 2; simpa using this
    have f0 := cell_turned (T := fun _ => false) d0 rfl
    have f1 := cell_turned (T := fun _ => false) p0 rfl
    have f2 := cell_turned (T := fun _ => false) p1 rfl
    have f3 := cell_turned (T := fun _ => false) p2 rfl
    clear d0 p0 p1 p2
    have HO := Lib.hid hok
    have HR := Lib.hid hr
    clear hok hr hown B2
    refine wp_region_plan 16 (fun w' => ∃ p : Turned, w' = turned w2 (fun _ => false) p.d p.f p.os) (.reads [0, 1, 2, 3, 4, 5, 6, 7, 8, 9, 11] (.one 10 (.one 12 (.one 13 (.reads [14] (.two 15 (.one 16 .done) 16 (.one 15 .done))))))) (by kernel_rfl) (by kernel_rfl) (fun _ _ dd _ _ hh => by cases dd <;> exact hh) ?_ ?_
    · exact turned_of_ext (Ext.drewN w2 1)
    refine wpPlan_reads ?_
    simp only [pickOps, List.getElem?_cons_succ, List.getElem?_cons_zero]
    repeat (go_big_quiet_step (fail))
    refine wpQuiet_nil ?_
    refine wpPlan_one ?_
    simp only [pickOps, List.getElem?_cons_succ, List.getElem?_cons_zero]
    clear f0 f1 f2 f3
    go_wp2_with fail
    refine thenX_mk (turned_of_ext (Ext.drewN w2 1)) (wpPlan_one ?_)
    simp only [pickOps, List.getElem?_cons_succ, List.getElem?_cons_zero]
    clear hlk
    go_wp2_with fail
    refine (insert_any _ (tabSl T name).a (tabSl T name).n (tabSl T name).c (tabSl T name).l p (HO.out.1.ext (Ext.drewN w2 1)) HO.out.2 (by omega)).mono ?_
    rintro e w3 hI
    obtain ⟨hx3, ⟨_, va, vc, out, rfl, hcut, hmg, _⟩ | ⟨hnr, _⟩⟩ := hI
    case inr => exact absurd HR.out hnr
    have HX3 : Hid (Ext w2 w3) := Lib.hid ((Ext.drewN w2 1).trans hx3)
    have H3 := Lib.hid (H2.out.ext HX3.out)
    have HLEN : Hid (out.length = if hasL (tabPts T name) p.t then (tabPts T name).length else (tabPts T name).length + 1) := Lib.hid (merge_len HR.out hmg)
    have HMG : Hid (IsMerge [tabPts T name, [p]] out) := Lib.hid hmg
    have hsz := HX3.out.size
    have hmlt := H2.out.map.lt
    have OW : Hid (∀ g, (Sl.mk va out.length vc out).v.ownBlock = some g → g ≠ d ∧ g ≠ mb) := Lib.hid (fun g hg => by have h1 := hcut.own g hg; have h2 := H2.out.lt; simp at h1; omega)
    have HFR : Hid (∀ g, (Sl.mk va out.length vc out).v.ownBlock = some g → w.heap.size ≤ g) := Lib.hid (fun g hg => by have h1 := hcut.own g hg; have h2 := HXX.out.size; simp at h1; omega)
    have SO : Hid ((Sl.mk va out.length vc out).Ok w3) := Lib.hid ⟨row_src hcut.row, row_cap hcut.row⟩
    obtain ⟨w4, hup, hmap, hchg⟩ := H3.out.map.update (P := Try.prog) (string_kind Try.underlying9) Try.underlying49 name (Sl.mk va out.length vc out).v
    simp only [Sl.v] at hup
    have HM := Lib.hid hmap
    have HC := Lib.hid hchg
    clear hmap hchg hx3 hcut hmg hsz hmlt
    go_wp2_with fail
    refine thenX_mk (turned_of_ext HX3.out) (wpPlan_one ?_)
    simp only [pickOps, List.getElem?_cons_succ, List.getElem?_cons_zero]
    go_wp2_with fail
    refine thenX_mk (turned_of_ext HX3.out) (wpPlan_reads ?_)
    simp only [pickOps, List.getElem?_cons_succ, List.getElem?_cons_zero]
    repeat (go_big_quiet_step (fail))
    refine wpQuiet_nil ?_
    refine wpPlan_two ?_ ?_
    case' refine_1 =>
      simp only [pickOps, List.getElem?_cons_succ, List.getElem?_cons_zero]
      go_wp2_with fail
      refine thenX_mk (turned_of_ext HX3.out) (wpPlan_one ?_)
      simp only [pickOps, List.getElem?_cons_succ, List.getElem?_cons_zero]
      go_wp2_with fail
      refine thenX_last (wpPlan_done ?_)
    case' refine_2 =>
      simp only [pickOps, List.getElem?_cons_succ, List.getElem?_cons_zero]
      go_wp2_with fail
      refine thenX_last (wpPlan_one ?_)
      simp only [pickOps, List.getElem?_cons_succ, List.getElem?_cons_zero]
      go_wp2_with fail
      refine thenX_last (wpPlan_done ?_)
    clear hup
  iterate 2
   · have _ht : hasL (tabPts T name) p.t = true := HH.out
     clear _ht
     go_wp2_with fail
     go_ret
     have hbk := (HC.out.block d (block_lt H3.out.blk) H3.out.ne).trans H3.out.blk
     have hcc : Chg (fun b => b = d ∨ b = mb) w w4 := (Chg.of_ext (HXX.out.trans HX3.out)).trans HC.out (fun _ _ e => .inr e)
     have hl := HLEN.out
     rw [HH.out, if_pos rfl] at hl
     exact ⟨hcc, .inr (.inr ⟨Hv.out, rfl, _, HMG.out, HFR.out, .inl ⟨HH.out, H3.out.put SO.out HMG.out.rises OW.out hbk HM.out (HC.out.mono (fun _ _ e => .inr e)) (by simp only; omega) hle⟩⟩)⟩
  iterate 2
   · have hbk := (HC.out.block d (block_lt H3.out.blk) H3.out.ne).trans H3.out.blk
     have e1 : w4.cell? ⟨d, 1, none⟩ = some (.int .i64 cnt) := by have := cell_of_block hbk 1; simpa using this
     have e2 : w4.frozen? ⟨d, 1, none⟩ = false := free_of_block hbk 1
     have HB := Lib.hid hbk
     clear hbk
     go_wp2_with fail
     go_ret
     have hbk' := setCell_block (i := 1) HB.out (.int .i64 ((cnt : Int) + 1))
     have hl := HLEN.out
     rw [HH.out, if_neg (by simp)] at hl
     have hc4 : Chg (fun b => b = d ∨ b = mb) w3 (w4.setCell ⟨d, 1, none⟩ (.int .i64 ((cnt : Int) + 1))) := (HC.out.mono (fun _ _ e => .inr e)).trans (setCell_chg _ _ _ _) (fun _ _ e => .inl e)
     refine ⟨(Chg.of_ext (HXX.out.trans HX3.out)).trans hc4 (fun _ _ e => e), .inr (.inr ⟨Hv.out, rfl, _, HMG.out, HFR.out, .inr ⟨HH.out, hlt, H3.out.put SO.out HMG.out.rises OW.out ?_ (HM.out.chg (setCell_chg _ _ _ _) (fun e => H3.out.ne e.symm)) hc4 (by simp only; omega) (by omega)⟩⟩)⟩
     rw [hbk']; simp

end Go.Proofs.Ytabnngcaohgppaa
