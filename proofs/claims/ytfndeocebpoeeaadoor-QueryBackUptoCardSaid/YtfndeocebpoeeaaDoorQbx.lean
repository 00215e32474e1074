/- Telling a query: the list of its words in a box; Text$1. -/
import Derived.Test.YtfndeocebpoeeaaDoorQbs
import Derived.Test.YtfndeocebpoeeaaDoorStm
import Derived.Test.YtfndeocebpoeeaaDoorZin
import Derived.Deep.DeepCutAuto
import Derived.Deep.CutBlock
namespace Go.Proofs.YtfndeocebpoeeaaDoor
open Go.RowKit Go.Sort Go.Lib

theorem words_len (q : Qy) : q.words.length ≤ 9 := by
  unfold Qy.words
  repeat' split
  all_goals simp
theorem num_small {n : Int} (h0 : -9223372036854775808 ≤ n) (h1 : n ≤ 9223372036854775807) : (num n).size ≤ 64 := by
  have h := Lib.itoa_length_le n h0 h1
  have : (num n).size = (Lib.itoa n).length := rfl
  omega
theorem fn_small : ∀ n : Fin 7, (wordIn fnS (n.val : Int)).size ≤ 64 := by decide +kernel
theorem fill_small : ∀ n : Fin 4, (wordIn fillS (n.val : Int)).size ≤ 64 := by decide +kernel
theorem ok_small {q : Qy} (h : q.ok = true) : ∀ x ∈ q.words, x.size ≤ 64 := by
  have hr := ok_read h
  have hp := ok_words h
  clear hp
  obtain ⟨op, fn, ser, oth, fr, tt, wd, st, off, gap, tol, fill⟩ := q
  simp only [Qy.ok, checkB, Bool.and_eq_true] at h
  obtain ⟨⟨⟨⟨h1, h2⟩, h3⟩, h4⟩, -⟩ := h
  have b1 : -1152921504606846976 ≤ fr ∧ fr ≤ 1152921504606846976 := by simpa [withinB] using h3
  have b2 : fr ≤ tt ∧ tt ≤ 1152921504606846976 := by simpa [withinB] using h4
  have hs : ser.size ≤ 64 := (valid_sp h2).2
  have nfr := num_small (n := fr) (by omega) (by omega)
  have nto := num_small (n := tt) (by omega) (by omega)
  have hk : kRaw.size ≤ 64 ∧ kWin.size ≤ 64 ∧ kSes.size ≤ 64 ∧ kAsof.size ≤ 64 := by decide
  have hf : ∀ z : Int, withinB z 0 6 = true → (wordIn fnS z).size ≤ 64 := fun z d => by
    have e : 0 ≤ z ∧ z ≤ 6 := by simpa [withinB] using d
    have f1 := fn_small ⟨z.toNat, by omega⟩
    simpa only [show ((z.toNat : Nat) : Int) = z by omega] using f1
  have hl : ∀ z : Int, withinB z 0 3 = true → (wordIn fillS z).size ≤ 64 := fun z d => by
    have e : 0 ≤ z ∧ z ≤ 3 := by simpa [withinB] using d
    have f1 := fill_small ⟨z.toNat, by omega⟩
    simpa only [show ((z.toNat : Nat) : Int) = z by omega] using f1
  unfold fitsB at h1
  unfold Qy.words
  simp only
  split at h1
  · rename_i e
    simp only [Bool.and_eq_true] at h1
    obtain ⟨⟨⟨d1, d2⟩, -⟩, d4⟩ := h1
    have wb := win_bounds d2
    rw [if_pos e]
    intro x hx
    simp only [List.mem_cons, List.not_mem_nil, or_false] at hx
    rcases hx with rfl | rfl | rfl | rfl | rfl | rfl | rfl | rfl | rfl
    · exact hk.2.1
    · exact hf _ d4
    · exact hs
    · exact nfr
    · exact nto
    · exact num_small (by omega) (by omega)
    · exact num_small (by omega) (by omega)
    · exact num_small (by omega) (by omega)
    · exact hl _ d1
  · rename_i e
    rw [if_neg e]
    split at h1
    · rename_i e2
      simp only [Bool.and_eq_true] at h1
      obtain ⟨d1, d2⟩ := h1
      have wb : 1 ≤ gap ∧ gap ≤ 1152921504606846976 := by simpa [withinB] using d2
      rw [if_pos e2]
      intro x hx
      simp only [List.mem_cons, List.not_mem_nil, or_false] at hx
      rcases hx with rfl | rfl | rfl | rfl | rfl | rfl
      · exact hk.2.2.1
      · exact hf _ d1
      · exact hs
      · exact nfr
      · exact nto
      · exact num_small (by omega) (by omega)
    · rename_i e2
      rw [if_neg e2]
      split at h1
      · rename_i e3
        simp only [Bool.and_eq_true] at h1
        have wb : 0 ≤ tol ∧ tol ≤ 1152921504606846976 := by simpa [withinB] using h1.2
        rw [if_pos e3]
        intro x hx
        simp only [List.mem_cons, List.not_mem_nil, or_false] at hx
        rcases hx with rfl | rfl | rfl | rfl | rfl | rfl
        · exact hk.2.2.2
        · exact hs
        · exact (valid_sp h1.1).2
        · exact nfr
        · exact nto
        · exact num_small (by omega) (by omega)
      · rename_i e3
        rw [if_neg e3]
        intro x hx
        simp only [List.mem_cons, List.not_mem_nil, or_false] at hx
        rcases hx with rfl | rfl | rfl | rfl
        · exact hk.1
        · exact hs
        · exact nfr
        · exact nto
theorem joinTail_small : ∀ {l : List ByteArray}, (∀ x ∈ l, x.size ≤ 64) → (Lib.joinTail [32] (l.map (·.data.toList))).length ≤ 65 * l.length
  | [], _ => by simp [Lib.joinTail]
  | x :: l, h => by
    have ih := joinTail_small (l := l) (fun y hy => h y (List.mem_cons_of_mem _ hy))
    have hx : x.data.toList.length ≤ 64 := h x List.mem_cons_self
    rw [Lib.joinTail_length] at ih ⊢
    simp only [List.map_cons, List.length_cons, List.length_map, Lib.lens, List.sum_cons, List.length_nil] at ih ⊢
    omega
theorem join_small {l : List ByteArray} (hl : l.length ≤ 9) (h : ∀ x ∈ l, x.size ≤ 64) : (Lib.join (l.map (·.data.toList)) spc.data.toList).length ≤ 140737488355328 := by
  show (Lib.join (l.map (·.data.toList)) [32]).length ≤ _
  cases l with
  | nil => simp [Lib.join]
  | cons x l =>
    have hx : x.data.toList.length ≤ 64 := h x List.mem_cons_self
    have := joinTail_small (l := l) (fun y hy => h y (List.mem_cons_of_mem _ hy))
    simp only [List.length_cons] at hl
    rw [List.map_cons, Lib.join_cons, List.length_append]
    omega
/-- A list of words in a box. -/
structure LsAt (w0 w : World) (lb : Nat) (N : Nat → Prop) (L : List ByteArray) : Prop where
  ex : ∃ v, w.heap[lb]? = some (Obj.cells #[v] 31 (0, 0)) ∧ Row w 9 1 v L.length (strs L) ∧ ∀ g, v.ownBlock = some g → w0.heap.size ≤ g ∧ g ≠ lb ∧ ¬ N g
  new : w0.heap.size ≤ lb
  ext : Ext w0 w
theorem LsAt.next {w0 w w' : World} {lb : Nat} {N : Nat → Prop} {L : List ByteArray} (h : LsAt w0 w lb N L) (hx : Ext w w') : LsAt w0 w' lb N L := by
  obtain ⟨v, h1, h2, h3⟩ := h.ex
  exact ⟨⟨v, (hx.block (block_lt h1)).trans h1, h2.ext hx, h3⟩, h.new, h.ext.trans hx⟩
theorem LsAt.weak {w0 w : World} {lb : Nat} {N N' : Nat → Prop} {L : List ByteArray} (h : LsAt w0 w lb N L) (hN : ∀ g, N' g → N g) : LsAt w0 w lb N' L := by
  obtain ⟨v, h1, h2, h3⟩ := h.ex
  exact ⟨⟨v, h1, h2, fun g hg => ⟨(h3 g hg).1, (h3 g hg).2.1, fun e => (h3 g hg).2.2 (hN g e)⟩⟩, h.new, h.ext⟩
theorem LsAt.young {w0 w w' : World} {lb : Nat} {N : Nat → Prop} {L : List ByteArray} (h : LsAt w0 w lb N L) (hx : Ext w w') (N' : Nat → Prop) (hN : ∀ g, N' g → w.heap.size ≤ g) : LsAt w0 w' lb N' L := by
  obtain ⟨v, h1, h2, h3⟩ := h.ex
  exact ⟨⟨v, (hx.block (block_lt h1)).trans h1, h2.ext hx, fun g hg => ⟨(h3 g hg).1, (h3 g hg).2.1, fun e => by have := hN g e; have := h2.lt hg; omega⟩⟩, h.new, h.ext.trans hx⟩
theorem LsAt.put {w0 w w1 w2 : World} {lb : Nat} {N : Nat → Prop} {L M : List ByteArray} {v v' : Value} (h : LsAt w0 w lb N L) (hb : w.heap[lb]? = some (Obj.cells #[v] 31 (0, 0))) (hx : Ext w w1) (hN : ∀ g, N g → g < w1.heap.size)
    (ha : Appended w1 9 1 v (L.length + M.length) (strs L ++ strs M) v' w2) : LsAt w0 (w2.setCell ⟨lb, 0, none⟩ v') lb N (L ++ M) ∧ Chg (fun k => k = lb ∨ v.ownBlock = some k) w (w2.setCell ⟨lb, 0, none⟩ v') := by
  obtain ⟨v0, h1, h2, h3⟩ := h.ex
  obtain rfl : v = v0 := by rw [hb] at h1; simpa using h1
  have hlt := block_lt hb
  have hs1 := hx.size
  have hb1 : w2.heap[lb]? = some (Obj.cells #[v] 31 (0, 0)) := (ha.chg.block lb (by omega) (fun e => (h3 lb e).2.1 rfl)).trans ((hx.block hlt).trans hb)
  have hown : ∀ g, v'.ownBlock = some g → w0.heap.size ≤ g ∧ g ≠ lb ∧ ¬ N g := fun g hg => by
    rcases ha.loc with e | e
    · exact h3 g (e ▸ hg)
    · rw [e] at hg
      simp at hg
      have := h.ext.size
      exact ⟨by omega, by omega, fun e2 => by have := hN g e2; omega⟩
  have hchg : Chg (fun k => k = lb ∨ v.ownBlock = some k) w (w2.setCell ⟨lb, 0, none⟩ v') := ((Chg.of_ext hx).trans (ha.chg.mono (fun _ _ e => .inr e)) (fun _ _ e => e)).trans ((setCell_chg _ _ _ _).mono (fun _ _ e => .inl e)) (fun _ _ e => e)
  refine ⟨⟨⟨v', ?_, ?_, hown⟩, h.new, ((Chg.of_ext (S := fun k => k = lb ∨ v.ownBlock = some k) h.ext).trans hchg (fun _ _ e => e)).ext (fun i hi e => ?_)⟩, hchg⟩
  · rw [setCell_block hb1]; simp
  · have hr := ha.row
    rw [show strs L ++ strs M = strs (L ++ M) by simp [strs]] at hr
    rw [List.length_append]
    exact hr.chg (setCell_chg _ _ _ _) (fun g hg e => (hown g hg).2.1 e)
  · rcases e with e | e
    · have := h.new; omega
    · have := (h3 i e).1; omega

theorem LsAt.also {w0 w w' : World} {lb : Nat} {N : Nat → Prop} {L : List ByteArray} (h : LsAt w0 w lb N L) (hx : Ext w w') (nb : Nat) (hnb : w.heap.size ≤ nb) : LsAt w0 w' lb (fun g => N g ∨ g = nb) L := by
  obtain ⟨v, h1, h2, h3⟩ := h.ex
  refine ⟨⟨v, (hx.block (block_lt h1)).trans h1, h2.ext hx, fun g hg => ⟨(h3 g hg).1, (h3 g hg).2.1, fun e => ?_⟩⟩, h.new, h.ext.trans hx⟩
  rcases e with e | e
  · exact (h3 g hg).2.2 e
  · have := h2.lt hg; omega
theorem LsAt.stay {w0 w w1 w2 : World} {lb k : Nat} {N : Nat → Prop} {L : List ByteArray} {v v' : Value} {ys : List Value} (h : LsAt w0 w lb N L) (hb : w.heap[lb]? = some (Obj.cells #[v] 31 (0, 0))) (hx : Ext w w1) (ha : Appended w1 9 1 v k ys v' w2) : w2.heap[lb]? = some (Obj.cells #[v] 31 (0, 0)) := by
  obtain ⟨v0, h1, h2, h3⟩ := h.ex
  obtain rfl : v = v0 := by rw [hb] at h1; simpa using h1
  have hlt := block_lt hb
  have := hx.size
  exact (ha.chg.block lb (by omega) (fun e => (h3 lb e).2.1 rfl)).trans ((hx.block hlt).trans hb)
theorem src_blk {W : World} {b : Nat} {L : List ByteArray} {t : TypeId} {fr : Nat × Nat} (h : W.heap[b]? = some (.cells (strs L).toArray t fr)) : Src W 1 (.slice (some ⟨b, 0, none⟩) L.length L.length) L.length (strs L) := by
  refine .inr ⟨_, _, rfl, by rw [strs_len, Nat.mul_one], fun j u hj => ?_, strs_one _⟩
  rw [Go.WideShapes.add_plain, Nat.zero_add, cell_of_block h]
  simpa using hj
theorem src_ints {W : World} {b : Nat} {L : List Int} {t : TypeId} {fr : Nat × Nat} (h : W.heap[b]? = some (.cells (zints L).toArray t fr)) : Src W 1 (.slice (some ⟨b, 0, none⟩) L.length L.length) L.length (zints L) := by
  refine .inr ⟨_, _, rfl, by simp [zints], fun j u hj => ?_, fun u hu => by simp [zints] at hu; obtain ⟨z, _, rfl⟩ := hu; rfl⟩
  rw [Go.WideShapes.add_plain, Nat.zero_add, cell_of_block h]
  simpa using hj

set_option maxHeartbeats 8000000 in
set_option maxRecDepth 100000 in
theorem addn_any {w0 w : World} {lb nb nc : Nat} {L : List ByteArray} {zs : List Int} {N : Nat → Prop} (h : LsAt w0 w lb N L) (hN : N nb) (hNlt : ∀ g, N g → g < w.heap.size) (hl : HasLib w0) (hs : Src w 1 (.slice (some ⟨nb, 0, none⟩) zs.length nc) zs.length (zints zs)) (hnb : nb < w.heap.size) (hnl : nb ≠ lb) (hz : ∀ z ∈ zs, -9223372036854775808 ≤ z ∧ z ≤ 9223372036854775807) (hL : L.length + zs.length ≤ 100) :
    Calls Tryd.prog 7 #[.slice (some ⟨nb, 0, none⟩) zs.length nc, .pointer (some ⟨lb, 0, none⟩)] w fun e w' => e = .returned (.tuple #[]) ∧ LsAt w0 w' lb N (L ++ zs.map num) ∧ ∀ g, N g → g ≠ lb → w'.heap[g]? = w.heap[g]? := by
  have H := Lib.hid h
  have HL := Lib.hid hl
  have HS := Lib.hid hs
  have HZ := Lib.hid hz
  have HN := Lib.hid hN
  have HNL := Lib.hid hNlt
  clear h hl hs hz hN hNlt
  go_enter Tryd.func7, Tryd.ntmps7
  go_wp2_with fail
  go_loopw [4, 7] (fun _ s7 wr => ∃ i : Nat, s7 = .int .i64 (i : Int) ∧ i ≤ zs.length ∧ nb < wr.heap.size ∧ Hid (LsAt w0 wr lb N (L ++ (zs.take i).map num) ∧ Src wr 1 (.slice (some ⟨nb, 0, none⟩) zs.length nc) zs.length (zints zs) ∧ w.heap.size ≤ wr.heap.size ∧ ∀ g, N g → g ≠ lb → wr.heap[g]? = w.heap[g]?)) (fun _ s7 _ => zs.length - (RowKit.intOf s7).toNat)
  case atStart => exact ⟨0, by go_num, by omega, hnb, Lib.hid ⟨by simpa using H.out, HS.out, Nat.le_refl _, fun _ _ _ => rfl⟩⟩
  case round =>
    obtain ⟨i, rfl, hi, hnr, HH⟩ := hrel
    clear hnb
    rcases Nat.lt_or_ge i zs.length with hlt | hge
    · obtain ⟨_, _, z, hza, hzi, cz⟩ := zints_src HH.out.2.1 hlt
      cases hza
      rw [Nat.zero_add] at cz
      have hzb := HZ.out z (List.mem_of_getElem? hzi)
      have hlib : HasLib wr := HL.out.ext HH.out.1.ext
      have HLB := Lib.hid hlib
      have HZB := Lib.hid hzb
      have HNX : Hid ((zs.take (i + 1)).map num = (zs.take i).map num ++ [num z]) := Lib.hid (by rw [List.take_add_one, hzi]; simp)
      obtain ⟨v, hb, hrow, hown⟩ := HH.out.1.ex
      have HB := Lib.hid hb
      have HROW := Lib.hid hrow
      have HOWN := Lib.hid hown
      have cl := cell_of_block hb 0
      simp only [List.getElem?_toArray, List.getElem?_cons_zero] at cl
      have f0 := cell_turned (T := fun _ => false) cl rfl
      have HLEN : Hid ((L ++ (zs.take i).map num).length ≤ 99) := Lib.hid (by rw [List.length_append, List.length_map, List.length_take]; omega)
      clear hzi hzb hlib hb hrow hown cl
      generalize hLL : L ++ (zs.take i).map num = LL at *
      have HLL := Lib.hid hLL
      clear hLL
      go_wp2_with fail
      refine wp_region_plan 4 (fun w' => ∃ z : Turned, w' = turned wr (fun _ => false) z.d z.f z.os) (.reads [0, 1] (.one 2 (.one 3 (.one 4 (.one 5 .done))))) (by kernel_rfl) (by kernel_rfl) (fun _ _ dd _ _ hh => by cases dd <;> exact hh) ?_ ?_
      · exact turned_of_ext (Ext.drewN wr 1)
      refine wpPlan_reads ?_
      simp only [pickOps, List.getElem?_cons_succ, List.getElem?_cons_zero]
      repeat (go_big_quiet_step (fail))
      refine wpQuiet_nil ?_
      clear f0 cz
      refine wpPlan_one ?_
      simp only [pickOps, List.getElem?_cons_succ, List.getElem?_cons_zero]
      go_wp2_with fail
      refine (itoa_any (HLB.out.ext (Ext.drewN wr 1)) z HZB.out.1 HZB.out.2).mono ?_
      rintro e w2 ⟨rfl, hx⟩
      have HX := Lib.hid ((Ext.drewN wr 1).trans hx)
      clear hx
      go_wp2_with fail
      refine thenX_mk (turned_of_ext HX.out) (wpPlan_one ?_)
      simp only [pickOps, List.getElem?_cons_succ, List.getElem?_cons_zero]
      go_wp2_with fail
      refine thenX_mk (turned_of_ext (HX.out.trans ((Ext.refl w2).alloc _))) (wpPlan_one ?_)
      simp only [pickOps, List.getElem?_cons_succ, List.getElem?_cons_zero]
      generalize hw3 : World.alloc w2 _ = w3
      have hx3 : Ext w2 w3 := by rw [← hw3]; exact (Ext.refl w2).alloc _
      have hsrc3 : Src w3 1 (.slice (some ⟨w2.heap.size, 0, none⟩) 1 1) 1 (strs [num z]) := by rw [← hw3]; exact src_str' (heap_alloc_new w2 _)
      have HX3 := Lib.hid (HX.out.trans hx3)
      have HS3 := Lib.hid hsrc3
      clear hw3 hx3 hsrc3
      go_wp2_with (first | (refine wpList_append_to (n := LL.length) (m := 1) elem_str rfl _ _ rfl rfl rfl (HROW.out.ext HX3.out) HS3.out (by have := HLEN.out; unfold maxLen; omega) (by have := HLEN.out; omega) ?_; intro v5 w5 happ; obtain ⟨a5, c5, rfl⟩ := happ.row.shape; have HAP := Lib.hid happ; clear happ))
      refine thenX_last (wpPlan_one ?_)
      simp only [pickOps, List.getElem?_cons_succ, List.getElem?_cons_zero]
      obtain ⟨hput, hpc⟩ := HH.out.1.put (M := [num z]) HB.out HX3.out (fun g hg => by have := HNL.out g hg; have := HX3.out.size; have := HH.out.2.2.1; omega) (by rw [show LL.length + [num z].length = LL.length + 1 from rfl]; exact HAP.out)
      have HPUT := Lib.hid hput
      have HS5 : Hid (Src (w5.setCell ⟨lb, 0, none⟩ (.slice a5 (LL.length + 1) c5)) 1 (.slice (some ⟨nb, 0, none⟩) zs.length nc) zs.length (zints zs)) := Lib.hid (HH.out.2.1.chg hpc (fun g hg e => by
        have hgn : g = nb := by simpa [Value.ownBlock] using hg.symm
        rcases e with e | e
        · omega
        · exact (HOWN.out g e).2.2 (hgn ▸ HN.out)))
      have HKP : Hid (w.heap.size ≤ (w5.setCell ⟨lb, 0, none⟩ (.slice a5 (LL.length + 1) c5)).heap.size ∧ ∀ g, N g → g ≠ lb → (w5.setCell ⟨lb, 0, none⟩ (.slice a5 (LL.length + 1) c5)).heap[g]? = w.heap[g]?) := Lib.hid ⟨by have := hpc.size; have := HH.out.2.2.1; omega, fun g hg hgl => (hpc.block g (by have := HNL.out g hg; have := HH.out.2.2.1; omega) (fun e => by
        rcases e with e | e
        · exact hgl e
        · exact (HOWN.out g e).2.2 hg)).trans (HH.out.2.2.2 g hg hgl)⟩
      have hbl : w5.heap[lb]? = some (Obj.cells #[v] 31 (0, 0)) := (HAP.out.chg.block lb (by have := block_lt HB.out; have := HX3.out.size; omega) (fun e => (HOWN.out lb e).2.1 rfl)).trans ((HX3.out.block (block_lt HB.out)).trans HB.out)
      have dl := cell_of_block hbl 0
      have zl := free_of_block hbl 0
      simp only [List.getElem?_toArray, List.getElem?_cons_zero] at dl
      have hsz5 : nb < (w5.setCell ⟨lb, 0, none⟩ (.slice a5 (LL.length + 1) c5)).heap.size := by have := HX3.out.size; have := HAP.out.chg.size; simp; omega
      have HSZ := Lib.hid hsz5
      clear hput hpc hbl hsz5
      go_wp2_with fail
      refine thenX_last (wpPlan_done ?_)
      clear dl zl
      generalize World.setCell w5 _ _ = w6 at *
      go_wp2_with fail
      go_roundw
      case rel => exact ⟨i + 1, by go_num, by omega, HSZ.out, Lib.hid ⟨by rw [HNX.out, ← List.append_assoc, HLL.out]; exact HPUT.out, HS5.out, HKP.out⟩⟩
      case measure => simp [RowKit.intOf]; omega
    · obtain rfl : i = zs.length := by omega
      go_wp2_with fail
      go_end0
      have := HH.out.1
      rw [List.take_length] at this
      exact ⟨rfl, this, HH.out.2.2.2⟩
end Go.Proofs.YtfndeocebpoeeaaDoor
