/- memtable.Table in memory, and its calls New, none, has, Len, Points. -/
import Derived.Test.YtabnngcaohgppaaIns
import Derived.Test.YtabnngcaohgppaaSl
import Derived.Test.YtabnngcaohgppaaSer
namespace Go.Proofs.Ytabnngcaohgppaa
open Go.RowKit Go.Sort Go.Lib

/-- A table: its struct in block d, its map in block mb; T: its series. -/
structure TabAt (w : World) (d mb : Nat) (T : List (ByteArray × Sl)) (cnt most : Nat) : Prop where
  blk : w.heap[d]? = some (.cells #[.map (some mb), .int .i64 cnt, .int .i64 most] 51 (0, 0))
  map : MapIs (fun s : ByteArray => Value.string s) w mb (amap Sl.v T)
  nodup : (T.map (·.1)).Nodup
  ok : ∀ p ∈ T, p.2.Ok w ∧ Rises p.2.l ∧ ∀ g, p.2.v.ownBlock = some g → g ≠ d ∧ g ≠ mb
  tot : (T.map fun p => p.2.l.length).sum = cnt
  le : cnt ≤ most
  cap : most ≤ 65536

theorem TabAt.ne {w : World} {d mb : Nat} {T : List (ByteArray × Sl)} {cnt most : Nat} (h : TabAt w d mb T cnt most) : d ≠ mb := by
  intro e
  subst e
  obtain ⟨es, c, hb, _⟩ := h.map
  rw [h.blk] at hb; cases hb
theorem TabAt.lt {w : World} {d mb : Nat} {T : List (ByteArray × Sl)} {cnt most : Nat} (h : TabAt w d mb T cnt most) : d < w.heap.size := block_lt h.blk
theorem TabAt.chg {S : Nat → Prop} {w w' : World} {d mb : Nat} {T : List (ByteArray × Sl)} {cnt most : Nat} (h : TabAt w d mb T cnt most) (hc : Chg S w w') (hd : ¬ S d) (hm : ¬ S mb) (hs : ∀ p ∈ T, ∀ g, p.2.v.ownBlock = some g → ¬ S g) : TabAt w' d mb T cnt most :=
  ⟨(hc.block d h.lt hd).trans h.blk, h.map.chg hc hm, h.nodup, fun p hp => ⟨⟨(h.ok p hp).1.1.chg hc (hs p hp), (h.ok p hp).1.2⟩, (h.ok p hp).2⟩, h.tot, h.le, h.cap⟩
theorem TabAt.ext {w w' : World} {d mb : Nat} {T : List (ByteArray × Sl)} {cnt most : Nat} (h : TabAt w d mb T cnt most) (hc : Ext w w') : TabAt w' d mb T cnt most :=
  h.chg (Chg.of_ext (S := fun _ => False) hc) id id (fun _ _ _ _ => id)

/-- A series' slice, as a look-up tells it. -/
def tabSl (T : List (ByteArray × Sl)) (name : ByteArray) : Sl := (aget T name).getD ⟨none, 0, 0, []⟩
/-- Its points. -/
def tabPts (T : List (ByteArray × Sl)) (name : ByteArray) : List Pt := (tabSl T name).l
/-- Has a series a time? -/
def hasL (l : List Pt) (t : Int) : Bool := l.any fun p => decide (p.t = t)

theorem le_sum {α : Type} {f : α → Nat} {l : List α} {x : α} (h : x ∈ l) : f x ≤ (l.map f).sum := by
  induction l with
  | nil => cases h
  | cons y l ih =>
    rcases List.mem_cons.1 h with rfl | h
    · simp
    · have := ih h; simp; omega

theorem TabAt.at {w : World} {d mb : Nat} {T : List (ByteArray × Sl)} {cnt most : Nat} (h : TabAt w d mb T cnt most) (name : ByteArray) :
    (tabSl T name).Ok w ∧ Rises (tabSl T name).l ∧ (∀ g, (tabSl T name).v.ownBlock = some g → g ≠ d ∧ g ≠ mb) ∧ (tabSl T name).n ≤ cnt := by
  unfold tabSl
  cases hx : aget T name with
  | none => exact ⟨⟨.inl ⟨rfl, rfl, rfl⟩, Nat.le_refl _⟩, Rises.nil, fun g hg => by simp [Sl.v, Value.ownBlock] at hg, Nat.zero_le _⟩
  | some s =>
    have hm := aget_mem hx
    obtain ⟨h1, h2, h3⟩ := h.ok _ hm
    refine ⟨h1, h2, h3, ?_⟩
    have h4 := src_len h1.1
    have h5 := le_sum (f := fun p : ByteArray × Sl => p.2.l.length) hm
    rw [h.tot] at h5
    simp only [Option.getD_some]
    simp only at h5 h4
    omega

theorem hz_pts : ∀ w : World, (zeroValue 41).run Try.prog w = .ok (.slice none 0 0) w := fun _ => by kernel_rfl

theorem TabAt.look {w : World} {d mb : Nat} {T : List (ByteArray × Sl)} {cnt most : Nat} (h : TabAt w d mb T cnt most) (name : ByteArray) :
    (Instr.lookup 49 (.map (some mb)) (.string name) false).run Try.prog w = .ok (.slice (tabSl T name).a (tabSl T name).n (tabSl T name).c) w := by
  have := h.map.lookup (P := Try.prog) (string_kind Try.underlying9) Try.underlying49 (.slice none 0 0) (hz_pts w) name false
  rw [aget_amap] at this
  rw [this]
  unfold tabSl
  cases aget T name <;> rfl

set_option maxHeartbeats 1000000 in
theorem tab_none {w : World} {d mb : Nat} {T : List (ByteArray × Sl)} {cnt most : Nat} (h : TabAt w d mb T cnt most) :
    Calls Try.prog 22 #[.pointer (some ⟨d, 0, none⟩)] w fun e w' => e = .returned (.bool false) ∧ w = w' := by
  have hc : w.cell? ⟨d, 0, none⟩ = some (.map (some mb)) := by have := cell_of_block h.blk 0; simpa using this
  have hn := fun (w : World) => run_eql_map_nil (P := Try.prog) w 49 _ _ (some mb) Try.underlying49
  clear h
  go_enter Try.func22, Try.ntmps22
  go_wp2
  go_ret
  exact ⟨rfl, rfl⟩

set_option maxHeartbeats 1000000 in
theorem tab_len {w : World} {d mb : Nat} {T : List (ByteArray × Sl)} {cnt most : Nat} (h : TabAt w d mb T cnt most) :
    Calls Try.prog 10 #[.pointer (some ⟨d, 0, none⟩)] w fun e w' => e = .returned (.int .i64 cnt) ∧ w = w' := by
  have hc : w.cell? ⟨d, 1, none⟩ = some (.int .i64 cnt) := by have := cell_of_block h.blk 1; simpa using this
  have H := Lib.hid h; clear h
  go_enter Try.func10, Try.ntmps10
  go_wp2_with (go_at_call 22; refine (tab_none H.out).mono ?_; rintro e w' ⟨rfl, rfl⟩)
  go_ret
  exact ⟨rfl, rfl⟩

set_option maxHeartbeats 1000000 in
theorem tab_new (w : World) (m : Nat) (h1 : 1 ≤ m) (h2 : m ≤ 65536) :
    Calls Try.prog 7 #[.int .i64 m] w fun e w' => e = .returned (.tuple #[.pointer (some ⟨w.heap.size + 1, 0, none⟩), .int .i64 0]) ∧ TabAt w' (w.heap.size + 1) w.heap.size [] 0 m ∧ Ext w w' := by
  have hmm := @run_makeMap Try.prog
  have g1 : ¬ (m : Int) < 1 := by omega
  have g2 : ¬ (65536 : Int) < (m : Int) := by omega
  go_enter Try.func7, Try.ntmps7
  go_wp2
  go_ret2
  refine ⟨by simp, ⟨?_, ?_, by simp, by simp, by simp, Nat.zero_le _, h2⟩, ((Ext.refl _).alloc _).alloc _⟩
  · have := heap_alloc2 w (.map #[] 0) (.cells #[.map (some w.heap.size), .int .i64 0, .int .i64 m] 51 (0, 0))
    simpa using this
  · exact (MapIs.new w).ext ((Ext.refl _).alloc _)
set_option maxHeartbeats 1000000 in
theorem tab_new_bad (w : World) (m : Int) (h : m < 1 ∨ 65536 < m) :
    Calls Try.prog 7 #[.int .i64 m] w fun e w' => e = .returned (.tuple #[.pointer none, .int .i64 2]) ∧ w = w' := by
  by_cases g1 : m < 1
  · clear h
    go_enter Try.func7, Try.ntmps7
    go_wp2
    go_ret2
    exact ⟨rfl, rfl⟩
  · have g2 : 65536 < m := by omega
    clear h
    go_enter Try.func7, Try.ntmps7
    go_wp2
    go_ret2
    exact ⟨rfl, rfl⟩

set_option maxHeartbeats 2000000 in
set_option maxRecDepth 100000 in
theorem has1_any (w : World) (b2 b3 i n c : Nat) (a : Option Addr) (l : List Pt) (p : Pt) (h2 : w.cell? ⟨b2, 0, none⟩ = some (.slice a n c)) (h3 : w.cell? ⟨b3, 0, none⟩ = some (.int .i64 p.t)) (hs : Src w 3 (.slice a n c) n (pts l)) (hi : i < n) (hn : n < 4398046511104) :
    Calls Try.prog 35 #[.int .i64 i, .pointer (some ⟨b2, 0, none⟩), .pointer (some ⟨b3, 0, none⟩)] w fun e w' => e = .returned (.bool (insPred p l i)) ∧ Ext w w' := by
  obtain ⟨xb, xo, x, rfl, hx, x0, x1, x2⟩ := pts_src hs hi
  have HF : Hid (insPred p l i = decide (p.t ≤ x.t)) := Lib.hid (by simp [insPred, hx])
  clear hx x1 x2 hs
  by_cases hle : p.t ≤ x.t
  · go_enter Try.func35, Try.ntmps35
    go_wp2_with fail
    go_quiet (fail)
    go_wp2_with fail
    go_ret
    rw [HF.out, decide_eq_true hle]
    exact ⟨rfl, Ext.drewN _ _⟩
  · go_enter Try.func35, Try.ntmps35
    go_wp2_with fail
    go_quiet (fail)
    go_wp2_with fail
    go_ret
    rw [HF.out, decide_eq_false (by omega)]
    exact ⟨rfl, Ext.drewN _ _⟩

theorem has_yes {l : List Pt} {p x : Pt} {k : Nat} (hx : l[k]? = some x) (ht : x.t = p.t) : hasL l p.t = true := by
  rw [hasL, List.any_eq_true]
  exact ⟨x, List.mem_of_getElem? hx, by simpa using ht⟩
theorem has_no {l : List Pt} {p : Pt} {n k : Nat} (hr : Rises l) (hl : l.length = n) (h : FirstAt (insPred p l) n k) (hne : ∀ x, l[k]? = some x → x.t ≠ p.t) : hasL l p.t = false := by
  rw [hasL, List.any_eq_false]
  intro q hq
  simp only [decide_eq_true_eq]
  rw [← List.take_append_drop k l] at hq
  rcases List.mem_append.1 hq with hq | hq
  · have := ins_lo hl h q hq; omega
  · rcases Nat.lt_or_ge k l.length with hk | hk
    · have hx : l[k]? = some l[k] := List.getElem?_eq_getElem hk
      have h1 := ins_ge hl h hx
      have h2 := hne _ hx
      rw [List.drop_eq_getElem_cons hk] at hq
      rcases List.mem_cons.1 hq with rfl | hq
      · exact h2
      · have := drop_gt hr hx hq; omega
    · rw [List.drop_of_length_le hk] at hq; cases hq

set_option maxHeartbeats 4000000 in
set_option maxRecDepth 100000 in
theorem tab_has {w : World} {d mb : Nat} {T : List (ByteArray × Sl)} {cnt most : Nat} (h : TabAt w d mb T cnt most) (name : ByteArray) (p : Pt) :
    Calls Try.prog 23 #[.pointer (some ⟨d, 0, none⟩), .string name, .int .i64 p.t] w fun e w' => e = .returned (.bool (hasL (tabPts T name) p.t)) ∧ Ext w w' := by
  obtain ⟨hok, hr, hdrop, hn⟩ := h.at name
  clear hdrop
  have hcap := h.cap
  have hle := h.le
  have hlk := (h.ext ((Ext.refl w).alloc (.cells #[.int .i64 p.t] 3 (0, 0)))).look name
  have hc0 : w.cell? ⟨d, 0, none⟩ = some (.map (some mb)) := by have := cell_of_block h.blk 0; simpa using this
  have hc : (w.alloc (.cells #[.int .i64 p.t] 3 (0, 0))).cell? ⟨d, 0, none⟩ = some (.map (some mb)) := (((Ext.refl w).alloc _).cell (p := ⟨d, 0, none⟩) h.lt).trans hc0
  unfold tabPts
  obtain ⟨s, hs⟩ : ∃ s, s = tabSl T name := ⟨_, rfl⟩
  rw [← hs] at hok hr hn hlk ⊢
  clear hs
  obtain ⟨a, n, c, l⟩ := s
  simp only at hlk hok hr hn ⊢
  have HS : Hid (Src w 3 (.slice a n c) n (pts l)) := Lib.hid hok.1
  have HR := Lib.hid hr
  have Ln := Lib.hid (src_len hok.1)
  have hnc : n ≤ c := hok.2
  clear h hok hr
  go_enter Try.func23, Try.ntmps23
  go_wp2_with fail
  clear hlk hc hc0
  generalize hW : World.alloc _ _ = W
  have HXW : Hid (Ext w W) := Lib.hid (by subst hW; exact ((Ext.refl w).alloc _).alloc _)
  have b2 : W.cell? ⟨w.heap.size + 1, 0, none⟩ = some (.slice a n c) := by subst hW; simp [go_sem]
  have b3 : W.cell? ⟨w.heap.size, 0, none⟩ = some (.int .i64 p.t) := by subst hW; simp [go_sem]
  clear hW
  have BB2 := Lib.hid b2
  have BB3 := Lib.hid b3
  clear b2 b3
  have SW : Hid (Src W 3 (.slice a n c) n (pts l)) := Lib.hid (HS.out.ext HXW.out)
  refine (search_any 35 #[.pointer (some ⟨w.heap.size + 1, 0, none⟩), .pointer (some ⟨w.heap.size, 0, none⟩)] n (insPred p l) W (fun _ _ => rfl) (by omega) (fun w' i hx hi => ?_) (fun x y hxy hy hpx => ?_)).mono ?_
  · have h2 := (hx.cell (p := ⟨w.heap.size + 1, 0, none⟩) (World.block_lt_of_cell? W _ BB2.out)).trans BB2.out
    have h3 := (hx.cell (p := ⟨w.heap.size, 0, none⟩) (World.block_lt_of_cell? W _ BB3.out)).trans BB3.out
    exact has1_any w' _ _ i n c a l p h2 h3 (SW.out.ext hx) hi (by omega)
  · have hl := Ln.out
    have e1 : l[x]? = some (l[x]'(by omega)) := List.getElem?_eq_getElem (by omega)
    have e2 : l[y]? = some (l[y]'(by omega)) := List.getElem?_eq_getElem (by omega)
    have := rises_le HR.out e1 e2 hxy
    simp only [insPred, e1, e2, Option.getD_some, decide_eq_true_eq] at hpx ⊢
    omega
  rintro e w2 ⟨k, rfl, hfa, hx2⟩
  have FA := Lib.hid hfa
  have hkn : k ≤ n := hfa.le
  have b2 := (hx2.cell (p := ⟨w.heap.size + 1, 0, none⟩) (World.block_lt_of_cell? W _ BB2.out)).trans BB2.out
  have b3 := (hx2.cell (p := ⟨w.heap.size, 0, none⟩) (World.block_lt_of_cell? W _ BB3.out)).trans BB3.out
  have S2 := Lib.hid (SW.out.ext hx2)
  have HXB := Lib.hid (HXW.out.trans hx2)
  clear hx2 hfa BB2 BB3 SW HXW HS
  go_wp2_with fail
  by_cases hkn' : k < n
  · obtain ⟨xb, xo, x, rfl, hx, x0, x1, x2⟩ := pts_src S2.out hkn'
    clear x1 x2
    by_cases heq : x.t = p.t
    · have HF : Hid (hasL l p.t = true) := Lib.hid (has_yes hx heq)
      have hb : (x.t == p.t) = true := beq_iff_eq.2 heq
      clear heq hx
      go_quiet (fail)
      go_wp2_with fail
      go_ret
      rw [HF.out]
      exact ⟨rfl, HXB.out.drewN' _⟩
    · have HF : Hid (hasL l p.t = false) := Lib.hid (has_no HR.out Ln.out FA.out (fun y hy => by rw [hx] at hy; cases hy; exact heq))
      have hb : (x.t == p.t) = false := beq_eq_false_iff_ne.2 heq
      clear heq hx
      go_quiet (fail)
      go_wp2_with fail
      go_ret
      rw [HF.out]
      exact ⟨rfl, HXB.out.drewN' _⟩
  · have HF : Hid (hasL l p.t = false) := Lib.hid (has_no HR.out Ln.out FA.out (fun y hy => by have h1 := (List.getElem?_eq_some_iff.1 hy).1; have := Ln.out; omega))
    go_quiet (fail)
    go_wp2_with fail
    go_ret
    rw [HF.out]
    exact ⟨rfl, HXB.out.drewN' _⟩

set_option maxHeartbeats 2000000 in
set_option maxRecDepth 100000 in
theorem tab_points {w : World} {d mb : Nat} {T : List (ByteArray × Sl)} {cnt most : Nat} (h : TabAt w d mb T cnt most) (name : ByteArray) (f t : Int) :
    Calls Try.prog 11 #[.pointer (some ⟨d, 0, none⟩), .string name, .int .i64 f, .int .i64 t] w fun e w' => ∃ v, e = .returned v ∧ CutTo w (cutL f t (tabPts T name)) v w' := by
  obtain ⟨hok, hdrop, hdrop2, hn⟩ := h.at name
  clear hdrop hdrop2
  have hcap := h.cap
  have hle := h.le
  have hlk := h.look name
  have hc : w.cell? ⟨d, 0, none⟩ = some (.map (some mb)) := by have := cell_of_block h.blk 0; simpa using this
  unfold tabPts
  obtain ⟨s, hs⟩ : ∃ s, s = tabSl T name := ⟨_, rfl⟩
  rw [← hs] at hok hn hlk ⊢
  clear hs
  have HO := Lib.hid hok
  have H := Lib.hid h
  clear h hok
  go_enter Try.func11, Try.ntmps11
  go_wp2_with (go_at_call 22; refine (tab_none H.out).mono ?_; rintro e w' ⟨rfl, rfl⟩)
  refine (cut_any w s.a s.n s.c f t s.l HO.out.1 (by omega)).mono ?_
  rintro e w1 ⟨v, rfl, hc1⟩
  have C1 := Lib.hid hc1
  clear hc1
  go_wp2_with fail
  go_ret
  exact ⟨_, rfl, C1.out⟩

end Go.Proofs.Ytabnngcaohgppaa
