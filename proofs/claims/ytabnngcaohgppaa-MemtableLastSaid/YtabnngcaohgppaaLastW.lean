/- MemtableLast: the walk. -/
import Derived.Test.YtabnngcaohgppaaLastR
import Derived.Deep.DeepCutAuto
import Derived.Sort.Walk0
import Derived.IntWalk
namespace Go.Proofs.Ytabnngcaohgppaa
open Go.RowKit Go.Sort Go.Lib

/-- Where a series and a time are among those that are kept; -1: nowhere. -/
def FoundAt (E : List Ent) (key : ByteArray × Int) (j : Nat) (kk : Int) : Prop :=
  (kk = -1 ∧ ∀ e ∈ E.take j, e.key ≠ key) ∨ ∃ (p : Nat) (e : Ent), kk = (p : Int) ∧ p < j ∧ E[p]? = some e ∧ e.key = key
theorem FoundAt.start (E : List Ent) (key : ByteArray × Int) : FoundAt E key 0 (-1) := .inl ⟨rfl, by simp⟩
theorem FoundAt.yes {E : List Ent} {key : ByteArray × Int} {j : Nat} {e : Ent} (he : E[j]? = some e) (hk : e.key = key) : FoundAt E key (j + 1) (j : Int) := .inr ⟨j, e, rfl, by omega, he, hk⟩
theorem FoundAt.no {E : List Ent} {key : ByteArray × Int} {j : Nat} {kk : Int} {e : Ent} (h : FoundAt E key j kk) (he : E[j]? = some e) (hk : e.key ≠ key) : FoundAt E key (j + 1) kk := by
  rcases h with ⟨h1, h2⟩ | ⟨p, e', h1, h2, h3⟩
  · refine .inl ⟨h1, fun x hx => ?_⟩
    rw [List.take_add_one, he] at hx
    rcases List.mem_append.1 hx with hx | hx
    · exact h2 x hx
    · simp at hx; subst hx; exact hk
  · exact .inr ⟨p, e', h1, by omega, h3⟩

/-- The name that a sample has here. -/
def lastNm (q : Sm) : ByteArray := ⟨#[UInt8.ofNat (97 + q.s.size % 3)]⟩
theorem lastNm_valid (q : Sm) : validL (lastNm q).data.toList = true ∧ (lastNm q).size ≤ maxLen := by
  have h : q.s.size % 3 = 0 ∨ q.s.size % 3 = 1 ∨ q.s.size % 3 = 2 := by omega
  unfold lastNm
  rcases h with h | h | h <;> rw [h]
  · exact ⟨(by decide : validL [UInt8.ofNat (97 + 0)] = true), (by decide : 1 ≤ maxLen)⟩
  · exact ⟨(by decide : validL [UInt8.ofNat (97 + 1)] = true), (by decide : 1 ≤ maxLen)⟩
  · exact ⟨(by decide : validL [UInt8.ofNat (97 + 2)] = true), (by decide : 1 ≤ maxLen)⟩

theorem LastR.step {w wr w3 : World} {d mb m k : Nat} {T : List (ByteArray × Sl)} {E : List Ent} {nv tv hv : Value} {nm : ByteArray} {p : Pt} {kk : Int} {e : Ending}
    (h : LastR w d mb m T k (E.map Ent.n) (E.map Ent.t) E nv tv hv wr) (hI : LastI T k E) (hF : FoundAt E (nm, p.t) k kk) (hv' : validL nm.data.toList = true) (hP : TabPut wr d mb T k m nm p e w3) :
    (e = .returned (.int .i64 22) ∧ kk = -1 ∧ k = m ∧ LastR w d mb m T k (E.map Ent.n) (E.map Ent.t) E nv tv hv w3) ∨
    (e = .returned (.int .i64 0) ∧ kk = -1 ∧ k < m ∧ ∃ T', LastR w d mb m T' (k + 1) (E.map Ent.n) (E.map Ent.t) E nv tv hv w3 ∧ LastI T' (k + 1) (E ++ [⟨nm, p.t, p.v, p.s⟩])) ∨
    (e = .returned (.int .i64 0) ∧ ∃ (r : Nat) (x : Ent) (T' : List (ByteArray × Sl)), kk = (r : Int) ∧ E[r]? = some x ∧ r < k ∧ LastR w d mb m T' k (E.map Ent.n) (E.map Ent.t) E nv tv hv w3 ∧ LastI T' k (E.set r (if x.s ≤ p.s then ⟨nm, p.t, p.v, p.s⟩ else x)) ∧ x.n = nm ∧ x.t = p.t) := by
  have hlen := hI.len
  have hr := (h.tab.at nm).2.1
  obtain ⟨hc, hP⟩ := hP
  have hno : hasL (tabPts T nm) p.t = false → kk = -1 := fun hh => by
    rcases hF with ⟨h1, _⟩ | ⟨r, x, _, _, hx, hk⟩
    · exact h1
    · have := (hI.has nm p.t).2 (List.mem_map.2 ⟨x, List.mem_of_getElem? hx, hk⟩)
      rw [hh] at this; cases this
  have hyes : hasL (tabPts T nm) p.t = true → ∃ (r : Nat) (x : Ent), kk = (r : Int) ∧ r < k ∧ E[r]? = some x ∧ x.key = (nm, p.t) := fun hh => by
    rcases hF with ⟨_, h2⟩ | h2
    · obtain ⟨x, hx, hk⟩ := List.mem_map.1 ((hI.has nm p.t).1 hh)
      exact absurd hk (h2 x (by rw [List.take_of_length_le (by omega)]; exact hx))
    · exact h2
  have hs0 : ∀ s : Sl, IsMerge [tabPts T nm, [p]] s.l → s.l ≠ [] := fun s hm e => by
    obtain ⟨x, hx, _⟩ := hm.has 1 [p] p rfl (by simp)
    rw [e] at hx; cases hx
  rcases hP with ⟨h1, _⟩ | ⟨_, hh, hcm, rfl, hT⟩ | ⟨_, rfl, s, hm, hfr, ⟨hh, hT⟩ | ⟨hh, hlt, hT⟩⟩
  · rw [hv'] at h1; cases h1
  · refine .inl ⟨rfl, hno hh, hcm, ?_⟩
    have hR := h.rows
    have hn : ∀ g, (nv.ownBlock = some g ∨ tv.ownBlock = some g ∨ hv.ownBlock = some g) → ¬ (g = d ∨ g = mb) := fun g hg e => by
      have := hR.own g hg
      rcases e with e | e
      · exact this.2.1 e
      · exact this.2.2.1 e
    exact ⟨hT, h.ne, ⟨hR.rn.chg hc (fun g hg => hn g (.inl hg)), hR.rt.chg hc (fun g hg => hn g (.inr (.inl hg))), hR.rh.chg hc (fun g hg => hn g (.inr (.inr hg))), hR.own, hR.nt, hR.nh, hR.th⟩,
      ((Chg.of_ext (S := fun b => b = d ∨ b = mb) h.ext).trans hc (fun _ _ e => e)).ext (fun i hi e => by have := h.new; omega), h.new⟩
  · obtain ⟨r, x, h1, h2, h3, h4⟩ := hyes hh
    simp only [Ent.key, Prod.mk.injEq] at h4
    exact .inr (.inr ⟨rfl, r, x, _, h1, h3, h2, h.put hc hT (hs0 s hm) hfr, hI.put_old hr hm h3 h4.1 h4.2, h4.1, h4.2⟩)
  · exact .inr (.inl ⟨rfl, hno hh, hlt, _, h.put hc hT (hs0 s hm) hfr, hI.put_new hr hm hh⟩)

theorem owns_get (E : List Ent) (r : Nat) (x : Ent) (h : E[r]? = some x) : (owns E)[r * 2]? = some (.int .i64 x.v) ∧ (owns E)[r * 2 + 1]? = some (.int .i64 x.s) := by
  induction E generalizing r with
  | nil => simp at h
  | cons e E ih =>
    cases r with
    | zero => simp at h; subst h; simp [owns]
    | succ r =>
      have := ih r (by simpa using h)
      rw [show (r + 1) * 2 = r * 2 + 2 by omega]
      simpa [owns] using this
theorem owns_set (E : List Ent) (r : Nat) (x e : Ent) (h : E[r]? = some x) : ((owns E).set (r * 2) (.int .i64 e.v)).set (r * 2 + 1) (.int .i64 e.s) = owns (E.set r e) := by
  induction E generalizing r with
  | nil => simp at h
  | cons y E ih =>
    cases r with
    | zero => simp [owns]
    | succ r =>
      have := ih r (by simpa using h)
      rw [show (r + 1) * 2 = r * 2 + 2 by omega]
      simp only [owns, List.flatMap_cons, List.set_cons_succ, List.cons_append, List.nil_append] at this ⊢
      rw [this]
theorem map_set' {β : Type} {E : List Ent} {r : Nat} {x y : Ent} (f : Ent → β) (h : E[r]? = some x) (hf : f y = f x) : (E.set r y).map f = E.map f := by
  rw [List.map_set, hf]
  refine List.ext_getElem? (fun j => ?_)
  rw [List.getElem?_set]
  obtain ⟨hl, rfl⟩ := List.getElem?_eq_some_iff.1 h
  split
  · rename_i hj
    subst hj
    simp [hl]
  · rfl
theorem set_n {E : List Ent} {r : Nat} {x : Ent} {nm : ByteArray} {t v s : Int} (h : E[r]? = some x) (hf : x.n = nm) : (E.set r ⟨nm, t, v, s⟩).map Ent.n = E.map Ent.n := map_set' _ h hf.symm
theorem set_t {E : List Ent} {r : Nat} {x : Ent} {nm : ByteArray} {t v s : Int} (h : E[r]? = some x) (hf : x.t = t) : (E.set r ⟨nm, t, v, s⟩).map Ent.t = E.map Ent.t := map_set' _ h hf.symm
theorem sum_take_le (l : List Nat) (r : Nat) : (l.take r).sum ≤ l.sum := by
  have := congrArg List.sum (List.take_append_drop r l)
  rw [List.sum_append] at this
  omega
theorem prs_get (L : List (ByteArray × Sl)) (r : Nat) (x : ByteArray × Sl) (h : L[r]? = some x) : (prs L)[r * 2 + 1]? = some x.2.v := by
  induction L generalizing r with
  | nil => simp at h
  | cons e L ih =>
    cases r with
    | zero => simp at h; subst h; simp [prs]
    | succ r =>
      have := ih r (by simpa using h)
      rw [show (r + 1) * 2 + 1 = r * 2 + 1 + 2 by omega]
      simpa [prs] using this
theorem parts_at {w : World} {t : TypeId} {a : Option Addr} {c r : Nat} {L : List (ByteArray × Sl)} (h : Row w t 2 (.slice a L.length c) L.length (prs L)) (hr : r < L.length) :
    ∃ g x, a = some ⟨g, 0, none⟩ ∧ L[r]? = some x ∧ w.cell? ⟨g, r * 2 + 1, none⟩ = some x.2.v := by
  obtain ⟨_, ⟨e, h0⟩ | ⟨g, cap, cur, e, _, hb, h1, h2, h3, h4⟩⟩ := h
  · omega
  · simp only [Value.slice.injEq] at e
    obtain ⟨rfl, _, rfl⟩ := e
    have hx : L[r]? = some L[r] := List.getElem?_eq_getElem hr
    have e1 := prs_get L r _ hx
    rw [← h4, List.getElem?_take, if_pos (by omega)] at e1
    exact ⟨g, L[r], rfl, hx, by rw [cell_of_block hb]; simpa using e1⟩
theorem set_same {E : List Ent} {r : Nat} {x : Ent} (h : E[r]? = some x) : E.set r x = E := by
  obtain ⟨hl, rfl⟩ := List.getElem?_eq_some_iff.1 h
  exact List.set_getElem_self hl
theorem owns_at {w : World} {t : TypeId} {a : Option Addr} {n c r : Nat} {E : List Ent} {x : Ent} (h : Row w t 2 (.slice a n c) n (owns E)) (hx : E[r]? = some x) :
    ∃ g, a = some ⟨g, 0, none⟩ ∧ w.cell? ⟨g, r * 2, none⟩ = some (.int .i64 x.v) ∧ w.cell? ⟨g, r * 2 + 1, none⟩ = some (.int .i64 x.s) ∧ ∀ k, w.frozen? ⟨g, k, none⟩ = false := by
  obtain ⟨hl, ⟨e, h0⟩ | ⟨g, cap, cur, e, _, hb, h1, h2, h3, h4⟩⟩ := h
  · rw [owns_len] at hl
    have := (List.getElem?_eq_some_iff.1 hx).1
    omega
  · simp only [Value.slice.injEq] at e
    obtain ⟨rfl, _, rfl⟩ := e
    obtain ⟨e0, e1⟩ := owns_get E r x hx
    rw [← h4, List.getElem?_take] at e0 e1
    split at e0
    · split at e1
      · exact ⟨g, rfl, by rw [cell_of_block hb]; simpa using e0, by rw [cell_of_block hb]; simpa using e1, fun k => free_of_block hb k⟩
      · cases e1
    · cases e0
theorem Row.setOwn {w : World} {t : TypeId} {g n c r : Nat} {E : List Ent} {x e : Ent} (h : Row w t 2 (.slice (some ⟨g, 0, none⟩) n c) n (owns E)) (hx : E[r]? = some x) :
    Row ((w.setCell ⟨g, r * 2, none⟩ (.int .i64 e.v)).setCell ⟨g, r * 2 + 1, none⟩ (.int .i64 e.s)) t 2 (.slice (some ⟨g, 0, none⟩) n c) n (owns (E.set r e)) := by
  obtain ⟨hl, ⟨e', _⟩ | ⟨g', cap, cur, e', hb0, hb, h1, h2, h3, h4⟩⟩ := h
  · cases e'
  · simp only [Value.slice.injEq, Option.some.injEq, Addr.mk.injEq, and_true, true_and] at e'
    obtain ⟨rfl, rfl⟩ := e'
    refine ⟨by rw [owns_len, List.length_set]; rw [owns_len] at hl; exact hl, .inr ⟨g, c, _, rfl, hb0, setCell_block (setCell_block hb _) _, h1, h2, by simpa using h3, ?_⟩⟩
    rw [Array.toList_setIfInBounds, Array.toList_setIfInBounds, List.take_set, List.take_set, h4, owns_set E r x e hx]
theorem LastR.setH {w wr : World} {d mb most cnt g n c r : Nat} {T : List (ByteArray × Sl)} {N : List ByteArray} {Z : List Int} {H : List Ent} {nv tv : Value} {x e : Ent} (h : LastR w d mb most T cnt N Z H nv tv (.slice (some ⟨g, 0, none⟩) n c) wr) (hn : H.length = n) (hx : H[r]? = some x) :
    LastR w d mb most T cnt N Z (H.set r e) nv tv (.slice (some ⟨g, 0, none⟩) n c) ((wr.setCell ⟨g, r * 2, none⟩ (.int .i64 e.v)).setCell ⟨g, r * 2 + 1, none⟩ (.int .i64 e.s)) := by
  subst hn
  have hC : Chg (fun b => (Value.slice (some ⟨g, 0, none⟩) H.length c).ownBlock = some b) wr ((wr.setCell ⟨g, r * 2, none⟩ (.int .i64 e.v)).setCell ⟨g, r * 2 + 1, none⟩ (.int .i64 e.s)) :=
    ((setCell_chg _ _ _ _).trans (setCell_chg _ _ _ _) (fun _ _ e => e)).mono (fun i _ e => by simp [Value.ownBlock, e])
  have hR := h.rows
  exact ⟨h.tab.chg hC (fun e => (hR.own d (.inr (.inr e))).2.1 rfl) (fun e => (hR.own mb (.inr (.inr e))).2.2.1 rfl) (fun p hp g hg e => (hR.own g (.inr (.inr e))).2.2.2 p hp hg), h.ne,
    ⟨hR.rn.chg hC (fun g hg e => hR.nh g hg e), hR.rt.chg hC (fun g hg e => hR.th g hg e), by rw [List.length_set]; exact hR.rh.setOwn hx, hR.own, hR.nt, hR.nh, hR.th⟩,
    ((Chg.of_ext (S := fun b => (Value.slice (some ⟨g, 0, none⟩) H.length c).ownBlock = some b) h.ext).trans hC (fun _ _ e => e)).ext (fun i hi e => by have := (hR.own i (.inr (.inr e))).1; omega), h.new⟩

theorem same_eq (a b : ByteArray) : (a.toList == b.toList) = decide (a = b) := by
  rw [← beq_toListBytes, bytes_beq]

set_option maxHeartbeats 16000000 in
set_option maxRecDepth 100000 in
theorem memLast_any (w : World) (a b : Option Addr) (n c n2 c2 : Nat) (l : List Sm) (zs : List Int) (mo : Int) (hs : Src w 3 (.slice a n c) n (sms l)) (hz : Src w 1 (.slice b n2 c2) n2 (zints zs)) (hn : n ≤ 1099511627776000) (hn2 : n2 ≤ 17592186044416) :
    Calls Try.prog 4 #[.slice a n c, .slice b n2 c2, .int .i64 mo] w fun e w' => e = .returned (.bool true) ∧ Ext w w' := by
  have HS := Lib.hid hs
  have HZ := Lib.hid hz
  clear hs hz
  have hm := i64_and31 mo
  obtain ⟨m, hm2, hm3, hm4⟩ : ∃ m : Nat, (1 : Int) + mo % 32 = m ∧ 1 ≤ m ∧ m ≤ 32 := ⟨(1 + mo % 32).toNat, by omega, by omega, by omega⟩
  go_enter Try.func4, Try.ntmps4
  go_wp2_with fail
  refine (tab_new w m hm3 (by omega)).mono ?_
  rintro e w1 ⟨rfl, hT, hx1⟩
  clear hm hm2
  obtain ⟨d, hd⟩ : ∃ d, d = w.heap.size + 1 := ⟨_, rfl⟩
  obtain ⟨mb, hmb⟩ : ∃ mb, mb = w.heap.size := ⟨_, rfl⟩
  have HR1 : Hid (LastR w d mb m [] 0 [] [] [] (.slice none 0 0) (.slice none 0 0) (.slice none 0 0) w1) := Lib.hid (by
    subst hd hmb
    exact ⟨hT, by simp, ⟨Row.nil _ _ _, Row.nil _ _ _, Row.nil _ _ _, fun g hg => by simp [Value.ownBlock] at hg, fun g hg => by simp [Value.ownBlock] at hg, fun g hg => by simp [Value.ownBlock] at hg, fun g hg => by simp [Value.ownBlock] at hg⟩, hx1, ⟨by omega, by omega⟩⟩)
  rw [← hd]
  clear hT hx1 hd hmb
  go_wp2_with fail
  go_loopw [9, 10, 11, 12] (fun s9 s10 s11 s12 wr => ∃ (i : Nat) (T : List (ByteArray × Sl)) (E : List Ent) (k : Nat) (na ta ha : Option Addr) (nc tc hc : Nat), i ≤ n ∧ i ≤ n2 ∧ i ≤ 100 ∧ s12 = .int .i64 i ∧ s9 = .slice na k nc ∧ s10 = .slice ta k tc ∧ s11 = .slice ha k hc ∧
      Hid (LastR w d mb m T k (E.map Ent.n) (E.map Ent.t) E (.slice na k nc) (.slice ta k tc) (.slice ha k hc) wr) ∧ Hid (LastI T k E) ∧ Hid (∀ e ∈ E, 0 ≤ e.t ∧ e.t < 8)) (fun _ _ _ i _ => n - (RowKit.intOf i).toNat)
  case atStart => exact ⟨0, [], [], 0, none, none, none, 0, 0, 0, by omega, by omega, by omega, rfl, rfl, rfl, rfl, HR1, Lib.hid LastI.start, Lib.hid (by simp)⟩
  case round =>
    clear HR1
    obtain ⟨i, T, E, k, na, ta, ha, nc, tc, hc, hi, hi2, hi3, rfl, rfl, rfl, rfl, HR, HI, HT8⟩ := hrel
    have hkm : k ≤ m := HR.out.tab.le
    have HLE := Lib.hid HI.out.len
    by_cases hlt : i < n ∧ i < n2 ∧ i < 100
    · obtain ⟨hlt, hlt2, hlt3⟩ := hlt
      obtain ⟨qb, qo, q, rfl, hq, q0, q1, q2⟩ := sms_src HS.out hlt
      obtain ⟨zb, zo, z, rfl, hzz, z0⟩ := zints_src HZ.out hlt2
      have HCQ : Hid (∀ w', Ext w w' → w'.cell? ⟨qb, qo + i * 3, none⟩ = some (.string q.s) ∧ w'.cell? ⟨qb, qo + i * 3 + 1, none⟩ = some (.int .i64 q.t) ∧ w'.cell? ⟨qb, qo + i * 3 + 2, none⟩ = some (.int .i64 q.v) ∧ w'.cell? ⟨zb, zo + i, none⟩ = some (.int .i64 z)) := Lib.hid (fun w' hx =>
        ⟨(hx.cell (p := ⟨qb, qo + i * 3, none⟩) (World.block_lt_of_cell? w _ q0)).trans q0, (hx.cell (p := ⟨qb, qo + i * 3 + 1, none⟩) (World.block_lt_of_cell? w _ q1)).trans q1, (hx.cell (p := ⟨qb, qo + i * 3 + 2, none⟩) (World.block_lt_of_cell? w _ q2)).trans q2, (hx.cell (p := ⟨zb, zo + i, none⟩) (World.block_lt_of_cell? w _ z0)).trans z0⟩)
      have HQB : Hid (qb < w.heap.size ∧ zb < w.heap.size) := Lib.hid ⟨World.block_lt_of_cell? w _ q0, World.block_lt_of_cell? w _ z0⟩
      clear hq hzz q0 q1 q2 z0
      obtain ⟨q0, q1, q2, z0⟩ := HCQ.out wr HR.out.ext
      have hb7 := i64_and7 q.t
      obtain ⟨kb, hk1, hk2⟩ : ∃ kb : Nat, ((q.s.size : Int) % 3) = kb ∧ kb ≤ 2 := ⟨q.s.size % 3, by omega, by omega⟩
      have hk3 : q.s.size % 3 = kb := by omega
      obtain ⟨bt, hbt⟩ : ∃ bt : UInt8, bt = UInt8.ofNat (97 + kb) := ⟨_, rfl⟩
      have HB : Hid (bt.toNat = 97 + kb) := Lib.hid (by rw [hbt, UInt8.toNat_ofNat']; omega)
      have HNM : Hid (lastNm q = ⟨#[bt]⟩) := Lib.hid (by rw [lastNm, hk3, hbt])
      clear hk3 hbt
      have hcv := run_convert_bytes_back (P := Try.prog) (wr.alloc (.cells #[.int .u8 (97 + (kb : Int))] 5 (0, 0))) 29 9 5 ⟨wr.heap.size, 0, none⟩ 1 [bt] Try.underlying29 Try.underlying5 Try.underlying9 (fun j hj => by
          have e : j = 0 := by simpa using hj
          subst e
          simp only [List.getElem_cons_zero, HB.out]
          simp [go_sem, Addr.add])
      simp only [List.length_cons, List.length_nil, Nat.zero_add] at hcv
      have q1' := fun o => (((Ext.refl wr).alloc o).cell (p := ⟨qb, qo + i * 3 + 1, none⟩) (World.block_lt_of_cell? wr _ q1)).trans q1
      go_wp2_with fail
      clear hcv q1'
      generalize hW : World.alloc wr _ = W
      have HXW : Hid (Ext wr W) := Lib.hid (by rw [← hW]; exact (Ext.refl wr).alloc _)
      clear hW
      have HR2 := Lib.hid (HR.out.ext' HXW.out)
      have p1 := (HXW.out.cell (p := ⟨qb, qo + i * 3 + 2, none⟩) (World.block_lt_of_cell? wr _ q2)).trans q2
      have p2 := (HXW.out.cell (p := ⟨zb, zo + i, none⟩) (World.block_lt_of_cell? wr _ z0)).trans z0
      clear q0 q1 q2 z0 hb7 hk1 hk2
      obtain ⟨tt, htt⟩ : ∃ tt, tt = q.t % 8 := ⟨_, rfl⟩
      have HTT : Hid (0 ≤ tt ∧ tt < 8) := Lib.hid (by omega)
      rw [← htt]
      clear htt
      obtain ⟨nm, hnm⟩ : ∃ nm : ByteArray, nm = ⟨#[bt]⟩ := ⟨_, rfl⟩
      rw [← hnm]
      have HNV : Hid (validL nm.data.toList = true ∧ nm.size ≤ maxLen) := Lib.hid (by rw [hnm, ← HNM.out]; exact lastNm_valid q)
      clear hnm HB HNM
      go_loop [15, 16] (fun s15 s16 => ∃ (j : Nat) (kk : Int), j ≤ k ∧ s16 = .int .i64 j ∧ s15 = .int .i64 kk ∧ Hid (FoundAt E (nm, tt) j kk)) (fun _ j => k - (RowKit.intOf j).toNat)
      case atStart => exact ⟨0, -1, by omega, rfl, rfl, Lib.hid (FoundAt.start _ _)⟩
      case round =>
        obtain ⟨j, kk, hj, rfl, rfl, HF⟩ := hrel
        by_cases hjk : j < k
        · obtain ⟨e, he⟩ : ∃ e, E[j]? = some e := ⟨_, List.getElem?_eq_getElem (by have := HLE.out; omega)⟩
          obtain ⟨nbk, nof, x, hna, hx, cx⟩ := strs_src (by have h := HR2.out.rows.rn.strs_src; rw [List.length_map, HLE.out] at h; exact h) hjk
          obtain ⟨tbk, tof, y, hta, hy, cy⟩ := zints_src (by have h := HR2.out.rows.rt.src (zints_one _); rw [List.length_map, HLE.out] at h; exact h) hjk
          rw [List.getElem?_map, he] at hx hy
          simp only [Option.map_some, Option.some.injEq] at hx hy
          subst hx hy hna hta
          have HE := Lib.hid he
          clear he
          by_cases h1 : e.n = nm
          · have hb1 : (e.n.toList == nm.toList) = true := by rw [same_eq]; simpa using h1
            by_cases h2 : e.t = tt
            · have hb2 : (e.t == tt) = true := beq_iff_eq.2 h2
              have HY : Hid (FoundAt E (nm, tt) (j + 1) (j : Int)) := Lib.hid (FoundAt.yes HE.out (by rw [Ent.key, h1, h2]))
              clear h1 h2
              go_wp2_with fail
              go_round
              case rel => exact ⟨j + 1, _, by omega, by go_num, rfl, HY⟩
              case measure => simp [RowKit.intOf]; omega
            · have hb2 : (e.t == tt) = false := beq_eq_false_iff_ne.2 h2
              have HY : Hid (FoundAt E (nm, tt) (j + 1) kk) := Lib.hid (FoundAt.no HF.out HE.out (fun e => h2 (congrArg Prod.snd e)))
              clear h1 h2
              go_wp2_with fail
              go_round
              case rel => exact ⟨j + 1, _, by omega, by go_num, rfl, HY⟩
              case measure => simp [RowKit.intOf]; omega
          · have hb1 : (e.n.toList == nm.toList) = false := by rw [same_eq]; simpa using h1
            have HY : Hid (FoundAt E (nm, tt) (j + 1) kk) := Lib.hid (FoundAt.no HF.out HE.out (fun e => h1 (congrArg Prod.fst e)))
            clear h1
            go_wp2_with fail
            go_round
            case rel => exact ⟨j + 1, _, by omega, by go_num, rfl, HY⟩
            case measure => simp [RowKit.intOf]; omega
        · have hjk' : j = k := by omega
          subst hjk'
          go_wp2_with fail
          have f0 := cell_turned (T := fun _ => false) p1 rfl
          have f1 := cell_turned (T := fun _ => false) p2 rfl
          refine wp_region_plan 13 (fun w' => ∃ p : Turned, w' = turned W (fun _ => false) p.d p.f p.os) (.reads [0, 1, 2, 3, 4, 5, 6, 7, 8, 9, 10, 11, 12] (.one 13 (.one 14 .done))) (by kernel_rfl) (by kernel_rfl) (fun _ _ dd _ _ hh => by cases dd <;> exact hh) ?_ ?_
          · exact turned_of_ext (Ext.drewN W 1)
          refine wpPlan_reads ?_
          simp only [pickOps, List.getElem?_cons_succ, List.getElem?_cons_zero]
          repeat (go_big_quiet_step (fail))
          refine wpQuiet_nil ?_
          refine wpPlan_one ?_
          simp only [pickOps, List.getElem?_cons_succ, List.getElem?_cons_zero]
          clear f0 f1
          have HP2 := Lib.hid (And.intro p1 p2)
          clear p1 p2
          go_wp2_with fail
          have HRD := Lib.hid (HR2.out.ext' (Ext.drewN W 1))
          refine (tab_put HRD.out.tab nm ⟨tt, q.v, z⟩ HNV.out.2).mono ?_
          rintro e w3 hP
          rcases HRD.out.step HI.out HF.out HNV.out.1 hP with ⟨rfl, rfl, hkm', hR3⟩ | ⟨rfl, rfl, hkm', T', hR3, hI3⟩ | ⟨rfl, r, x, T', rfl, hx, hrk, hR3, hI3, hxn, hxt⟩
          · have HR3 := Lib.hid hR3
            clear hP hR3
            go_wp2_with fail
            refine thenX_last (wpPlan_one ?_)
            simp only [pickOps, List.getElem?_cons_succ, List.getElem?_cons_zero]
            go_wp2_with fail
            refine thenX_last (wpPlan_done ?_)
            subst hkm'
            go_wp2_with fail
            go_roundw
            case rel => exact ⟨i + 1, T, E, _, na, ta, ha, nc, tc, hc, by omega, by omega, by omega, by go_num, rfl, rfl, rfl, HR3, HI, HT8⟩
            case measure => simp [RowKit.intOf]; omega
          · have HR3 := Lib.hid hR3
            have HI3 := Lib.hid hI3
            clear hP hR3 hI3
            go_wp2_with fail
            refine thenX_last (wpPlan_one ?_)
            simp only [pickOps, List.getElem?_cons_succ, List.getElem?_cons_zero]
            go_wp2_with fail
            refine thenX_last (wpPlan_done ?_)
            have hb : ((j : Int) == (m : Int)) = false := beq_eq_false_iff_ne.2 (by omega)
            go_wp2_with fail
            obtain ⟨y0, y1, y2, yz⟩ := HCQ.out w3 HR3.out.ext
            have f0 := cell_turned (T := fun k => decide (w.heap.size ≤ k)) y2 (decide_eq_false (by have := HQB.out; show ¬ w.heap.size ≤ qb; omega))
            have f1 := cell_turned (T := fun k => decide (w.heap.size ≤ k)) yz (decide_eq_false (by have := HQB.out; show ¬ w.heap.size ≤ zb; omega))
            refine wp_region_plan 20 (fun w' => ∃ p : Turned, w' = turned w3 (fun k => decide (w.heap.size ≤ k)) p.d p.f p.os) (.reads [0, 1, 4, 5, 8, 9, 10, 11, 12, 13, 14, 15, 16, 17, 18] (.three 2 (.three 3 (.two 6 (.two 7 (.one 19 (.one 20 (.one 21 (.one 22 (.one 23 .done))))) 19 (.one 7 (.one 20 (.one 21 (.one 22 (.one 23 .done)))))) 19 (.one 6 (.one 7 (.one 20 (.one 21 (.one 22 (.one 23 .done))))))) 6 (.two 3 (.two 7 (.one 19 (.one 20 (.one 21 (.one 22 (.one 23 .done))))) 19 (.one 7 (.one 20 (.one 21 (.one 22 (.one 23 .done)))))) 19 (.one 3 (.one 7 (.one 20 (.one 21 (.one 22 (.one 23 .done))))))) 19 (.two 3 (.one 6 (.one 7 (.one 20 (.one 21 (.one 22 (.one 23 .done)))))) 6 (.one 3 (.one 7 (.one 20 (.one 21 (.one 22 (.one 23 .done)))))))) 6 (.two 2 (.two 3 (.two 7 (.one 19 (.one 20 (.one 21 (.one 22 (.one 23 .done))))) 19 (.one 7 (.one 20 (.one 21 (.one 22 (.one 23 .done)))))) 19 (.one 3 (.one 7 (.one 20 (.one 21 (.one 22 (.one 23 .done))))))) 19 (.one 2 (.one 3 (.one 7 (.one 20 (.one 21 (.one 22 (.one 23 .done)))))))) 19 (.two 2 (.two 3 (.one 6 (.one 7 (.one 20 (.one 21 (.one 22 (.one 23 .done)))))) 6 (.one 3 (.one 7 (.one 20 (.one 21 (.one 22 (.one 23 .done))))))) 6 (.one 2 (.one 3 (.one 7 (.one 20 (.one 21 (.one 22 (.one 23 .done)))))))))) (by kernel_rfl) (by kernel_rfl) (fun _ _ dd _ _ hh => by cases dd <;> exact hh) ?_ ?_
            · exact turned_of_ext (Ext.drewN w3 1)
            refine wpPlan_reads ?_
            simp only [pickOps, List.getElem?_cons_succ, List.getElem?_cons_zero]
            repeat (go_big_quiet_step (fail))
            refine wpQuiet_nil ?_
            clear f0 f1 y0 y1 y2 yz
            generalize hw4 : (World.mk _ _ _ _ _ : World) = w4
            have HX4 : Hid (Ext w3 w4) := Lib.hid (by rw [← hw4]; exact Ext.drewN w3 1)
            clear hw4
            have HA : Hid (ApS w w3 d mb m (j + 1) T' nm tt ⟨nm, tt, q.v, z⟩ (E.map Ent.n) (E.map Ent.t) E (.slice na j nc) (.slice ta j tc) (.slice ha j hc) none none none w4) := Lib.hid ⟨Chg.of_ext HX4.out, HR3.out.ext' HX4.out, (fun b e => by cases e), (fun b e => by cases e), (fun b e => by cases e)⟩
            refine wpPlan_three ?_ ?_ ?_
            all_goals
              as_aux_lemma =>
                simp only [pickOps, List.getElem?_cons_succ, List.getElem?_cons_zero]
                first
                  | (refine wpList_append_to (n := j) (m := 1) elem_str rfl _ _ rfl (v := .slice _ _ _) rfl rfl (by have h := HA.out.r.rows.rn; rw [List.length_map, HLE.out] at h; exact h) (src_str' (HA.out.ln _ rfl).blk) (by unfold maxLen; omega) (by omega) ?_
                     intro v' wn happ
                     have HB := Lib.hid (HA.out.appN (by rw [List.length_map, HLE.out]; exact happ))
                     clear HA
                     have HA := HB
                     obtain ⟨va, vc, rfl⟩ := happ.row.shape
                     clear happ HB
                     go_wp2_with fail
                     refine thenX_mk (turned_of_chg HA.out.chg) ?_)
                  | (refine wpList_append_to (n := j) (m := 1) elem_int rfl _ _ rfl (v := .slice _ _ _) rfl rfl (by have h := HA.out.r.rows.rt; rw [List.length_map, HLE.out] at h; exact h) (src_int' (HA.out.lt _ rfl).blk) (by unfold maxLen; omega) (by omega) ?_
                     intro v' wn happ
                     have HB := Lib.hid (HA.out.appT (by rw [List.length_map, HLE.out]; exact happ))
                     clear HA
                     have HA := HB
                     obtain ⟨va, vc, rfl⟩ := happ.row.shape
                     clear happ HB
                     go_wp2_with fail
                     refine thenX_mk (turned_of_chg HA.out.chg) ?_)
                  | (refine wpList_append_to (n := j) (m := 1) elem_own rfl _ _ rfl (v := .slice _ _ _) rfl rfl (by have h := HA.out.r.rows.rh; rw [HLE.out] at h; exact h) (src_own' (e := ⟨nm, tt, q.v, z⟩) (HA.out.lh _ rfl).blk) (by unfold maxLen; omega) (by omega) ?_
                     intro v' wn happ
                     have HB := Lib.hid (HA.out.appH (by rw [HLE.out]; exact happ))
                     clear HA
                     have HA := HB
                     obtain ⟨va, vc, rfl⟩ := happ.row.shape
                     clear happ HB
                     go_wp2_with fail
                     refine thenX_mk (turned_of_chg HA.out.chg) ?_)
                  | (go_wp2_with fail
                     generalize hW : World.alloc _ _ = wn
                     first
                       | (have HB := Lib.hid HA.out.allocN; rw [hW] at HB; clear HA hW; have HA := HB; clear HB; refine thenX_mk (turned_of_chg HA.out.chg) ?_)
                       | (have HB := Lib.hid HA.out.allocT; rw [hW] at HB; clear HA hW; have HA := HB; clear HB; refine thenX_mk (turned_of_chg HA.out.chg) ?_)
                       | (have HB := Lib.hid HA.out.allocH; rw [hW] at HB; clear HA hW; have HA := HB; clear HB; refine thenX_mk (turned_of_chg HA.out.chg) ?_))
                first | refine wpPlan_three ?_ ?_ ?_ | refine wpPlan_two ?_ ?_ | refine wpPlan_one ?_
                all_goals
                  as_aux_lemma =>
                    simp only [pickOps, List.getElem?_cons_succ, List.getElem?_cons_zero]
                    first
                      | (refine wpList_append_to (n := j) (m := 1) elem_str rfl _ _ rfl (v := .slice _ _ _) rfl rfl (by have h := HA.out.r.rows.rn; rw [List.length_map, HLE.out] at h; exact h) (src_str' (HA.out.ln _ rfl).blk) (by unfold maxLen; omega) (by omega) ?_
                         intro v' wn happ
                         have HB := Lib.hid (HA.out.appN (by rw [List.length_map, HLE.out]; exact happ))
                         clear HA
                         have HA := HB
                         obtain ⟨va, vc, rfl⟩ := happ.row.shape
                         clear happ HB
                         go_wp2_with fail
                         refine thenX_mk (turned_of_chg HA.out.chg) ?_)
                      | (refine wpList_append_to (n := j) (m := 1) elem_int rfl _ _ rfl (v := .slice _ _ _) rfl rfl (by have h := HA.out.r.rows.rt; rw [List.length_map, HLE.out] at h; exact h) (src_int' (HA.out.lt _ rfl).blk) (by unfold maxLen; omega) (by omega) ?_
                         intro v' wn happ
                         have HB := Lib.hid (HA.out.appT (by rw [List.length_map, HLE.out]; exact happ))
                         clear HA
                         have HA := HB
                         obtain ⟨va, vc, rfl⟩ := happ.row.shape
                         clear happ HB
                         go_wp2_with fail
                         refine thenX_mk (turned_of_chg HA.out.chg) ?_)
                      | (refine wpList_append_to (n := j) (m := 1) elem_own rfl _ _ rfl (v := .slice _ _ _) rfl rfl (by have h := HA.out.r.rows.rh; rw [HLE.out] at h; exact h) (src_own' (e := ⟨nm, tt, q.v, z⟩) (HA.out.lh _ rfl).blk) (by unfold maxLen; omega) (by omega) ?_
                         intro v' wn happ
                         have HB := Lib.hid (HA.out.appH (by rw [HLE.out]; exact happ))
                         clear HA
                         have HA := HB
                         obtain ⟨va, vc, rfl⟩ := happ.row.shape
                         clear happ HB
                         go_wp2_with fail
                         refine thenX_mk (turned_of_chg HA.out.chg) ?_)
                      | (go_wp2_with fail
                         generalize hW : World.alloc _ _ = wn
                         first
                           | (have HB := Lib.hid HA.out.allocN; rw [hW] at HB; clear HA hW; have HA := HB; clear HB; refine thenX_mk (turned_of_chg HA.out.chg) ?_)
                           | (have HB := Lib.hid HA.out.allocT; rw [hW] at HB; clear HA hW; have HA := HB; clear HB; refine thenX_mk (turned_of_chg HA.out.chg) ?_)
                           | (have HB := Lib.hid HA.out.allocH; rw [hW] at HB; clear HA hW; have HA := HB; clear HB; refine thenX_mk (turned_of_chg HA.out.chg) ?_))
                    iterate 4
                      all_goals (first | refine wpPlan_three ?_ ?_ ?_ | refine wpPlan_two ?_ ?_ | refine wpPlan_one ?_)
                      all_goals (simp only [pickOps, List.getElem?_cons_succ, List.getElem?_cons_zero])
                      all_goals
                        first
                          | (refine wpList_append_to (n := j) (m := 1) elem_str rfl _ _ rfl (v := .slice _ _ _) rfl rfl (by have h := HA.out.r.rows.rn; rw [List.length_map, HLE.out] at h; exact h) (src_str' (HA.out.ln _ rfl).blk) (by unfold maxLen; omega) (by omega) ?_
                             intro v' wn happ
                             have HB := Lib.hid (HA.out.appN (by rw [List.length_map, HLE.out]; exact happ))
                             clear HA
                             have HA := HB
                             obtain ⟨va, vc, rfl⟩ := happ.row.shape
                             clear happ HB
                             go_wp2_with fail
                             refine thenX_mk (turned_of_chg HA.out.chg) ?_)
                          | (refine wpList_append_to (n := j) (m := 1) elem_int rfl _ _ rfl (v := .slice _ _ _) rfl rfl (by have h := HA.out.r.rows.rt; rw [List.length_map, HLE.out] at h; exact h) (src_int' (HA.out.lt _ rfl).blk) (by unfold maxLen; omega) (by omega) ?_
                             intro v' wn happ
                             have HB := Lib.hid (HA.out.appT (by rw [List.length_map, HLE.out]; exact happ))
                             clear HA
                             have HA := HB
                             obtain ⟨va, vc, rfl⟩ := happ.row.shape
                             clear happ HB
                             go_wp2_with fail
                             refine thenX_mk (turned_of_chg HA.out.chg) ?_)
                          | (refine wpList_append_to (n := j) (m := 1) elem_own rfl _ _ rfl (v := .slice _ _ _) rfl rfl (by have h := HA.out.r.rows.rh; rw [HLE.out] at h; exact h) (src_own' (e := ⟨nm, tt, q.v, z⟩) (HA.out.lh _ rfl).blk) (by unfold maxLen; omega) (by omega) ?_
                             intro v' wn happ
                             have HB := Lib.hid (HA.out.appH (by rw [HLE.out]; exact happ))
                             clear HA
                             have HA := HB
                             obtain ⟨va, vc, rfl⟩ := happ.row.shape
                             clear happ HB
                             go_wp2_with fail
                             refine thenX_mk (turned_of_chg HA.out.chg) ?_)
                          | (go_wp2_with fail
                             generalize hW : World.alloc _ _ = wn
                             first
                               | (have HB := Lib.hid HA.out.allocN; rw [hW] at HB; clear HA hW; have HA := HB; clear HB; refine thenX_mk (turned_of_chg HA.out.chg) ?_)
                               | (have HB := Lib.hid HA.out.allocT; rw [hW] at HB; clear HA hW; have HA := HB; clear HB; refine thenX_mk (turned_of_chg HA.out.chg) ?_)
                               | (have HB := Lib.hid HA.out.allocH; rw [hW] at HB; clear HA hW; have HA := HB; clear HB; refine thenX_mk (turned_of_chg HA.out.chg) ?_))
                    iterate 3
                      all_goals (refine wpPlan_one ?_)
                      all_goals (simp only [pickOps, List.getElem?_cons_succ, List.getElem?_cons_zero])
                      all_goals (go_wp2_with fail)
                      all_goals (refine thenX_mk (turned_of_chg HA.out.chg) ?_)
                    all_goals (refine wpPlan_done ?_)
                    all_goals (go_wp2_with fail)
                    all_goals
                      go_roundw
                      case rel => exact ⟨i + 1, T', E ++ [⟨nm, tt, q.v, z⟩], j + 1, _, _, _, _, _, _, by omega, by omega, by omega, by go_num, rfl, rfl, rfl, Lib.hid (by rw [List.map_append, List.map_append]; exact HA.out.r), HI3, Lib.hid (fun e he => by
                        rcases List.mem_append.1 he with he | he
                        · exact HT8.out e he
                        · simp at he; rw [he]; exact HTT.out)⟩
                      case measure => simp [RowKit.intOf]; omega
          · have HR3 := Lib.hid hR3
            have HI3 := Lib.hid hI3
            have HX := Lib.hid hx
            have HXK := Lib.hid (And.intro hxn hxt)
            clear hP hR3 hI3 hx hxn hxt
            go_wp2_with fail
            refine thenX_last (wpPlan_one ?_)
            simp only [pickOps, List.getElem?_cons_succ, List.getElem?_cons_zero]
            go_wp2_with fail
            refine thenX_last (wpPlan_done ?_)
            have hr0 : ¬ (r : Int) < 0 := by omega
            go_wp2_with fail
            obtain ⟨y0, y1, y2, yz⟩ := HCQ.out w3 HR3.out.ext
            obtain ⟨g, rfl, hg0, hg1, hgf⟩ := owns_at (by have h := HR3.out.rows.rh; rw [HLE.out] at h; exact h) HX.out
            by_cases hle : x.s ≤ z
            · as_aux_lemma =>
              have HI4 : Hid (LastI T' j (E.set r ⟨nm, tt, q.v, z⟩)) := Lib.hid (by have := HI3.out; rw [if_pos hle] at this; exact this)
              go_big_quiet (fail)
              generalize hWD : World.drewN w3 _ = w4
              have HX4 : Hid (Ext w3 w4) := Lib.hid (by rw [← hWD]; exact Ext.drewN _ _)
              clear hWD y0 y1 y2 yz hg0 hg1 hgf
              have HR4 := Lib.hid (HR3.out.ext' HX4.out)
              obtain ⟨y0, y1, y2, yz⟩ := HCQ.out w4 HR4.out.ext
              go_wp2_with fail
              have f0 := cell_turned (T := fun _ => false) y2 rfl
              have f1 := cell_turned (T := fun _ => false) yz rfl
              refine wp_region_plan 13 (fun w' => ∃ p : Turned, w' = turned w4 (fun _ => false) p.d p.f p.os) (.reads [0, 1, 2, 3, 4, 5, 6, 7, 8, 9, 10, 11, 12] (.one 13 .done)) (by kernel_rfl) (by kernel_rfl) (fun _ _ dd _ _ hh => by cases dd <;> exact hh) ?_ ?_
              · exact turned_of_ext (Ext.drewN w4 1)
              refine wpPlan_reads ?_
              simp only [pickOps, List.getElem?_cons_succ, List.getElem?_cons_zero]
              repeat (go_big_quiet_step (fail))
              refine wpQuiet_nil ?_
              refine wpPlan_one ?_
              simp only [pickOps, List.getElem?_cons_succ, List.getElem?_cons_zero]
              clear f0 f1 y0 y1 y2 yz
              generalize hw5 : (World.mk _ _ _ _ _ : World) = w5
              have HX5 : Hid (Ext w4 w5) := Lib.hid (by rw [← hw5]; exact Ext.drewN w4 1)
              clear hw5
              have HR5 := Lib.hid (HR4.out.ext' HX5.out)
              obtain ⟨g', eg, hg0, hg1, hgf⟩ := owns_at (by have h := HR5.out.rows.rh; rw [HLE.out] at h; exact h) HX.out
              cases eg
              have HR6 := Lib.hid (HR5.out.setH (e := ⟨nm, tt, q.v, z⟩) HLE.out HX.out)
              have fz0 := hgf (r * 2)
              have fz1 := hgf (r * 2 + 1)
              clear hgf
              go_wp2_with fail
              refine thenX_last (wpPlan_done ?_)
              go_wp2_with fail
              go_roundw
              case rel => exact ⟨i + 1, T', E.set r ⟨nm, tt, q.v, z⟩, j, na, ta, _, nc, tc, hc, by omega, by omega, by omega, by go_num, rfl, rfl, rfl, Lib.hid (by rw [set_n HX.out (by exact HXK.out.1), set_t HX.out (by exact HXK.out.2)]; exact HR6.out), HI4, Lib.hid (fun e he => by
                rcases List.mem_or_eq_of_mem_set he with he | he
                · exact HT8.out e he
                · rw [he]; exact HTT.out)⟩
              case measure => simp [RowKit.intOf]; omega
            · have HI4 : Hid (LastI T' j (E.set r x)) := Lib.hid (by have := HI3.out; rw [if_neg hle] at this; exact this)
              go_big_quiet (fail)
              go_wp2_with fail
              go_roundw
              case rel => exact ⟨i + 1, T', E, j, na, ta, _, nc, tc, hc, by omega, by omega, by omega, by go_num, rfl, rfl, rfl, Lib.hid (HR3.out.ext' (Ext.drewN _ _)), Lib.hid (by
                have := HI4.out
                rwa [set_same HX.out] at this), HT8⟩
              case measure => simp [RowKit.intOf]; omega
    · have hk32 : k ≤ 32 := by omega
      have hcase : (¬ i < n) ∨ (i < n ∧ ¬ i < n2) ∨ (i < n ∧ i < n2 ∧ ¬ i < 100) := by
        by_cases h1 : i < n
        · by_cases h2 : i < n2
          · exact .inr (.inr ⟨h1, h2, fun h => hlt ⟨h1, h2, h⟩⟩)
          · exact .inr (.inl ⟨h1, h2⟩)
        · exact .inl h1
      clear hlt
      rcases hcase with h1 | ⟨h1, h2⟩ | ⟨h1, h2, h3⟩
      all_goals
        as_aux_lemma =>
        go_wp2_with fail
        refine (tab_len HR.out.tab).mono ?_
        rintro e w2 ⟨rfl, rfl⟩
        go_wp2_with fail
        obtain ⟨wz, rfl⟩ : ∃ wo : World, wo = wr := ⟨_, rfl⟩
        go_loopw [18] (fun s18 wq => ∃ j : Nat, j ≤ k ∧ s18 = .int .i64 j ∧ Hid (Ext wz wq)) (fun j _ => k - (RowKit.intOf j).toNat)
        case atStart => exact ⟨0, by omega, rfl, Lib.hid (Ext.refl _)⟩
        case round =>
          obtain ⟨j, hj, rfl, HX⟩ := hrel
          have HRQ := Lib.hid (HR.out.ext' HX.out)
          by_cases hjk : j < k
          · obtain ⟨e, he⟩ : ∃ e, E[j]? = some e := ⟨_, List.getElem?_eq_getElem (by have := HLE.out; omega)⟩
            obtain ⟨nbk, nof, x, hna, hx, cx⟩ := strs_src (by have h := HRQ.out.rows.rn.strs_src; rw [List.length_map, HLE.out] at h; exact h) hjk
            obtain ⟨tbk, tof, y, hta, hy, cy⟩ := zints_src (by have h := HRQ.out.rows.rt.src (zints_one _); rw [List.length_map, HLE.out] at h; exact h) hjk
            rw [List.getElem?_map, he] at hx hy
            simp only [Option.map_some, Option.some.injEq] at hx hy
            subst hx hy hna hta
            have HE := Lib.hid he
            have het := HT8.out e (List.mem_of_getElem? he)
            have hwr : IntKind.i64.wrap (e.t + 1) = e.t + 1 := IntWalk.i64_in _ (by omega)
            clear he
            go_wp2_with fail
            have f0 := cell_turned (T := fun _ => false) cx rfl
            have f1 := cell_turned (T := fun _ => false) cy rfl
            refine wp_region_plan 14 (fun w' => ∃ p : Turned, w' = turned wr (fun _ => false) p.d p.f p.os) (.reads [0, 1, 2, 3, 4, 5, 6, 7, 8, 9, 10, 11, 12, 13] (.one 14 (.one 15 .done))) (by kernel_rfl) (by kernel_rfl) (fun _ _ dd _ _ hh => by cases dd <;> exact hh) ?_ ?_
            · exact turned_of_ext (Ext.drewN wr 1)
            refine wpPlan_reads ?_
            simp only [pickOps, List.getElem?_cons_succ, List.getElem?_cons_zero]
            repeat (go_big_quiet_step (fail))
            refine wpQuiet_nil ?_
            refine wpPlan_one ?_
            simp only [pickOps, List.getElem?_cons_succ, List.getElem?_cons_zero]
            clear f0 f1 cx cy hwr het
            go_wp2_with fail
            refine (tab_points (HRQ.out.tab.ext (Ext.drewN wr 1)) e.n e.t (e.t + 1)).mono ?_
            rintro e5 w5 ⟨v5, rfl, hct⟩
            rw [show cutL e.t (e.t + 1) (tabPts T e.n) = [e.pt] from cut_one (p := e.pt) (HRQ.out.tab.at e.n).2.1 (HI.out.mem e (List.mem_of_getElem? HE.out))] at hct
            have hrow5 : Row w5 33 3 v5 1 (pts [e.pt]) := hct.row
            have HX5 : Hid (Ext wz w5) := Lib.hid ((HX.out.trans (Ext.drewN wr 1)).trans hct.ext)
            obtain ⟨a5, c5, rfl⟩ := hrow5.shape
            obtain ⟨b5, o5, p5, rfl, hp5, z0, z1, z2⟩ := pts_src (hrow5.src (pts_one _)) (show 0 < 1 by omega)
            simp only [List.getElem?_cons_zero, Option.some.injEq] at hp5
            subst hp5
            have HR5 := Lib.hid (HR.out.ext' HX5.out)
            clear hct hrow5
            go_wp2_with fail
            refine thenX_last (wpPlan_one ?_)
            simp only [pickOps, List.getElem?_cons_succ, List.getElem?_cons_zero]
            go_wp2_with fail
            refine thenX_last (wpPlan_done ?_)
            go_wp2_with fail
            obtain ⟨g, rfl, hg0, hg1, hgf⟩ := owns_at (by have h := HR5.out.rows.rh; rw [HLE.out] at h; exact h) HE.out
            simp only [Ent.pt, Nat.zero_mul, Nat.add_zero] at z0 z1 z2
            clear hgf z0
            go_big_quiet (fail)
            go_wp2_with fail
            go_roundw
            case rel => exact ⟨j + 1, by omega, by go_num, Lib.hid (HX5.out.trans (Ext.drewN _ _))⟩
            case measure => simp [RowKit.intOf]; omega
          · have HTL : Hid (T.length ≤ 69999) := Lib.hid (by have := HI.out.few; omega)
            go_wp2_with fail
            refine (tab_take HRQ.out.tab HTL.out).mono ?_
            rintro e w5 ⟨v5, L, rfl, htk⟩
            have HSUM : Hid ((L.map fun p => p.2.l.length).sum = k) := Lib.hid (by rw [parts_sum HRQ.out.tab.nodup htk.names htk.pts]; exact HRQ.out.tab.tot)
            have HXE : Hid (Ext w w5) := Lib.hid (((Chg.of_ext (S := fun b => b = d ∨ b = mb) HRQ.out.ext).trans htk.chg (fun _ _ e => e)).ext (fun i hi e => by have := HRQ.out.new; omega))
            have HTAB := Lib.hid htk.tab
            have HOKP : Hid (∀ p ∈ L, p.2.Ok w5) := Lib.hid htk.ok
            obtain ⟨a5, c5, rfl⟩ := htk.row.shape
            have HROW := Lib.hid htk.row
            have hLl : L.length ≤ 69999 := by
              have h1 := congrArg List.length htk.names
              have h2 := HTL.out
              rw [tabNames, sortS_length, List.length_map, List.length_map] at h1
              omega
            clear htk
            go_wp2_with fail
            go_loop [20, 22] (fun s20 s22 => ∃ (r q : Nat), r ≤ L.length ∧ s22 = .int .i64 r ∧ s20 = .int .i64 q ∧ Hid (q = ((L.take r).map fun p => p.2.l.length).sum)) (fun _ j => L.length - (RowKit.intOf j).toNat)
            case atStart => exact ⟨0, 0, by omega, rfl, rfl, Lib.hid (by simp)⟩
            case round =>
              obtain ⟨r, q, hr, rfl, rfl, HQ⟩ := hrel
              by_cases hrl : r < L.length
              · obtain ⟨g, x, rfl, hx, cx⟩ := parts_at HROW.out hrl
                have HQ2 : Hid (q + x.2.l.length = ((L.take (r + 1)).map fun p => p.2.l.length).sum) := Lib.hid (by rw [List.take_add_one, hx, HQ.out]; simp)
                have hxn := src_len (HOKP.out x (List.mem_of_getElem? hx)).1
                have HXN := Lib.hid hxn
                have hq : q + x.2.n ≤ 64 := by
                  have h1 := HQ2.out
                  have h2 := HSUM.out
                  have h3 := sum_take_le (L.map fun p => p.2.l.length) (r + 1)
                  rw [← List.map_take] at h3
                  omega
                clear hx hxn
                unfold Sl.v at cx
                go_wp2_with fail
                go_round
                case rel => exact ⟨r + 1, q + x.2.n, by omega, by go_num, by go_num, Lib.hid (by rw [← HXN.out]; exact HQ2.out)⟩
                case measure => simp [RowKit.intOf]; omega
              · have hqk : q = k := by
                  have h1 := HQ.out
                  rw [List.take_of_length_le (by omega), HSUM.out] at h1
                  exact h1
                subst hqk
                go_wp2_with fail
                refine (tab_len HTAB.out).mono ?_
                rintro e w6 ⟨rfl, rfl⟩
                go_wp2_with fail
                refine (tab_names HTAB.out (by simp)).mono ?_
                rintro e w6 ⟨v6, rfl, hto⟩
                have hnil : tabNames [] = [] := List.length_eq_zero_iff.1 (by rw [tabNames, sortS_length]; rfl)
                rw [hnil] at hto
                obtain ⟨a6, c6, rfl⟩ := hto.row.shape
                have HX6 := Lib.hid (HXE.out.trans hto.ext)
                clear hto
                go_wp2_with fail
                go_ret
                exact ⟨rfl, HX6.out⟩
end Go.Proofs.Ytabnngcaohgppaa
