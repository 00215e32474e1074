/- window.Sessions. -/
import Derived.Test.YthnpchfcafaiiaaSsp
namespace Go.Proofs.Ythnpchfcafaiiaa
open Go.RowKit Go.Lib Go.Sort

theorem row_spot {w : World} {e : TypeId} {s b so n c : Nat} {xs : List Value} (h : Row w e s (.slice (some ⟨b, so, none⟩) n c) n xs) :
    (∀ i, w.frozen? ⟨b, i, none⟩ = false) ∧ ∀ j u, Row (w.setCell ⟨b, so + j, none⟩ u) e s (.slice (some ⟨b, so, none⟩) n c) n (xs.set j u) := by
  have h0 := h
  obtain ⟨hl, ⟨e', _⟩ | ⟨g', cap, cur, e', hb0, hb, _⟩⟩ := h
  · cases e'
  · simp only [Value.slice.injEq, Option.some.injEq, Addr.mk.injEq, and_true, true_and] at e'
    obtain ⟨⟨rfl, rfl⟩, rfl⟩ := e'
    refine ⟨fun i => free_of_block hb i, fun j u => ?_⟩
    rw [Nat.zero_add]
    exact (World.ownsRow.stored h0 j u).1

/-- What may be sessions' times. -/
def sesOk (gap : Int) (l : List Int) : Prop := (1 ≤ gap ∧ gap ≤ 1152921504606846976 ∧ l.all timeB = true) ∧ l.Pairwise (· ≤ ·)
def spPost (w : World) (gap : Int) (l : List Int) (e : Ending) (w' : World) : Prop :=
  (sesOk gap l ∧ ∃ v, e = .returned (.tuple #[v, .int .i64 0]) ∧ MadeTo w 72 2 v (spL gap l).length (sps (spL gap l)) w') ∨
  (¬ sesOk gap l ∧ e = .returned (.tuple #[.slice none 0 0, .int .i64 2]) ∧ Ext w w')

theorem spStep_len (gap : Int) (out : List (Int × Int)) (t : Int) : (spStep gap out t).length ≤ out.length + 1 := by
  unfold spStep
  split
  · split
    · simp
    · simp
  · simp
theorem spL_len (gap : Int) (l : List Int) : (spL gap l).length ≤ l.length := by
  refine snoc_ind (P := fun l => (spL gap l).length ≤ l.length) (by simp [spL]) ?_ l
  intro l t ih
  rw [spL_snoc]
  have := spStep_len gap (spL gap l) t
  simp
  omega
theorem sps_set (out : List (Int × Int)) (p : Nat) (x y : Int) (z : Int) (h : out[p]? = some (x, y)) : sps (out.set p (x, z)) = (sps out).set (p * 2 + 1) (.int .i64 z) := by
  induction out generalizing p with
  | nil => simp at h
  | cons q out ih =>
    cases p with
    | zero => simp at h; subst h; simp [sps, spc]
    | succ p =>
      have := ih p (by simpa using h)
      rw [show (p + 1) * 2 + 1 = p * 2 + 1 + 2 by omega]
      simpa [sps, spc] using this
theorem spStep_set {gap t : Int} {out : List (Int × Int)} {p : Nat} {s : Int × Int} (hp : p + 1 = out.length) (hs : out[p]? = some s) (h : t < s.2) : spStep gap out t = out.set p (s.1, t + gap) := by
  rcases List.eq_nil_or_concat out with e | ⟨pre, q, e⟩
  · subst e; simp at hp
  · rw [List.concat_eq_append] at e
    subst e
    simp at hp
    subst hp
    simp at hs
    subst hs
    unfold spStep
    simp [h]
theorem spStep_add {gap t : Int} {out : List (Int × Int)} (h : ∀ s p, p + 1 = out.length → out[p]? = some s → ¬ t < s.2) : spStep gap out t = out ++ [(t, t + gap)] := by
  rcases List.eq_nil_or_concat out with e | ⟨pre, q, e⟩
  · subst e; simp [spStep]
  · rw [List.concat_eq_append] at e
    subst e
    have := h q pre.length (by simp) (by simp)
    unfold spStep
    simp [this]

/-- So far. -/
structure SpR (w : World) (gap : Int) (l : List Int) (k : Nat) (va : Option Addr) (m vc : Nat) (wr : World) : Prop where
  made : MadeTo w 72 2 (.slice va m vc) m (sps (spL gap (l.take k))) wr
  len : (spL gap (l.take k)).length = m
  sort : (l.take k).Pairwise (· ≤ ·)

theorem take_sort {l : List Int} {k : Nat} {t : Int} (ht : l[k]? = some t) (hs : (l.take k).Pairwise (· ≤ ·)) (h : k = 0 ∨ ∃ p u, p + 1 = k ∧ l[p]? = some u ∧ u ≤ t) : (l.take (k + 1)).Pairwise (· ≤ ·) := by
  rw [List.take_add_one, ht]
  show (l.take k ++ [t]).Pairwise (· ≤ ·)
  rw [List.pairwise_append]
  refine ⟨hs, by simp, ?_⟩
  intro a ha b hb
  simp at hb
  subst hb
  rcases h with h | ⟨p, u, hp, hu, hut⟩
  · subst h; simp at ha
  · subst hp
    rw [List.take_add_one, hu] at hs ha
    have hs' : (l.take p ++ [u]).Pairwise (· ≤ ·) := hs
    have ha' : a ∈ l.take p ++ [u] := ha
    rw [List.pairwise_append] at hs'
    rcases List.mem_append.1 ha' with ha' | ha'
    · have := hs'.2.2 a ha' u (by simp); omega
    · simp at ha'; subst ha'; exact hut

set_option maxHeartbeats 8000000 in
set_option maxRecDepth 100000 in
theorem sessions_any (w : World) (a : Option Addr) (n c : Nat) (l : List Int) (gap : Int) (hl : Src w 1 (.slice a n c) n (zints l)) (hn : n ≤ 100000) :
    Calls Try.prog 22 #[.slice a n c, .int .i64 gap] w (spPost w gap l) := by
  have HL := Lib.hid hl
  have HLN := Lib.hid (zints_src_len hl)
  clear hl
  have HP : Hid (∀ e w', spPost w gap l e w' = ((sesOk gap l ∧ ∃ v, e = .returned (.tuple #[v, .int .i64 0]) ∧ MadeTo w 72 2 v (spL gap l).length (sps (spL gap l)) w') ∨ (¬ sesOk gap l ∧ e = .returned (.tuple #[.slice none 0 0, .int .i64 2]) ∧ Ext w w'))) := Lib.hid (fun _ _ => rfl)
  go_enter Try.func22, Try.ntmps22
  by_cases g1 : gap < 1
  · have HQ : Hid (¬ sesOk gap l) := Lib.hid (by unfold sesOk; omega)
    go_wp2_with fail
    go_ret2
    rw [HP.out]
    exact .inr ⟨HQ.out, rfl, Ext.refl _⟩
  by_cases g2 : 1152921504606846976 < gap
  · have HQ : Hid (¬ sesOk gap l) := Lib.hid (by unfold sesOk; omega)
    go_wp2_with fail
    go_ret2
    rw [HP.out]
    exact .inr ⟨HQ.out, rfl, Ext.refl _⟩
  go_wp2_with fail
  refine (times_any _ a n c l HL.out (by omega)).mono ?_
  rintro e w1 ⟨rfl, rfl⟩
  cases hb : l.all timeB with
  | false =>
    have HQ : Hid (¬ sesOk gap l) := Lib.hid (by unfold sesOk; rw [hb]; simp)
    clear hb
    go_wp2_with fail
    go_ret2
    rw [HP.out]
    exact .inr ⟨HQ.out, rfl, Ext.refl _⟩
  | true =>
    have HT := Lib.hid hb
    clear hb
    go_wp2_with fail
    go_loopw [6, 23] (fun s6 s23 wr => ∃ (k m vc : Nat) (va : Option Addr), k ≤ n ∧ s6 = .slice va m vc ∧ s23 = .int .i64 k ∧ Hid (SpR w gap l k va m vc wr)) (fun _ i _ => n - (RowKit.intOf i).toNat)
    case atStart => exact ⟨0, 0, 0, none, by omega, rfl, rfl, Lib.hid ⟨⟨Row.nil _ _ _, fun g hg => by simp [Value.ownBlock] at hg, Ext.refl w⟩, rfl, by simp⟩⟩
    case round =>
      obtain ⟨k, m, vc, va, hk, rfl, rfl, HR⟩ := hrel
      have hmn : m ≤ 100000 := by have h1 := HR.out.len; have h2 := spL_len gap (l.take k); rw [List.length_take] at h2; omega
      by_cases hlt : k < n
      · obtain ⟨b, so, t, rfl, ht, c0⟩ := zints_src (HL.out.ext HR.out.made.ext) hlt
        have HT2 := Lib.hid ht
        have HTB : Hid (-1152921504606846976 ≤ t ∧ t ≤ 1152921504606846976) := Lib.hid (by
          have h1 := HT.out
          rw [List.all_eq_true] at h1
          exact time_nums (h1 t (List.mem_of_getElem? ht)))
        clear ht
        have hw1 : -9223372036854775808 ≤ t + gap := by have := HTB.out; omega
        have hw2 : t + gap ≤ 9223372036854775807 := by have := HTB.out; omega
        have HSORT : Hid ((k = 0 ∨ ∃ p u, p + 1 = k ∧ l[p]? = some u ∧ u ≤ t) → (l.take (k + 1)).Pairwise (· ≤ ·)) := Lib.hid (take_sort HT2.out HR.out.sort)
        rcases Nat.eq_zero_or_pos k with hk0 | hk0
        · have HSO := Lib.hid (HSORT.out (.inl hk0))
          have hm0 : m = 0 := by have h1 := HR.out.len; rw [hk0] at h1; simp [spL] at h1; omega
          have HSP : Hid (spL gap (l.take (k + 1)) = [(t, t + gap)]) := Lib.hid (by rw [List.take_add_one, HT2.out, hk0]; simp [spL, spStep])
          subst hk0
          subst hm0
          simp only [Nat.add_zero] at c0
          have HLN0 := Lib.hid HR.out.len
          go_wp2_with (first | (refine wpList_append_start elem_span rfl _ _ rfl rfl rfl (Start.row ((HR.out.made.row).alloc _) HR.out.made.own) (HR.out.made.ext.alloc _) (src_new wr #[.int .i64 t, .int .i64 (t + gap)] 72 2 1 (0, 0) rfl (by simp [Value.oneCell'])) (by omega) (by unfold maxLen; omega) (by omega) ?_; rintro v' w5 ha; obtain ⟨va', vc', rfl⟩ := ha.row.shape; have HA := Lib.hid ha; clear ha))
          refine ⟨⟨1, 1, vc', va', by omega, rfl, rfl, Lib.hid ⟨?_, ?_, HSO.out⟩⟩, ?_⟩
          · rw [HSP.out]
            have h1 := HA.out
            have h2 : sps (spL gap (l.take 0)) = [] := by simp [spL, sps]
            rw [h2] at h1
            exact h1
          · rw [HSP.out]; rfl
          · simp [RowKit.intOf]; omega
        · obtain ⟨p, hp1, hpn⟩ : ∃ p, p + 1 = k ∧ p < n := ⟨k - 1, by omega, by omega⟩
          obtain ⟨b', so', u, heq, hu, c1⟩ := zints_src (HL.out.ext HR.out.made.ext) hpn
          simp only [Option.some.injEq, Addr.mk.injEq, and_true] at heq
          obtain ⟨rfl, rfl⟩ := heq
          have HU := Lib.hid hu
          rw [show p = k - 1 by omega] at c1
          have HPK := Lib.hid hp1
          clear hu hp1 hpn
          by_cases htu : t < u
          · have HQ : Hid (¬ sesOk gap l) := Lib.hid (by
              rintro ⟨_, h⟩
              have h1 := HU.out
              have h2 := HT2.out
              obtain ⟨i1, e1⟩ := List.getElem?_eq_some_iff.1 h1
              obtain ⟨i2, e2⟩ := List.getElem?_eq_some_iff.1 h2
              have := List.pairwise_iff_getElem.1 h p k i1 i2 (by have := HPK.out; omega)
              rw [e1, e2] at this
              omega)
            go_wp2_with fail
            go_ret2
            rw [HP.out]
            exact .inr ⟨HQ.out, rfl, HR.out.made.ext⟩
          · have HSO := Lib.hid (HSORT.out (.inr ⟨p, u, HPK.out, HU.out, by omega⟩))
            have hm0 : 0 < m := by
              have h1 := HR.out.len
              have h2 := HPK.out
              rw [← h2, List.take_add_one, HU.out] at h1
              have h3 : (spL gap (l.take p ++ [u])).length = m := h1
              rw [spL_snoc] at h3
              unfold spStep at h3
              split at h3
              · split at h3 <;> simp at h3 <;> omega
              · simp at h3; omega
            obtain ⟨q, hq1, hqm⟩ : ∃ q, q + 1 = m ∧ q < m := ⟨m - 1, by omega, by omega⟩
            obtain ⟨ob, oo, s, rfl, hs, d0, d1⟩ := sps_src (HR.out.made.row.src (sps_one _)) hqm
            obtain ⟨s1, s2⟩ := s
            simp only at d0 d1
            have HSQ := Lib.hid hs
            have HFR := Lib.hid (row_spot HR.out.made.row)
            rw [show q = m - 1 by omega] at d1
            have z1 := HFR.out.1 (oo + (m - 1) * 2 + 1)
            have HQM := Lib.hid (And.intro hq1 hqm)
            have HTK : Hid (spL gap (l.take (k + 1)) = spStep gap (spL gap (l.take k)) t) := Lib.hid (by
              rw [List.take_add_one, HT2.out]
              exact spL_snoc _ _ _)
            clear hs hq1 hqm d0
            by_cases hts : t < s2
            · have HST : Hid (spL gap (l.take (k + 1)) = (spL gap (l.take k)).set q (s1, t + gap)) := Lib.hid (by
                rw [HTK.out]
                exact spStep_set (by rw [HR.out.len]; exact HQM.out.1) HSQ.out hts)
              go_wp2_with fail
              have hchg : Chg (fun i => i = ob) wr (wr.setCell ⟨ob, oo + (m - 1) * 2 + 1, none⟩ (.int .i64 (t + gap))) := setCell_chg _ _ _ _
              refine ⟨⟨k + 1, m, vc, _, by omega, rfl, by go_num, Lib.hid ⟨⟨?_, HR.out.made.own, ?_⟩, ?_, HSO.out⟩⟩, ?_⟩
              · rw [HST.out, sps_set _ _ _ s2 _ HSQ.out, show oo + (m - 1) * 2 + 1 = oo + (q * 2 + 1) by have := HQM.out; omega]
                exact HFR.out.2 _ _
              · have h1 := HR.out.made.own ob rfl
                exact ((Chg.of_ext HR.out.made.ext).trans hchg (fun _ _ e => e)).ext (fun i hi e => by omega)
              · rw [HST.out, List.length_set]; exact HR.out.len
              · simp [RowKit.intOf]; omega
            · have HST : Hid (spL gap (l.take (k + 1)) = spL gap (l.take k) ++ [(t, t + gap)]) := Lib.hid (by
                rw [HTK.out]
                refine spStep_add (fun s' p' hp' hs' => ?_)
                have : p' = q := by have h1 := HQM.out; have h2 := HR.out.len; omega
                subst this
                rw [HSQ.out] at hs'
                cases hs'
                exact hts)
              go_wp2_with (first | (refine wpList_append_start elem_span rfl _ _ rfl rfl rfl (Start.row ((HR.out.made.row).alloc _) HR.out.made.own) (HR.out.made.ext.alloc _) (src_new wr #[.int .i64 t, .int .i64 (t + gap)] 72 2 1 (0, 0) rfl (by simp [Value.oneCell'])) (by omega) (by unfold maxLen; omega) (by omega) ?_; rintro v' w5 ha; obtain ⟨va', vc', rfl⟩ := ha.row.shape; have HA := Lib.hid ha; clear ha))
              refine ⟨⟨k + 1, m + 1, vc', va', by omega, rfl, by go_num, Lib.hid ⟨?_, ?_, HSO.out⟩⟩, ?_⟩
              · rw [HST.out, sps_append]; exact HA.out
              · rw [HST.out]; simp; exact HR.out.len
              · simp [RowKit.intOf]; omega
      · have HKN : Hid (l.take k = l) := Lib.hid (by rw [List.take_of_length_le (by have := HLN.out; omega)])
        go_wp2_with fail
        go_ret2
        have h := HR.out
        rw [HP.out]
        refine .inl ⟨⟨⟨by omega, by omega, HT.out⟩, ?_⟩, _, rfl, ?_⟩
        · have := h.sort; rw [HKN.out] at this; exact this
        · have h1 := h.made
          have h2 := h.len
          rw [HKN.out] at h1 h2
          rw [h2]; exact h1
end Go.Proofs.Ythnpchfcafaiiaa
