/- Plain: points put into sorted windows, one behind the other, are the windows of the map, sorted. -/
import Derived.Test.YthnpchfcafaiiaaR21a
import Derived.Test.YthnpchfcafaiiaaWdp
import Derived.Test.YthnpchfcafaiiaaSsp
import Derived.Test.YthnpchfcafaiiaaR21p
import Derived.Test.YthnpchfcafaiiaaR09s
namespace Go.Proofs.Ythnpchfcafaiiaa
open Go.RowKit Go.Lib Go.Sort

/-- The document's windows. -/
def docL (wd st off : Int) (l : List Pt) : List Bk := l.foldl (fun L p => putSL L (agOf p) (winL wd st off p.t)) []
theorem docL_snoc (wd st off : Int) (l : List Pt) (p : Pt) : docL wd st off (l ++ [p]) = putSL (docL wd st off l) (agOf p) (winL wd st off p.t) := by simp [docL]

/-- Sorted buckets that hold just what a map holds. -/
structure SameAs (wd : Int) (L : List Bk) (m : List (Int × Ag)) : Prop where
  sort : L.Pairwise (fun a b => a.lo < b.lo)
  hi : ∀ b ∈ L, b.hi = b.lo + wd
  get : ∀ z g, aget m z = some g ↔ ⟨z, z + wd, g⟩ ∈ L

theorem putB_mem {a : Ag} {x : Int × Int} {wd : Int} (hx : x.2 = x.1 + wd) : ∀ (L : List Bk), L.Pairwise (fun a b => a.lo < b.lo) → (∀ b ∈ L, b.hi = b.lo + wd) →
    (∀ b, b ∈ putB a x L ↔ (b ∈ L ∧ b.lo ≠ x.1) ∨ (b.lo = x.1 ∧ b.hi = x.2 ∧ ((∃ c ∈ L, c.lo = x.1 ∧ b.a = agM c.a a) ∨ ((∀ c ∈ L, c.lo ≠ x.1) ∧ b.a = agM Ag.zero a)))) ∧
    (putB a x L).Pairwise (fun a b => a.lo < b.lo)
  | [], _, _ => by
    refine ⟨fun b => ?_, by simp [putB]⟩
    obtain ⟨lo, hi, ba⟩ := b
    simp [putB]
  | c :: l, hs, hh => by
    obtain ⟨hs1, hs2⟩ := List.pairwise_cons.1 hs
    have hc := hh c List.mem_cons_self
    obtain ⟨ih1, ih2⟩ := putB_mem (a := a) hx l hs2 (fun b hb => hh b (List.mem_cons_of_mem _ hb))
    simp only [putB]
    by_cases h1 : c.lo < x.1
    · rw [if_pos h1]
      refine ⟨fun b => ?_, List.pairwise_cons.2 ⟨fun b hb => ?_, ih2⟩⟩
      · rw [List.mem_cons, ih1]
        constructor
        · rintro (rfl | ⟨h2, h3⟩ | ⟨h2, h3, h4⟩)
          · exact .inl ⟨List.mem_cons_self, by omega⟩
          · exact .inl ⟨List.mem_cons_of_mem _ h2, h3⟩
          · refine .inr ⟨h2, h3, ?_⟩
            rcases h4 with ⟨d, hd, h4⟩ | ⟨h4, h5⟩
            · exact .inl ⟨d, List.mem_cons_of_mem _ hd, h4⟩
            · refine .inr ⟨fun d hd => ?_, h5⟩
              rcases List.mem_cons.1 hd with rfl | hd
              · omega
              · exact h4 d hd
        · rintro (⟨h2, h3⟩ | ⟨h2, h3, h4⟩)
          · rcases List.mem_cons.1 h2 with rfl | h2
            · exact .inl rfl
            · exact .inr (.inl ⟨h2, h3⟩)
          · refine .inr (.inr ⟨h2, h3, ?_⟩)
            rcases h4 with ⟨d, hd, h4⟩ | ⟨h4, h5⟩
            · rcases List.mem_cons.1 hd with rfl | hd
              · omega
              · exact .inl ⟨d, hd, h4⟩
            · exact .inr ⟨fun d hd => h4 d (List.mem_cons_of_mem _ hd), h5⟩
      · rcases (ih1 b).1 hb with ⟨h2, _⟩ | ⟨h2, _⟩
        · exact hs1 b h2
        · omega
    · rw [if_neg h1]
      by_cases h2 : c.lo = x.1
      · rw [if_pos h2]
        refine ⟨fun b => ?_, List.pairwise_cons.2 ⟨fun b hb => hs1 b hb, hs2⟩⟩
        rw [List.mem_cons]
        constructor
        · rintro (rfl | h3)
          · exact .inr ⟨h2, by simp only; omega, .inl ⟨c, List.mem_cons_self, h2, rfl⟩⟩
          · exact .inl ⟨List.mem_cons_of_mem _ h3, by have := hs1 b h3; omega⟩
        · rintro (⟨h3, h4⟩ | ⟨h3, h4, h5⟩)
          · rcases List.mem_cons.1 h3 with rfl | h3
            · omega
            · exact .inr h3
          · refine .inl ?_
            rcases h5 with ⟨d, hd, h6, h7⟩ | ⟨h6, _⟩
            · rcases List.mem_cons.1 hd with rfl | hd
              · obtain ⟨blo, bhi, ba⟩ := b
                simp only at h3 h4 h7
                rw [h3, h4, h7, h2, hc, hx, h2]
              · have := hs1 d hd; omega
            · exact absurd h2 (h6 c List.mem_cons_self)
      · rw [if_neg h2]
        have hno : ∀ d ∈ c :: l, d.lo ≠ x.1 := fun d hd => by
          rcases List.mem_cons.1 hd with rfl | hd
          · exact h2
          · have := hs1 d hd; omega
        refine ⟨fun b => ?_, List.pairwise_cons.2 ⟨fun b hb => ?_, hs⟩⟩
        · rw [List.mem_cons]
          constructor
          · rintro (rfl | h3)
            · exact .inr ⟨rfl, rfl, .inr ⟨hno, rfl⟩⟩
            · exact .inl ⟨h3, hno b h3⟩
          · rintro (⟨h3, h4⟩ | ⟨h3, h4, h5⟩)
            · exact .inr h3
            · refine .inl ?_
              rcases h5 with ⟨d, hd, h6, _⟩ | ⟨_, h7⟩
              · exact absurd h6 (hno d hd)
              · obtain ⟨blo, bhi, ba⟩ := b
                simp only at h3 h4 h7
                rw [h3, h4, h7]
        · rcases List.mem_cons.1 hb with rfl | hb
          · simp only; omega
          · have := hs1 b hb; simp only; omega

theorem SameAs.put {wd : Int} {L : List Bk} {m : List (Int × Ag)} (h : SameAs wd L m) (a : Ag) {x : Int × Int} (hx : x.2 = x.1 + wd) : SameAs wd (putB a x L) (putG m a x.1) := by
  obtain ⟨h1, h2⟩ := putB_mem (a := a) hx L h.sort h.hi
  refine ⟨h2, fun b hb => ?_, fun z g => ?_⟩
  · rcases (h1 b).1 hb with ⟨h3, _⟩ | ⟨h3, h4, _⟩
    · exact h.hi b h3
    · rw [h4, hx, h3]
  · rw [h1]
    unfold putG
    by_cases hz : z = x.1
    · subst hz
      rw [aget_put_same]
      simp only [ne_eq, not_true_eq_false, and_false, false_or, true_and, Option.some.injEq, hx]
      cases hg : aget m x.1 with
      | some g0 =>
        have hm := (h.get _ _).1 hg
        constructor
        · rintro rfl
          exact .inl ⟨_, hm, rfl, rfl⟩
        · rintro (⟨c, hc, h5, h6⟩ | ⟨h5, _⟩)
          · have hc' : c = ⟨x.1, x.1 + wd, c.a⟩ := by
              obtain ⟨clo, chi, ca⟩ := c
              have := h.hi _ hc
              simp only at h5 this ⊢
              rw [this, h5]
            rw [hc'] at hc
            have := (h.get _ _).2 hc
            rw [hg] at this
            cases this
            rw [h6]; rfl
          · exact absurd rfl (h5 _ hm)
      | none =>
        constructor
        · rintro rfl
          refine .inr ⟨fun c hc e => ?_, rfl⟩
          have hc' : c = ⟨x.1, x.1 + wd, c.a⟩ := by
            obtain ⟨clo, chi, ca⟩ := c
            have := h.hi _ hc
            simp only at e this ⊢
            rw [this, e]
          rw [hc'] at hc
          have := (h.get _ _).2 hc
          rw [hg] at this
          cases this
        · rintro (⟨c, hc, h5, h6⟩ | ⟨_, h5⟩)
          · have hc' : c = ⟨x.1, x.1 + wd, c.a⟩ := by
              obtain ⟨clo, chi, ca⟩ := c
              have := h.hi _ hc
              simp only at h5 this ⊢
              rw [this, h5]
            rw [hc'] at hc
            have := (h.get _ _).2 hc
            rw [hg] at this
            cases this
          · rw [h5]; rfl
    · rw [aget_put_other _ _ hz, h.get]
      constructor
      · intro h3; exact .inl ⟨h3, hz⟩
      · rintro (⟨h3, _⟩ | ⟨h3, _⟩)
        · exact h3
        · exact absurd h3 hz

theorem SameAs.puts {wd : Int} {a : Ag} : ∀ (xs : List (Int × Int)) (L : List Bk) (m : List (Int × Ag)), (∀ x ∈ xs, x.2 = x.1 + wd) → SameAs wd L m → SameAs wd (putSL L a xs) (putL m a xs)
  | [], _, _, _, h => h
  | x :: xs, L, m, hx, h => SameAs.puts xs (putB a x L) (putG m a x.1) (fun y hy => hx y (List.mem_cons_of_mem _ hy)) (h.put a (hx x List.mem_cons_self))

theorem doc_same {wd st off : Int} (h1 : 1 ≤ st) (h2 : st ≤ wd) (l : List Pt) : SameAs wd (docL wd st off l) (gatL wd st off l) := by
  refine snoc_ind (P := fun l => SameAs wd (docL wd st off l) (gatL wd st off l)) ⟨List.Pairwise.nil, by simp [docL], by simp [docL, gatL, aget]⟩ (fun l p ih => ?_) l
  rw [docL_snoc, gatL_snoc]
  exact SameAs.puts _ _ _ (fun x hx => ((mem_winL h1 h2).1 hx).2.2.2) ih

/-- Buckets that rise and have the same ones are the same. -/
theorem rise_unique : ∀ (A B : List Bk), A.Pairwise (fun a b => a.lo < b.lo) → B.Pairwise (fun a b => a.lo < b.lo) → (∀ b, b ∈ A ↔ b ∈ B) → A = B
  | [], [], _, _, _ => rfl
  | [], b :: B, _, _, h => by have := (h b).2 List.mem_cons_self; simp at this
  | a :: A, [], _, _, h => by have := (h a).1 List.mem_cons_self; simp at this
  | a :: A, b :: B, hA, hB, h => by
    obtain ⟨a1, a2⟩ := List.pairwise_cons.1 hA
    obtain ⟨b1, b2⟩ := List.pairwise_cons.1 hB
    have hab : a = b := by
      rcases List.mem_cons.1 ((h a).1 List.mem_cons_self) with e | e
      · exact e
      · rcases List.mem_cons.1 ((h b).2 List.mem_cons_self) with e2 | e2
        · exact e2.symm
        · have := b1 _ e; have := a1 _ e2; omega
    subst hab
    rw [rise_unique A B a2 b2 (fun c => ?_)]
    constructor
    · intro hc
      rcases List.mem_cons.1 ((h c).1 (List.mem_cons_of_mem _ hc)) with e | e
      · subst e; have := a1 _ hc; omega
      · exact e
    · intro hc
      rcases List.mem_cons.1 ((h c).2 (List.mem_cons_of_mem _ hc)) with e | e
      · subst e; have := b1 _ hc; omega
      · exact e

/-- The map's windows, sorted, are the document's. -/
theorem doc_wins {wd st off : Int} (h1 : 1 ≤ st) (h2 : st ≤ wd) (l : List Pt) {ds : List (Int × Ag)} (hp : ds.Perm (gatL wd st off l)) (hs : (ds.map (·.1)).Pairwise (· ≤ ·)) : docL wd st off l = ds.map (bkOf wd) := by
  have hn : (ds.map (·.1)).Nodup := (hp.map _).nodup_iff.2 (gatL_nodup l)
  have H := doc_same (off := off) h1 h2 l
  refine rise_unique _ _ H.sort ?_ (fun b => ?_)
  · have hlt : (ds.map (·.1)).Pairwise (· < ·) := (hs.and hn).imp (fun h => by omega)
    rw [List.pairwise_map] at hlt
    rw [List.pairwise_map]
    exact hlt
  · constructor
    · intro hb
      have hb' : b = ⟨b.lo, b.lo + wd, b.a⟩ := by
        obtain ⟨blo, bhi, ba⟩ := b
        have := H.hi _ hb
        simp only at this ⊢
        rw [this]
      rw [hb'] at hb
      have hm := aget_mem ((H.get _ _).2 hb)
      exact List.mem_map.2 ⟨_, hp.symm.subset hm, hb'.symm⟩
    · intro hb
      obtain ⟨⟨z, g⟩, hq, rfl⟩ := List.mem_map.1 hb
      exact (H.get _ _).1 (aget_of_mem (gatL_nodup l) (hp.subset hq))

/-- What the document's sessions have. -/
def dsesL (gap : Int) (l : List Pt) : List Bk := (spL gap (l.map (·.t))).map (fun s => ⟨s.1, s.2, agA (l.filter (fun p => decide (s.1 ≤ p.t) && decide (p.t < s.2)))⟩)
theorem dses_same {gap : Int} (hg : 1 ≤ gap) (l : List Pt) (hs : (l.map (·.t)).Pairwise (· ≤ ·)) : dsesL gap l = sesL gap l := by
  have G := grp_ok (gap := gap) hg l (by rw [List.pairwise_map] at hs; exact hs)
  unfold dsesL sesL
  rw [G.spans, List.map_map]
  refine List.map_congr_left (fun g hgm => ?_)
  simp only [Function.comp, sesBk]
  congr 2
  have key : ∀ (gs : List (List Pt)), gs.Pairwise (fun a b => gHi a + gap ≤ gLo b) → (∀ g ∈ gs, ∀ p ∈ g, gLo g ≤ p.t ∧ p.t ≤ gHi g) → (∀ g ∈ gs, g ≠ []) → ∀ g ∈ gs, gs.flatten.filter (fun p => decide (gLo g ≤ p.t) && decide (p.t < gHi g + gap)) = g := by
    intro gs
    induction gs with
    | nil => intro _ _ _ g hg; simp at hg
    | cons c gs ih =>
      intro h1 h2 h3 g hg'
      obtain ⟨p1, p2⟩ := List.pairwise_cons.1 h1
      have hcs : ∀ d ∈ gs, gLo d ≤ gHi d := fun d hd => by
        obtain ⟨p, hp⟩ := List.exists_mem_of_ne_nil d (h3 d (List.mem_cons_of_mem _ hd))
        have := h2 d (List.mem_cons_of_mem _ hd) p hp
        omega
      rw [List.flatten_cons, List.filter_append]
      rcases List.mem_cons.1 hg' with rfl | hg'
      · rw [List.filter_eq_self.2 (fun p hp => ?_), List.filter_eq_nil_iff.2 (fun p hp => ?_), List.append_nil]
        · obtain ⟨d, hd, hpd⟩ := List.mem_flatten.1 hp
          have h4 := p1 d hd
          have h5 := h2 d (List.mem_cons_of_mem _ hd) p hpd
          simp only [Bool.and_eq_true, decide_eq_true_eq]
          omega
        · have h5 := h2 g List.mem_cons_self p hp
          simp only [Bool.and_eq_true, decide_eq_true_eq]
          omega
      · rw [List.filter_eq_nil_iff.2 (fun p hp => ?_), List.nil_append]
        · exact ih p2 (fun d hd => h2 d (List.mem_cons_of_mem _ hd)) (fun d hd => h3 d (List.mem_cons_of_mem _ hd)) g hg'
        · have h4 := p1 g hg'
          have h5 := h2 c List.mem_cons_self p hp
          simp only [Bool.and_eq_true, decide_eq_true_eq]
          omega
  have h := key _ G.apart G.within G.some g hgm
  rw [G.flat] at h
  exact h
end Go.Proofs.Ythnpchfcafaiiaa

/-! The document's Windows. -/

namespace Go.Proofs.Ythnpchfcafaiiaa
open Go.RowKit Go.Lib Go.Sort

theorem docL_bnd {wd st off : Int} (hv : windowB wd st off = true) : ∀ (l : List Pt), (∀ p ∈ l, -9223372036854775808 ≤ p.v ∧ p.v ≤ 9223372036854775807) → ∀ b ∈ docL wd st off l, b.a.bnd (64 * l.length) := by
  intro l
  refine snoc_ind (P := fun l => (∀ p ∈ l, -9223372036854775808 ≤ p.v ∧ p.v ≤ 9223372036854775807) → ∀ b ∈ docL wd st off l, b.a.bnd (64 * l.length)) (fun _ b hb => by simp [docL] at hb) (fun l p ih h b hb => ?_) l
  rw [docL_snoc] at hb
  have hp := h p (by simp)
  have h1 := putSL_bnd (agOf_bnd hp.1 hp.2) (winL wd st off p.t) (docL wd st off l) (64 * l.length) (ih (fun q hq => h q (by simp [hq]))) b hb
  have h2 := winL_len wd st off p.t
  have h3 := winN_le (t := p.t) hv
  exact h1.mono (by rw [List.length_append]; simp; omega)
theorem docL_len {wd st off : Int} (hv : windowB wd st off = true) : ∀ (l : List Pt), (docL wd st off l).length ≤ 64 * l.length := by
  intro l
  refine snoc_ind (P := fun l => (docL wd st off l).length ≤ 64 * l.length) (by simp [docL]) (fun l p ih => ?_) l
  rw [docL_snoc]
  have h1 := putSL_len (a := agOf p) (winL wd st off p.t) (docL wd st off l)
  have h2 := winL_len wd st off p.t
  have h3 := winN_le (t := p.t) hv
  rw [List.length_append]
  simp
  omega

/-- What it tells. -/
def rwinPost (w : World) (wd st off : Int) (l : List Pt) (e : Ending) (w' : World) : Prop :=
  if windowB wd st off = true ∧ l.any (fun p => !timeB p.t) = false then ∃ v n, e = .returned (.tuple #[v, .int .i64 0]) ∧ MadeTo w 80 19 v n (rbs (docL wd st off l)) w' ∧ (docL wd st off l).length = n
  else e = .returned (.tuple #[.slice none 0 0, .int .i64 2]) ∧ Ext w w'

set_option maxHeartbeats 8000000 in
set_option maxRecDepth 100000 in
theorem rwindows_any (w : World) (a : Option Addr) (n c : Nat) (l : List Pt) (wd st off : Int) (hl : Src w 3 (.slice a n c) n (pts l)) (hn : n ≤ 900) (hp : ∀ p ∈ l, -9223372036854775808 ≤ p.v ∧ p.v ≤ 9223372036854775807) :
    Calls Try.prog 6 #[.slice a n c, .int .i64 wd, .int .i64 st, .int .i64 off] w (rwinPost w wd st off l) := by
  have HL := Lib.hid hl
  have HLN := Lib.hid (src_len hl)
  have HP := Lib.hid hp
  clear hl hp
  have HPOST : Hid (∀ e w', rwinPost w wd st off l e w' = (if windowB wd st off = true ∧ l.any (fun p => !timeB p.t) = false then ∃ v n, e = .returned (.tuple #[v, .int .i64 0]) ∧ MadeTo w 80 19 v n (rbs (docL wd st off l)) w' ∧ (docL wd st off l).length = n
    else e = .returned (.tuple #[.slice none 0 0, .int .i64 2]) ∧ Ext w w')) := Lib.hid (fun _ _ => rfl)
  go_enter Try.func6, Try.ntmps6
  go_wp2_with fail
  refine (refWin_any wd st off _).mono ?_
  rintro e w1 ⟨rfl, hx1⟩
  have HX1 : Hid (Ext w w1) := Lib.hid (by first | exact hx1 | (rw [hx1]; exact Ext.refl _) | (rw [← hx1]; exact Ext.refl _))
  clear hx1
  cases hv : windowB wd st off with
  | false =>
    have HQ : Hid (¬ (windowB wd st off = true ∧ l.any (fun p => !timeB p.t) = false)) := Lib.hid (by rw [hv]; simp)
    clear hv
    go_wp2_with fail
    go_ret2
    rw [HPOST.out, if_neg HQ.out]
    exact ⟨rfl, HX1.out⟩
  | true =>
    have HV := Lib.hid hv
    clear hv
    go_wp2_with fail
    go_loopw [10] (fun s10 wr => ∃ k : Nat, k ≤ n ∧ s10 = .int .i64 k ∧ Hid ((∀ p ∈ l.take k, timeB p.t = true) ∧ Ext w wr)) (fun i _ => n - (RowKit.intOf i).toNat)
    case atStart => exact ⟨0, by omega, rfl, Lib.hid ⟨by simp, HX1.out⟩⟩
    case round =>
      obtain ⟨k, hk, rfl, HI⟩ := hrel
      by_cases hlt : k < n
      · obtain ⟨b, so, p, rfl, hp, c0, c1, c2⟩ := pts_src (HL.out.ext HI.out.2) hlt
        have HPK := Lib.hid hp
        have HTB : Hid (timeB p.t = (decide (-1152921504606846976 ≤ p.t) && decide (p.t ≤ 1152921504606846976))) := Lib.hid rfl
        obtain ⟨pt, pv, ps⟩ := p
        simp only at c0 HTB
        clear hp c1 c2
        by_cases h1 : pt < -1152921504606846976
        · have HQ : Hid (¬ (windowB wd st off = true ∧ l.any (fun p => !timeB p.t) = false)) := Lib.hid (by
            rintro ⟨_, h⟩
            rw [List.any_eq_false] at h
            have := h _ (List.mem_of_getElem? HPK.out)
            simp only [HTB.out] at this
            simp at this
            omega)
          have hd1 : decide (pt < -1152921504606846976) = true := by simp; omega
          go_wp2_with fail
          go_ret2
          rw [HPOST.out, if_neg HQ.out]
          exact ⟨rfl, HI.out.2⟩
        · have hd1 : decide (pt < -1152921504606846976) = false := by simp; omega
          by_cases h2 : 1152921504606846976 < pt
          · have HQ : Hid (¬ (windowB wd st off = true ∧ l.any (fun p => !timeB p.t) = false)) := Lib.hid (by
              rintro ⟨_, h⟩
              rw [List.any_eq_false] at h
              have := h _ (List.mem_of_getElem? HPK.out)
              simp only [HTB.out] at this
              simp at this
              omega)
            have hd2 : decide (1152921504606846976 < pt) = true := by simp; omega
            go_wp2_with fail
            go_ret2
            rw [HPOST.out, if_neg HQ.out]
            exact ⟨rfl, HI.out.2⟩
          · have hd2 : decide (1152921504606846976 < pt) = false := by simp; omega
            have HT1 : Hid (timeB pt = true) := Lib.hid (by rw [HTB.out]; simp; omega)
            go_wp2_with fail
            refine ⟨⟨k + 1, by omega, by go_num, Lib.hid ⟨fun q hq => ?_, HI.out.2⟩⟩, by simp [RowKit.intOf]; omega⟩
            rw [List.take_add_one, HPK.out] at hq
            rcases List.mem_append.1 hq with hq | hq
            · exact HI.out.1 q hq
            · simp at hq; subst hq; exact HT1.out
      · obtain rfl : k = n := by omega
        have HALL : Hid (∀ p ∈ l, timeB p.t = true) := Lib.hid (by
          have h1 := HI.out.1
          rw [List.take_of_length_le (by have := HLN.out; omega)] at h1
          exact h1)
        have HQ : Hid (windowB wd st off = true ∧ l.any (fun p => !timeB p.t) = false) := Lib.hid ⟨HV.out, by
          rw [List.any_eq_false]
          intro p hp
          rw [HALL.out p hp]
          simp⟩
        have HXK := Lib.hid HI.out.2
        clear HI
        go_wp2_with fail
        clear hlt hk
        go_loopw [11, 12] (fun s11 s12 wq => ∃ (j m vc : Nat) (va : Option Addr), j ≤ k ∧ s11 = .slice va m vc ∧ s12 = .int .i64 j ∧ Hid (MadeTo w 80 19 s11 m (rbs (docL wd st off (l.take j))) wq ∧ (docL wd st off (l.take j)).length = m)) (fun _ i _ => k - (RowKit.intOf i).toNat)
        case atStart => exact ⟨0, 0, 0, none, by omega, rfl, rfl, Lib.hid ⟨⟨Row.nil _ _ _, fun g hg => by simp [Value.ownBlock] at hg, HXK.out⟩, rfl⟩⟩
        case round =>
          obtain ⟨j, m, vc, va, hj, rfl, rfl, HR⟩ := hrel
          by_cases hlt : j < k
          · obtain ⟨b, so, p, rfl, hp, c0, c1, c2⟩ := pts_src HL.out hlt
            have HPK := Lib.hid hp
            clear hp
            obtain ⟨pt, pv, ps⟩ := p
            simp only at c0 c1 c2
            have f0 := cell_turned (T := fun _ => false) c0 rfl
            have f1 := cell_turned (T := fun _ => false) c1 rfl
            have f2 := cell_turned (T := fun _ => false) c2 rfl
            clear c0 c1 c2
            have hlt1 : decide ((j : Int) < (k : Int)) = true := by simp; omega
            go_wp2_with fail
            refine wp_region_plan 19 (fun w' => ∃ p : Turned, w' = turned w (fun _ => false) p.d p.f p.os) (.reads [0, 1, 2, 3, 4, 5, 6, 7, 8, 9, 10, 11, 12] (.one 13 (.one 14 (.reads [15, 16, 17] (.one 18 (.one 19 .done)))))) (by kernel_rfl) (by kernel_rfl) (fun _ _ dd _ _ hh => by cases dd <;> exact hh) ?_ ?_
            · exact turned_of_ext (HR.out.1.ext.trans (Ext.drewN wr 1))
            refine wpPlan_reads ?_
            simp only [pickOps, List.getElem?_cons_succ, List.getElem?_cons_zero]
            repeat (go_big_quiet_step (fail))
            refine wpQuiet_nil ?_
            clear f0 f1 f2
            refine wpPlan_one ?_
            simp only [pickOps, List.getElem?_cons_succ, List.getElem?_cons_zero]
            go_wp2_with fail
            have HPV := Lib.hid (HP.out _ (List.mem_of_getElem? HPK.out))
            refine (rOf_any ⟨pt, pv, ps⟩ _ HPV.out.1 HPV.out.2).mono ?_
            rintro e w5 ⟨rfl, hx5⟩
            have HX5 := Lib.hid ((Ext.drewN wr 1).trans hx5)
            clear hx5
            go_wp2_with fail
            refine thenX_mk (turned_of_ext (HR.out.1.ext.trans HX5.out)) (wpPlan_one ?_)
            simp only [pickOps, List.getElem?_cons_succ, List.getElem?_cons_zero]
            go_wp2_with fail
            have HTM : Hid (timeB pt = true) := Lib.hid (HALL.out _ (List.mem_of_getElem? HPK.out))
            have HKL : Hid ((l.take j).length = j) := Lib.hid (by rw [List.length_take]; have := HLN.out; omega)
            have HMD : Hid (MadeTo w 80 19 (.slice va m vc) m (rbs (docL wd st off (l.take j))) w5) := Lib.hid ⟨HR.out.1.row.ext HX5.out, HR.out.1.own, HR.out.1.ext.trans HX5.out⟩
            refine (rput_any HMD.out HR.out.2 wd st off pt (agOf ⟨pt, pv, ps⟩) (64 * (l.take j).length) 1 HV.out HTM.out (docL_bnd HV.out _ (fun p hp => HP.out p (List.mem_of_mem_take hp))) (agOf_bnd HPV.out.1 HPV.out.2) (by unfold agOf; simp) (by have := HKL.out; omega) (by have h1 := docL_len (wd := wd) (st := st) (off := off) HV.out (l.take j); have := HKL.out; have := HR.out.2; omega)).mono ?_
            rintro e w6 ⟨v6, n6, rfl, hg6, hl6⟩
            obtain ⟨va6, vc6, rfl⟩ := hg6.row.shape
            have HG6 : Hid (MadeTo w 80 19 (.slice va6 n6 vc6) n6 (rbs (docL wd st off (l.take (j + 1)))) w6 ∧ (docL wd st off (l.take (j + 1))).length = n6) := Lib.hid (by
              have e : docL wd st off (l.take (j + 1)) = putSL (docL wd st off (l.take j)) (agOf ⟨pt, pv, ps⟩) (winL wd st off pt) := by
                rw [List.take_add_one, HPK.out]
                exact docL_snoc wd st off (l.take j) ⟨pt, pv, ps⟩
              rw [e]
              exact ⟨hg6, hl6⟩)
            clear hg6 hl6 HMD
            go_wp2_with fail
            refine thenX_mk (turned_of_ext HG6.out.1.ext) (wpPlan_reads ?_)
            simp only [pickOps, List.getElem?_cons_succ, List.getElem?_cons_zero]
            repeat (go_big_quiet_step (fail))
            refine wpQuiet_nil ?_
            refine wpPlan_one ?_
            simp only [pickOps, List.getElem?_cons_succ, List.getElem?_cons_zero]
            go_wp2_with fail
            refine thenX_mk (turned_of_ext HG6.out.1.ext) (wpPlan_one ?_)
            simp only [pickOps, List.getElem?_cons_succ, List.getElem?_cons_zero]
            go_wp2_with fail
            refine thenX_last (wpPlan_done ?_)
            go_wp2_with fail
            exact ⟨⟨j + 1, n6, vc6, va6, by omega, rfl, by go_num, HG6⟩, by simp [RowKit.intOf]; omega⟩
          · have HKN : Hid (l.take j = l) := Lib.hid (by rw [List.take_of_length_le (by have := HLN.out; omega)])
            rw [HKN.out] at HR
            have hlt1 : decide ((j : Int) < (k : Int)) = false := by simp; omega
            go_wp2_with fail
            go_ret2
            rw [HPOST.out, if_pos HQ.out]
            exact ⟨_, _, rfl, HR.out.1, HR.out.2⟩
end Go.Proofs.Ythnpchfcafaiiaa

/-! The document's Sessions. -/

namespace Go.Proofs.Ythnpchfcafaiiaa
open Go.RowKit Go.Lib Go.Sort

theorem rbc_lits (b : Bk) : ∃ x2 x3 x4 x5 x6 x7 x8 x9 x10 x11 x12 x13 x14 x15 x16 x17 x18 : Int, rbc b = [.int .i64 b.lo, .int .i64 b.hi, .int .i64 x2, .int .i64 x3, .int .i64 x4, .int .i64 x5, .int .i64 x6, .int .i64 x7, .int .i64 x8, .int .i64 x9, .int .i64 x10, .int .i64 x11, .int .i64 x12, .int .i64 x13, .int .i64 x14, .int .i64 x15, .int .i64 x16, .int .i64 x17, .int .i64 x18] := ⟨_, _, _, _, _, _, _, _, _, _, _, _, _, _, _, _, _, rfl⟩
theorem elem_int : ElemOk Try.prog 68 3 1 8 :=
  ⟨Try.underlying68, by
    obtain ⟨i0, hi, hz0, hz1, hz2⟩ := info_parts (show (Try.prog.info? 3).map (fun i => (i.zero, i.size, i.bytes)) = some (some (.int .i64 0), 1, 8) from by kernel_rfl)
    exact ⟨i0, _, hi, hz0, hz1, hz2, rfl⟩, by decide⟩
theorem src_int {W : World} {b : Nat} {z : Int} {t : TypeId} {fr : Nat × Nat} (h : W.heap[b]? = some (.cells #[.int .i64 z] t fr)) : Src W 1 (.slice (some ⟨b, 0, none⟩) 1 1) 1 [.int .i64 z] := by
  refine .inr ⟨_, _, rfl, rfl, fun j u hj => ?_, by simp [Value.oneCell']⟩
  rw [Go.WideShapes.add_plain, Nat.zero_add, cell_of_block h]
  simpa using hj
def inS (s1 s2 : Int) (p : Pt) : Bool := decide (s1 ≤ p.t) && decide (p.t < s2)

def rsesPost (w : World) (gap : Int) (l : List Pt) (e : Ending) (w' : World) : Prop :=
  (sesOk gap (l.map (·.t)) ∧ ∃ v, e = .returned (.tuple #[v, .int .i64 0]) ∧ MadeTo w 80 19 v (dsesL gap l).length (rbs (dsesL gap l)) w') ∨
  (¬ sesOk gap (l.map (·.t)) ∧ e = .returned (.tuple #[.slice none 0 0, .int .i64 2]) ∧ Ext w w')

set_option maxHeartbeats 8000000 in
set_option maxRecDepth 100000 in
theorem rsess_any (w : World) (a : Option Addr) (n c : Nat) (l : List Pt) (gap : Int) (hl : Src w 3 (.slice a n c) n (pts l)) (hn : n ≤ 900) (hp : ∀ p ∈ l, -9223372036854775808 ≤ p.v ∧ p.v ≤ 9223372036854775807) :
    Calls Try.prog 8 #[.slice a n c, .int .i64 gap] w (rsesPost w gap l) := by
  have HL := Lib.hid hl
  have HLN := Lib.hid (src_len hl)
  have HPV := Lib.hid hp
  clear hl hp
  have HP : Hid (∀ e w', rsesPost w gap l e w' = ((sesOk gap (l.map (·.t)) ∧ ∃ v, e = .returned (.tuple #[v, .int .i64 0]) ∧ MadeTo w 80 19 v (dsesL gap l).length (rbs (dsesL gap l)) w') ∨ (¬ sesOk gap (l.map (·.t)) ∧ e = .returned (.tuple #[.slice none 0 0, .int .i64 2]) ∧ Ext w w'))) := Lib.hid (fun _ _ => rfl)
  go_enter Try.func8, Try.ntmps8
  go_wp2_with fail
  go_loopw [6, 7] (fun s6 s7 wr => ∃ (k vc : Nat) (va : Option Addr), k ≤ n ∧ s6 = .slice va k vc ∧ s7 = .int .i64 k ∧ Hid (MadeTo w 3 1 (.slice va k vc) k (zints ((l.take k).map (·.t))) wr)) (fun _ i _ => n - (RowKit.intOf i).toNat)
  case atStart => exact ⟨0, 0, none, by omega, rfl, rfl, Lib.hid ⟨Row.nil _ _ _, fun g hg => by simp [Value.ownBlock] at hg, Ext.refl w⟩⟩
  case round =>
    obtain ⟨k, vc, va, hk, rfl, rfl, HR⟩ := hrel
    by_cases hlt : k < n
    · obtain ⟨b, so, p, rfl, hp, c0, c1, c2⟩ := pts_src (HL.out.ext HR.out.ext) hlt
      have HPK := Lib.hid hp
      clear hp
      obtain ⟨pt, pv, ps⟩ := p
      simp only at c0 c1 c2
      go_wp2_with (first | (refine wpList_append_start elem_int rfl _ _ rfl rfl rfl (Start.row ((HR.out.row).alloc _) HR.out.own) (HR.out.ext.alloc _) (src_int (heap_alloc_new wr _)) (by omega) (by unfold maxLen; omega) (by omega) ?_; rintro v' w5 ha; obtain ⟨va', vc', rfl⟩ := ha.row.shape; have HA := Lib.hid ha; clear ha))
      refine ⟨⟨k + 1, vc', va', by omega, rfl, by go_num, Lib.hid ?_⟩, ?_⟩
      · rw [List.take_add_one, HPK.out, List.map_append]
        have e : zints (List.map (·.t) (l.take k) ++ List.map (·.t) (some (⟨pt, pv, ps⟩ : Pt)).toList) = zints (List.map (·.t) (l.take k)) ++ [.int .i64 pt] := by simp [zints]
        rw [e]
        exact HA.out
      · simp [RowKit.intOf]; omega
    · have HKN : Hid (l.take k = l) := Lib.hid (by rw [List.take_of_length_le (by have := HLN.out; omega)])
      have hkn : k = n := by omega
      subst hkn
      rw [HKN.out] at HR
      go_wp2_with fail
      refine (rsessions_any _ va k vc (l.map (·.t)) gap (HR.out.row.src (zints_one _)) (by omega)).mono ?_
      intro e w4 hpost
      unfold rspPost at hpost
      rcases hpost with ⟨hok, v, rfl, hm⟩ | ⟨hno, rfl, hx⟩
      case' inr =>
        have HX := Lib.hid (HR.out.ext.trans hx)
        have HQ := Lib.hid hno
        clear hx hno
        go_wp2_with fail
        go_ret2
        rw [HP.out]
        exact .inr ⟨HQ.out, rfl, HX.out⟩
      case' inl =>
        obtain ⟨sa, sc, rfl⟩ := hm.row.shape
        have HOK := Lib.hid hok
        have HM := Lib.hid (hm.row.src (sps_one _))
        have HX4 := Lib.hid (HR.out.ext.trans hm.ext)
        clear hok hm
        obtain ⟨SS, hSS⟩ : ∃ x, x = spL gap (l.map (·.t)) := ⟨_, rfl⟩
        have HDS : Hid (dsesL gap l = SS.map (fun s => ⟨s.1, s.2, agA (l.filter (inS s.1 s.2))⟩)) := Lib.hid (by rw [hSS]; rfl)
        have hsl := spL_len gap (l.map (·.t))
        rw [← hSS] at HM hsl ⊢
        clear hSS
        obtain ⟨m, hm⟩ : ∃ m, m = SS.length := ⟨_, rfl⟩
        rw [← hm] at HM hsl ⊢
        have HMS := Lib.hid hm
        have hmk : m ≤ k := by
          have h2 := HLN.out
          simp at hsl
          omega
        clear hm hsl
        go_wp2_with fail
        obtain ⟨DS, hDS⟩ : ∃ x, x = dsesL gap l := ⟨_, rfl⟩
        rw [← hDS] at HDS
        have HDD := Lib.hid hDS
        clear hDS
        go_loopw [10, 11] (fun s10 s11 wr => ∃ (j vc : Nat) (va : Option Addr), j ≤ m ∧ s10 = .slice va j vc ∧ s11 = .int .i64 j ∧ Hid (MadeTo w4 80 19 (.slice va j vc) j (rbs (DS.take j)) wr)) (fun _ i _ => m - (RowKit.intOf i).toNat)
        case atStart => exact ⟨0, 0, none, by omega, rfl, rfl, Lib.hid ⟨Row.nil _ _ _, fun g hg => by simp [Value.ownBlock] at hg, Ext.refl _⟩⟩
        case round =>
          obtain ⟨j, vd, vb, hj, rfl, rfl, HI⟩ := hrel
          by_cases hjm : j < m
          · obtain ⟨b, so, s, rfl, hs, c0, c1⟩ := sps_src (HM.out.ext HI.out.ext) hjm
            obtain ⟨s1, s2⟩ := s
            simp only at c0 c1
            have HSJ := Lib.hid hs
            have f0 := cell_turned (T := fun _ => false) c0 rfl
            have f1 := cell_turned (T := fun _ => false) c1 rfl
            clear hs c0 c1
            have hd1 : decide ((j : Int) < (m : Int)) = true := by simp; omega
            go_wp2_with fail
            refine wp_region_plan 12 (fun w' => ∃ p : Turned, w' = turned wr (fun _ => false) p.d p.f p.os) (.reads [0, 1, 2, 3, 4, 5, 6, 7, 8, 9, 10] (.one 11 (.one 12 .done))) (by kernel_rfl) (by kernel_rfl) (fun _ _ dd _ _ hh => by cases dd <;> exact hh) ?_ ?_
            · exact turned_of_ext (Ext.drewN wr 1)
            refine wpPlan_reads ?_
            simp only [pickOps, List.getElem?_cons_succ, List.getElem?_cons_zero]
            repeat (go_big_quiet_step (fail))
            refine wpQuiet_nil ?_
            clear f0 f1
            refine wpPlan_one ?_
            simp only [pickOps, List.getElem?_cons_succ, List.getElem?_cons_zero]
            go_wp2_with fail
            refine thenX_mk (turned_of_ext ((Ext.drewN wr 1).alloc _)) (wpPlan_one ?_)
            simp only [pickOps, List.getElem?_cons_succ, List.getElem?_cons_zero]
            obtain ⟨bx, hbx⟩ : ∃ bx, bx = wr.heap.size := ⟨_, rfl⟩
            have HB4 := Lib.hid (heap_alloc_new (wr.drewN 1) (.cells #[.int .i64 0, .int .i64 0, .int .i64 0, .int .i64 0, .int .i64 0, .int .i64 0, .int .i64 0, .int .i64 0, .int .i64 0, .int .i64 0, .int .i64 0, .int .i64 0, .int .i64 0, .int .i64 0, .int .i64 0, .int .i64 0, .int .i64 0, .int .i64 0, .int .i64 0] 80 (0, 0)))
            have HX5 : Hid (Ext wr ((wr.drewN 1).alloc (.cells #[.int .i64 0, .int .i64 0, .int .i64 0, .int .i64 0, .int .i64 0, .int .i64 0, .int .i64 0, .int .i64 0, .int .i64 0, .int .i64 0, .int .i64 0, .int .i64 0, .int .i64 0, .int .i64 0, .int .i64 0, .int .i64 0, .int .i64 0, .int .i64 0, .int .i64 0] 80 (0, 0)))) := Lib.hid ((Ext.drewN wr 1).alloc _)
            have HBX := Lib.hid hbx
            have e0 : (wr.drewN 1).heap.size = wr.heap.size := rfl
            rw [e0, ← hbx] at HB4
            rw [← hbx]
            clear hbx e0
            have HDJ : Hid (rbc ⟨s1, s2, agA ((l.take 0).filter (inS s1 s2))⟩ = (#[.int .i64 s1, .int .i64 s2, .int .i64 0, .int .i64 0, .int .i64 0, .int .i64 0, .int .i64 0, .int .i64 0, .int .i64 0, .int .i64 0, .int .i64 0, .int .i64 0, .int .i64 0, .int .i64 0, .int .i64 0, .int .i64 0, .int .i64 0, .int .i64 0, .int .i64 0] : Array Value).toList) := Lib.hid (by simp [agA, Ag.zero, rbc, agR])
            refine wpList_store_box rfl _ _ _ rfl bx _ #[.int .i64 s1, .int .i64 s2, .int .i64 0, .int .i64 0, .int .i64 0, .int .i64 0, .int .i64 0, .int .i64 0, .int .i64 0, .int .i64 0, .int .i64 0, .int .i64 0, .int .i64 0, .int .i64 0, .int .i64 0, .int .i64 0, .int .i64 0, .int .i64 0, .int .i64 0] _ rfl rfl HB4.out rfl rb_info (by simp [Value.oneCell']) ?_
            rintro w7 hb7 hc7
            have HB7 : Hid (w7.heap[bx]? = some (.cells (rbc ⟨s1, s2, agA ((l.take 0).filter (inS s1 s2))⟩).toArray 80 (0, 0))) := Lib.hid (by rw [HDJ.out]; exact hb7)
            have HX7 : Hid (Ext wr w7) := Lib.hid (((Chg.of_ext (S := fun _ => False) HX5.out).trans hc7 (fun i hi e => by have := HBX.out; omega)).ext (fun _ _ e => e))
            clear hb7 hc7 HB4 HX5 HDJ
            go_wp2_with fail
            refine thenX_last (wpPlan_done ?_)
            go_wp2_with fail
            go_loopw [13] (fun s13 wx => ∃ q : Nat, q ≤ k ∧ s13 = .int .i64 q ∧ Hid (wx.heap[bx]? = some (.cells (rbc ⟨s1, s2, agA ((l.take q).filter (inS s1 s2))⟩).toArray 80 (0, 0)) ∧ Chg (· = bx) w7 wx)) (fun i _ => k - (RowKit.intOf i).toNat)
            case atStart => exact ⟨0, by omega, rfl, Lib.hid ⟨HB7.out, Chg.refl _ _⟩⟩
            case round =>
              obtain ⟨q, hq, rfl, HQ⟩ := hrel
              have HEX : Hid (∀ w9, Chg (· = bx) w7 w9 → Ext w4 w9) := Lib.hid (fun w9 hc => ((Chg.of_ext (S := fun _ => False) (HI.out.ext.trans HX7.out)).trans hc (fun i hi e => by have h1 := HBX.out; have h2 := HI.out.ext.size; omega)).ext (fun _ _ e => e))
              have HIW := Lib.hid (HEX.out _ HQ.out.2)
              by_cases hqk : q < k
              · obtain ⟨b', so', p, rfl, hp, c0, c1, c2⟩ := pts_src (HL.out.ext (HX4.out.trans HIW.out)) hqk
                have HPK := Lib.hid hp
                have HPB := Lib.hid (HPV.out p (List.mem_of_getElem? hp))
                have HTK : Hid ((l.take (q + 1)).filter (inS s1 s2) = if inS s1 s2 p = true then (l.take q).filter (inS s1 s2) ++ [p] else (l.take q).filter (inS s1 s2)) := Lib.hid (by
                  rw [List.take_add_one, hp, List.filter_append]
                  by_cases h : inS s1 s2 p = true <;> simp [h])
                have HIN : Hid (inS s1 s2 p = (decide (s1 ≤ p.t) && decide (p.t < s2))) := Lib.hid rfl
                have b0 : wr.cell? ⟨bx, 0, none⟩ = some (.int .i64 s1) := by have := cell_of_block HQ.out.1 0; simpa [rbc] using this
                have b1 : wr.cell? ⟨bx, 1, none⟩ = some (.int .i64 s2) := by have := cell_of_block HQ.out.1 1; simpa [rbc] using this
                clear hp
                obtain ⟨pt, pv, ps⟩ := p
                simp only at c0 c1 c2 HIN HPB
                have hlq : decide ((q : Int) < (k : Int)) = true := by simp; omega
                have HC012 := Lib.hid (And.intro c0 (And.intro c1 c2))
                clear c1 c2
                by_cases hin1 : s1 ≤ pt
                case' neg =>
                  have hd2 : decide (s1 ≤ pt) = false := by simp; omega
                  have HNO : Hid (inS s1 s2 ⟨pt, pv, ps⟩ = false) := Lib.hid (by rw [HIN.out, hd2]; rfl)
                  go_wp2_with fail
                  refine wp_region_split_lit [] [0, 1, 2, 3, 4, 5, 6, 7, 8, 9, 10, 11, 12, 13, 14, 15, 16, 17] [] (by kernel_rfl) (by kernel_rfl) (fun _ _ dd _ _ hh => by cases dd <;> exact hh) ?_
                  simp only [pickOps, List.getElem?_cons_succ, List.getElem?_cons_zero]
                  refine wpQuiet_nil ?_
                  repeat (go_big_quiet_step (fail))
                  refine wpQuiet_nil ?_
                  intro w8 hw'
                  have HX8 : Hid (Ext wr w8) := Lib.hid (by obtain ⟨k, rfl⟩ := hw'; exact Ext.drewN _ _)
                  clear hw' c0 b0 b1
                  go_wp2_with fail
                  refine ⟨⟨q + 1, by omega, by go_num, Lib.hid ⟨?_, HQ.out.2.trans (Chg.of_ext (S := fun _ => False) HX8.out) (fun _ _ e => e.elim)⟩⟩, by simp [RowKit.intOf]; omega⟩
                  rw [HTK.out, HNO.out, if_neg (by simp)]
                  exact (HX8.out.block (block_lt HQ.out.1)).trans HQ.out.1
                by_cases hin2 : pt < s2
                case' neg =>
                  have hd2 : decide (s1 ≤ pt) = true := by simp; omega
                  have hd3 : decide (pt < s2) = false := by simp; omega
                  have HNO : Hid (inS s1 s2 ⟨pt, pv, ps⟩ = false) := Lib.hid (by rw [HIN.out, hd2, hd3]; rfl)
                  go_wp2_with fail
                  refine wp_region_split_lit [] [0, 1, 2, 3, 4, 5, 6, 7, 8, 9, 10, 11, 12, 13, 14, 15, 16, 17] [] (by kernel_rfl) (by kernel_rfl) (fun _ _ dd _ _ hh => by cases dd <;> exact hh) ?_
                  simp only [pickOps, List.getElem?_cons_succ, List.getElem?_cons_zero]
                  refine wpQuiet_nil ?_
                  repeat (go_big_quiet_step (fail))
                  refine wpQuiet_nil ?_
                  intro w8 hw'
                  have HX8 : Hid (Ext wr w8) := Lib.hid (by obtain ⟨k, rfl⟩ := hw'; exact Ext.drewN _ _)
                  clear hw' c0 b0 b1
                  go_wp2_with fail
                  refine ⟨⟨q + 1, by omega, by go_num, Lib.hid ⟨?_, HQ.out.2.trans (Chg.of_ext (S := fun _ => False) HX8.out) (fun _ _ e => e.elim)⟩⟩, by simp [RowKit.intOf]; omega⟩
                  rw [HTK.out, HNO.out, if_neg (by simp)]
                  exact (HX8.out.block (block_lt HQ.out.1)).trans HQ.out.1
                have hd2 : decide (s1 ≤ pt) = true := by simp; omega
                have hd3 : decide (pt < s2) = true := by simp; omega
                have HYES : Hid (inS s1 s2 ⟨pt, pv, ps⟩ = true) := Lib.hid (by rw [HIN.out, hd2, hd3]; rfl)
                go_wp2_with fail
                refine wp_region_split_lit [] [0, 1, 2, 3, 4, 5, 6, 7, 8, 9, 10, 11, 12, 13, 14, 15, 16, 17] [] (by kernel_rfl) (by kernel_rfl) (fun _ _ dd _ _ hh => by cases dd <;> exact hh) ?_
                simp only [pickOps, List.getElem?_cons_succ, List.getElem?_cons_zero]
                refine wpQuiet_nil ?_
                repeat (go_big_quiet_step (fail))
                refine wpQuiet_nil ?_
                intro w8 hw'
                have HX8 : Hid (Ext wr w8) := Lib.hid (by obtain ⟨k, rfl⟩ := hw'; exact Ext.drewN _ _)
                clear hw' c0 b0 b1
                obtain ⟨A, hA⟩ : ∃ A, A = agA ((l.take q).filter (inS s1 s2)) := ⟨_, rfl⟩
                have HB8 : Hid (w8.heap[bx]? = some (.cells (rbc ⟨s1, s2, A⟩).toArray 80 (0, 0))) := Lib.hid (by rw [hA]; exact (HX8.out.block (block_lt HQ.out.1)).trans HQ.out.1)
                have HAS : Hid (agA ((l.take (q + 1)).filter (inS s1 s2)) = agM A (agOf ⟨pt, pv, ps⟩)) := Lib.hid (by rw [HTK.out, if_pos HYES.out, agA_snoc, hA])
                have HABD : Hid (A.bnd 900) := Lib.hid (by
                  rw [hA]
                  refine (agA_bnd _ (fun p hp => HPV.out p (List.mem_of_mem_take (List.mem_filter.1 hp).1))).mono ?_
                  have h1 := List.length_filter_le (inS s1 s2) (l.take q)
                  rw [List.length_take] at h1
                  omega)
                clear hA
                have c0 : w8.cell? ⟨b', so' + q * 3, none⟩ = some (.int .i64 pt) := (HX8.out.cell (World.block_lt_of_cell? wr _ HC012.out.1)).trans HC012.out.1
                have c1 : w8.cell? ⟨b', so' + q * 3 + 1, none⟩ = some (.int .i64 pv) := (HX8.out.cell (World.block_lt_of_cell? wr _ HC012.out.2.1)).trans HC012.out.2.1
                have c2 : w8.cell? ⟨b', so' + q * 3 + 2, none⟩ = some (.int .i64 ps) := (HX8.out.cell (World.block_lt_of_cell? wr _ HC012.out.2.2)).trans HC012.out.2.2
                have f0 := cell_turned (T := fun _ => false) c0 rfl
                have f1 := cell_turned (T := fun _ => false) c1 rfl
                have f2 := cell_turned (T := fun _ => false) c2 rfl
                have f3 : ∀ (d : Nat) (f : Nat → Obj) (os : Array Obj), (Instr.loadAt 66 (.pointer (some ⟨bx, 2, none⟩))).run Try.prog (turned w8 (fun _ => false) d f os) = .ok (.agg (agR A)) (turned w8 (fun _ => false) d f os) := fun d f os => by
                  have h1 := run_loadAt_mid (P := Try.prog) (turned w8 (fun _ => false) d f os) bx 2 66 (agR A).toList _ (fun i u hu => by
                    refine cell_turned (T := fun _ => false) (w := w8) ?_ rfl d f os
                    rw [cell_of_block HB8.out, Nat.add_comm]
                    simpa [rbc] using hu) Try.underlying66 rfl ar_info
                  simpa using h1
                clear c0 c1 c2
                obtain ⟨RO, hRO⟩ : ∃ x : Array Value, x = agR (agOf ⟨pt, pv, ps⟩) := ⟨_, rfl⟩
                obtain ⟨RA, hRA⟩ : ∃ x : Array Value, x = agR A := ⟨_, rfl⟩
                obtain ⟨R, hR⟩ : ∃ x : Array Value, x = agR (agM A (agOf ⟨pt, pv, ps⟩)) := ⟨_, rfl⟩
                have HRR := Lib.hid hR
                have HOFC : Hid (∀ W, Calls Try.prog 21 #[.agg #[.int .i64 pt, .int .i64 pv, .int .i64 ps]] W fun e w' => e = .returned (.agg RO) ∧ Ext W w') := Lib.hid (fun W => by rw [hRO]; exact rOf_any ⟨pt, pv, ps⟩ W HPB.out.1 HPB.out.2)
                have HCALL : Hid (∀ W, Calls Try.prog 25 #[.agg RA, .agg RO] W fun e w' => e = .returned (.tuple #[.agg R, .int .i64 0]) ∧ Ext W w') := Lib.hid (fun W => by
                  have ha2 : (agOf ⟨pt, pv, ps⟩).bnd 1 := agOf_bnd HPB.out.1 HPB.out.2
                  have ha1 := HABD.out
                  rw [hR, hRA, hRO]
                  refine rMerge_any _ _ W (bnd_fine ha1 (by omega)) (bnd_fine ha2 (by omega)) (by unfold agOf; simp) ?_
                  unfold Ag.bnd at ha1 ha2
                  unfold sumOk
                  omega)
                have HIR : Hid ((Try.prog.info? 66).map (·.size) = some R.size ∧ R.all (·.oneCell') = true ∧ R.size = 17) := Lib.hid ⟨by rw [HRR.out]; exact ar_info, by rw [HRR.out]; simp [agR, Value.oneCell'], by rw [HRR.out]; rfl⟩
                rw [← hRA] at f3
                clear hRO hRA hR
                go_wp2_with fail
                refine wp_region_plan 13 (fun w' => ∃ p : Turned, w' = turned w8 (fun _ => false) p.d p.f p.os) (.reads [2, 3, 4, 5, 0, 1] (.two 6 (.two 7 (.reads [8, 9, 10] (.one 11 (.one 12 (.one 13 .done)))) 11 (.one 7 (.reads [8, 9, 10] (.one 12 (.one 13 .done))))) 11 (.one 6 (.one 7 (.reads [8, 9, 10] (.one 12 (.one 13 .done))))))) (by kernel_rfl) (by kernel_rfl) (fun _ _ dd _ _ hh => by cases dd <;> exact hh) ?_ ?_
                · exact turned_of_ext (Ext.drewN w8 1)
                refine wpPlan_reads ?_
                simp only [pickOps, List.getElem?_cons_succ, List.getElem?_cons_zero]
                repeat (first | (refine wpQuiet_load_box rfl _ _ rfl _ _ rfl (fun w hw => by obtain ⟨p, rfl⟩ := hw; exact f3 p.d p.f p.os) ?_) | (go_big_quiet_step (fail)))
                refine wpQuiet_nil ?_
                clear f0 f1 f2 f3
                refine wpPlan_two ?goA ?goB
                case' goA =>
                  simp only [pickOps, List.getElem?_cons_succ, List.getElem?_cons_zero]
                  go_wp2_with fail
                  refine (HOFC.out _).mono ?_
                  rintro e w9 ⟨rfl, hx9⟩
                  have HX9 := Lib.hid ((Ext.drewN w8 1).trans hx9)
                  clear hx9
                  go_wp2_with fail
                  refine thenX_mk (turned_of_ext HX9.out) (wpPlan_two ?goA1 ?goA2)
                case' goA1 =>
                  simp only [pickOps, List.getElem?_cons_succ, List.getElem?_cons_zero]
                  go_wp2_with fail
                  refine (HCALL.out _).mono ?_
                  rintro e w10 ⟨rfl, hx10⟩
                  have HX10 := Lib.hid (HX9.out.trans hx10)
                  clear hx10
                  go_wp2_with fail
                  refine thenX_mk (turned_of_ext HX10.out) (wpPlan_reads ?_)
                  simp only [pickOps, List.getElem?_cons_succ, List.getElem?_cons_zero]
                  repeat (go_big_quiet_step (fail))
                  refine wpQuiet_nil ?_
                  refine wpPlan_one ?_
                  simp only [pickOps, List.getElem?_cons_succ, List.getElem?_cons_zero]
                  go_wp2_with fail
                  refine thenX_mk (turned_of_ext (HX10.out.alloc _)) (wpPlan_one ?_)
                  simp only [pickOps, List.getElem?_cons_succ, List.getElem?_cons_zero]
                  obtain ⟨bz, hbz⟩ : ∃ bz, bz = w10.heap.size := ⟨_, rfl⟩
                  have HB4 := Lib.hid (heap_alloc_new w10 (.cells #[.int .i64 0, .int .i64 0, .int .i64 0, .int .i64 0, .int .i64 0, .int .i64 0, .int .i64 0, .int .i64 0, .int .i64 0, .int .i64 0, .int .i64 0, .int .i64 0, .int .i64 0, .int .i64 0, .int .i64 0, .int .i64 0, .int .i64 0] 66 (0, 0)))
                  have HX5 : Hid (Ext w8 (w10.alloc (.cells #[.int .i64 0, .int .i64 0, .int .i64 0, .int .i64 0, .int .i64 0, .int .i64 0, .int .i64 0, .int .i64 0, .int .i64 0, .int .i64 0, .int .i64 0, .int .i64 0, .int .i64 0, .int .i64 0, .int .i64 0, .int .i64 0, .int .i64 0] 66 (0, 0)))) := Lib.hid (HX10.out.alloc _)
                  have HBZ : Hid (w8.heap.size ≤ bz) := Lib.hid (by rw [hbz]; exact HX10.out.size)
                  rw [← hbz] at HB4
                  rw [← hbz]
                  generalize w10.alloc (.cells #[.int .i64 0, .int .i64 0, .int .i64 0, .int .i64 0, .int .i64 0, .int .i64 0, .int .i64 0, .int .i64 0, .int .i64 0, .int .i64 0, .int .i64 0, .int .i64 0, .int .i64 0, .int .i64 0, .int .i64 0, .int .i64 0, .int .i64 0] 66 (0, 0)) = w5 at *
                  clear HX9 HX10 hbz
                case' goA2 =>
                  simp only [pickOps, List.getElem?_cons_succ, List.getElem?_cons_zero]
                  go_wp2_with fail
                  obtain ⟨bz, hbz⟩ : ∃ bz, bz = w9.heap.size := ⟨_, rfl⟩
                  refine thenX_mk (turned_of_ext (HX9.out.alloc _)) (wpPlan_one ?_)
                  simp only [pickOps, List.getElem?_cons_succ, List.getElem?_cons_zero]
                  go_wp2_with fail
                  refine (HCALL.out _).mono ?_
                  rintro e w5 ⟨rfl, hx4⟩
                  have HX5 : Hid (Ext w8 w5) := Lib.hid ((HX9.out.alloc _).trans hx4)
                  have HBZ : Hid (w8.heap.size ≤ bz) := Lib.hid (by rw [hbz]; exact HX9.out.size)
                  have HB4 : Hid (w5.heap[bz]? = some (.cells #[.int .i64 0, .int .i64 0, .int .i64 0, .int .i64 0, .int .i64 0, .int .i64 0, .int .i64 0, .int .i64 0, .int .i64 0, .int .i64 0, .int .i64 0, .int .i64 0, .int .i64 0, .int .i64 0, .int .i64 0, .int .i64 0, .int .i64 0] 66 (0, 0))) := Lib.hid (by
                    rw [hbz]
                    have h0 := heap_alloc_new w9 (.cells #[.int .i64 0, .int .i64 0, .int .i64 0, .int .i64 0, .int .i64 0, .int .i64 0, .int .i64 0, .int .i64 0, .int .i64 0, .int .i64 0, .int .i64 0, .int .i64 0, .int .i64 0, .int .i64 0, .int .i64 0, .int .i64 0, .int .i64 0] 66 (0, 0))
                    exact (hx4.block (block_lt h0)).trans h0)
                  clear hx4
                  go_wp2_with fail
                  refine thenX_mk (turned_of_ext HX5.out) (wpPlan_reads ?_)
                  simp only [pickOps, List.getElem?_cons_succ, List.getElem?_cons_zero]
                  repeat (go_big_quiet_step (fail))
                  refine wpQuiet_nil ?_
                  refine wpPlan_one ?_
                  simp only [pickOps, List.getElem?_cons_succ, List.getElem?_cons_zero]
                  rw [← hbz]
                  clear HX9 hbz
                case' goB =>
                  simp only [pickOps, List.getElem?_cons_succ, List.getElem?_cons_zero]
                  go_wp2_with fail
                  obtain ⟨bz, hbz⟩ : ∃ bz, bz = w8.heap.size := ⟨_, rfl⟩
                  refine thenX_mk (turned_of_ext ((Ext.drewN w8 1).alloc _)) (wpPlan_one ?_)
                  simp only [pickOps, List.getElem?_cons_succ, List.getElem?_cons_zero]
                  go_wp2_with fail
                  refine (HOFC.out _).mono ?_
                  rintro e w9 ⟨rfl, hx9⟩
                  have HX9 := Lib.hid (((Ext.drewN w8 1).alloc _).trans hx9)
                  have HB9 : Hid (w9.heap[bz]? = some (.cells #[.int .i64 0, .int .i64 0, .int .i64 0, .int .i64 0, .int .i64 0, .int .i64 0, .int .i64 0, .int .i64 0, .int .i64 0, .int .i64 0, .int .i64 0, .int .i64 0, .int .i64 0, .int .i64 0, .int .i64 0, .int .i64 0, .int .i64 0] 66 (0, 0))) := Lib.hid (by
                    rw [hbz]
                    have h0 := heap_alloc_new (w8.drewN 1) (.cells #[.int .i64 0, .int .i64 0, .int .i64 0, .int .i64 0, .int .i64 0, .int .i64 0, .int .i64 0, .int .i64 0, .int .i64 0, .int .i64 0, .int .i64 0, .int .i64 0, .int .i64 0, .int .i64 0, .int .i64 0, .int .i64 0, .int .i64 0] 66 (0, 0))
                    exact (hx9.block (block_lt h0)).trans h0)
                  clear hx9
                  go_wp2_with fail
                  refine thenX_mk (turned_of_ext HX9.out) (wpPlan_one ?_)
                  simp only [pickOps, List.getElem?_cons_succ, List.getElem?_cons_zero]
                  go_wp2_with fail
                  refine (HCALL.out _).mono ?_
                  rintro e w5 ⟨rfl, hx4⟩
                  have HX5 : Hid (Ext w8 w5) := Lib.hid (HX9.out.trans hx4)
                  have HBZ : Hid (w8.heap.size ≤ bz) := Lib.hid (by rw [hbz]; exact Nat.le_refl _)
                  have HB4 : Hid (w5.heap[bz]? = some (.cells #[.int .i64 0, .int .i64 0, .int .i64 0, .int .i64 0, .int .i64 0, .int .i64 0, .int .i64 0, .int .i64 0, .int .i64 0, .int .i64 0, .int .i64 0, .int .i64 0, .int .i64 0, .int .i64 0, .int .i64 0, .int .i64 0, .int .i64 0] 66 (0, 0))) := Lib.hid ((hx4.block (block_lt HB9.out)).trans HB9.out)
                  clear hx4
                  go_wp2_with fail
                  refine thenX_mk (turned_of_ext HX5.out) (wpPlan_reads ?_)
                  simp only [pickOps, List.getElem?_cons_succ, List.getElem?_cons_zero]
                  repeat (go_big_quiet_step (fail))
                  refine wpQuiet_nil ?_
                  refine wpPlan_one ?_
                  simp only [pickOps, List.getElem?_cons_succ, List.getElem?_cons_zero]
                  rw [← hbz]
                  clear HX9 HB9 hbz
                all_goals
                  refine wpList_store_box rfl _ _ _ rfl _ _ _ _ rfl rfl HB4.out (by rw [HIR.out.2.2]; rfl) HIR.out.1 HIR.out.2.1 ?_
                  rintro w6 hb6 hc6
                  have HB6 := Lib.hid hb6
                  have HX6 : Hid (Ext w8 w6) := Lib.hid (((Chg.of_ext (S := fun _ => False) HX5.out).trans hc6 (fun i hi e => by have := HBZ.out; omega)).ext (fun _ _ e => e))
                  clear hb6 hc6 HX5 HB4 HCALL HOFC
                  go_wp2_with fail
                  refine thenX_mk (turned_of_ext HX6.out) (wpPlan_one ?_)
                  simp only [pickOps, List.getElem?_cons_succ, List.getElem?_cons_zero]
                  go_wp2_with fail
                  refine thenX_last (wpPlan_done ?_)
                  have HBO : Hid (w6.heap[bx]? = some (.cells (rbc ⟨s1, s2, A⟩).toArray 80 (0, 0))) := Lib.hid ((HX6.out.block (block_lt HB8.out)).trans HB8.out)
                  have HNW : Hid ((rbc ⟨s1, s2, A⟩).toArray.toList.take 2 ++ R.toList ++ (rbc ⟨s1, s2, A⟩).toArray.toList.drop (2 + R.size) = (rbc ⟨s1, s2, agM A (agOf ⟨pt, pv, ps⟩)⟩).toArray.toList) := Lib.hid (by rw [HRR.out]; rfl)
                  have HSZ : Hid (2 + R.size ≤ (rbc ⟨s1, s2, A⟩).toArray.size) := Lib.hid (by rw [HIR.out.2.2]; exact Nat.le_refl 19)
                  go_wp2_with (first | (refine wpList_load_box rfl _ _ rfl _ _ _ _ _ rfl HB6.out Try.underlying66 rfl HIR.out.1 ?_) | (refine wpList_store_part rfl _ _ _ rfl bx 2 (rbc ⟨s1, s2, A⟩).toArray R (rbc ⟨s1, s2, agM A (agOf ⟨pt, pv, ps⟩)⟩).toArray _ rfl rfl HBO.out HSZ.out HNW.out HIR.out.1 HIR.out.2.1 ?_; rintro wz hb8 hc8; have HZ8 := Lib.hid (And.intro hb8 hc8); clear hb8 hc8))
                  refine ⟨⟨q + 1, by omega, by go_num, Lib.hid ⟨?_, ?_⟩⟩, by simp [RowKit.intOf]; omega⟩
                  · rw [HAS.out]; exact HZ8.out.1
                  · exact (HQ.out.2.trans (Chg.of_ext (S := fun _ => False) (HX8.out.trans HX6.out)) (fun _ _ e => e.elim)).trans HZ8.out.2 (fun _ _ e => e)
              · have HQN : Hid (l.take q = l) := Lib.hid (by rw [List.take_of_length_le (by have := HLN.out; omega)])
                have hlq : decide ((q : Int) < (k : Int)) = false := by simp; omega
                rw [HQN.out] at HQ
                obtain ⟨x2, x3, x4, x5, x6, x7, x8, x9, x10, x11, x12, x13, x14, x15, x16, x17, x18, hlits⟩ := rbc_lits ⟨s1, s2, agA (l.filter (inS s1 s2))⟩
                simp only at hlits
                have HLT := Lib.hid hlits
                have HBL : Hid (wr.heap[bx]? = some (.cells #[.int .i64 s1, .int .i64 s2, .int .i64 x2, .int .i64 x3, .int .i64 x4, .int .i64 x5, .int .i64 x6, .int .i64 x7, .int .i64 x8, .int .i64 x9, .int .i64 x10, .int .i64 x11, .int .i64 x12, .int .i64 x13, .int .i64 x14, .int .i64 x15, .int .i64 x16, .int .i64 x17, .int .i64 x18] 80 (0, 0))) := Lib.hid (by have h := HQ.out.1; rw [hlits] at h; exact h)
                have HVB : Hid (∀ g, (Value.slice vb j vd).ownBlock = some g → g ≠ bx) := Lib.hid (fun g hg e => by have h1 := HI.out.row.lt hg; have h2 := HBX.out; omega)
                have HROW : Hid (Row wr 80 19 (.slice vb j vd) j (rbs (DS.take j))) := Lib.hid ((HI.out.row.ext HX7.out).chg HQ.out.2 (fun g hg e => HVB.out g hg e))
                clear hlits
                go_wp2_with (first | (refine wpList_load_box rfl _ _ rfl _ _ _ _ _ rfl HBL.out Try.underlying80 rfl rb_info ?_) | (refine wpList_append_start elem_rbk rfl _ _ rfl rfl rfl (Start.row ((HROW.out).alloc _) HI.out.own) (HIW.out.alloc _) (enc_one (p := (⟨s1, s2, agA (l.filter (inS s1 s2))⟩ : Bk)) (enc := rbc) (heap_alloc_new wr _) HLT.out rfl (rbc_one _)) (by omega) (by unfold maxLen; omega) (by omega) ?_; rintro v' w9 ha; obtain ⟨va', vc', rfl⟩ := ha.row.shape; have HA9 := Lib.hid ha; clear ha))
                have HDJ : Hid (DS.take (j + 1) = DS.take j ++ [⟨s1, s2, agA (l.filter (inS s1 s2))⟩]) := Lib.hid (by
                  have h : DS[j]? = some ⟨s1, s2, agA (l.filter (inS s1 s2))⟩ := by rw [HDS.out, List.getElem?_map, HSJ.out]; rfl
                  rw [List.take_add_one, h]; rfl)
                refine ⟨⟨j + 1, vc', va', by omega, rfl, by go_num, Lib.hid ?_⟩, by simp [RowKit.intOf]; omega⟩
                rw [HDJ.out, rbs_append]
                exact HA9.out
          · have HJM : Hid (DS.take j = DS ∧ DS.length = j) := Lib.hid (by
              have h : DS.length = m := by rw [HDS.out, List.length_map, HMS.out]
              exact ⟨by rw [List.take_of_length_le (by omega)], by omega⟩)
            have hd1 : decide ((j : Int) < (m : Int)) = false := by simp; omega
            go_wp2_with fail
            go_ret2
            rw [HP.out]
            refine .inl ⟨HOK.out, _, rfl, ?_⟩
            rw [← HDD.out, HJM.out.2]
            have h := HI.out
            rw [HJM.out.1] at h
            exact ⟨h.row, fun g hg => Nat.le_trans HX4.out.size (h.own g hg), HX4.out.trans h.ext⟩
end Go.Proofs.Ythnpchfcafaiiaa
