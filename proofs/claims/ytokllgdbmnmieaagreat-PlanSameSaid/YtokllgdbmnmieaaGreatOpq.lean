/- From what a reading gives of slices of points, and of slices of these, to 'Src'; with the reach. -/
import Derived.Test.YtokllgdbmnmieaaGreatPtc
import Derived.Deep.Slices
import Derived.Deep.Fields
import Derived.SizedLaws
import Derived.ProofKit
import Derived.OpenShut
import Derived.Test.YtokllgdbmnmieaaGreatOpg
namespace Go.Proofs.YtokllgdbmnmieaaGreat
open Go.RowKit Go.Sort Go.Lib Go.ChangeShapes Go.WideShapes Go.Deep

section
variable {H : Type} {enc : TypeId × Value → H} {P : Program} {w : World} {base : Nat} {spare : Nat → Bool} {held : Bool}

/-- A point of three ints, read. -/
theorem open_pt {e it : TypeId} {f0 f1 f2 : Field} {fuel : Nat} {cs : List Value} {x : DataW H × List MemPlace} (he : P.underlying e = some (.struct #[f0, f1, f2])) (hone : oneCellFields P #[f0, f1, f2] = true) (hC : P.cellsOf e = 3)
    (h0 : f0.type = it) (h1 : f1.type = it) (h2 : f2.type = it) (hi : P.underlying it = some (.int .i64)) (h : DataW.trod enc P w base spare held fuel e cs = some x) : ∃ p : Pt, cs = p.cells := by
  obtain ⟨xs, n, _, _, hl, hxl, hf⟩ := DataW.trod_struct he h
  rw [hC] at hl
  match cs, hl with
  | [c0, c1, c2], _ =>
    have key : ∀ (i : Nat) (f : Field) (c : Value), (#[f0, f1, f2] : Array Field)[i]? = some f → f.type = it → ([c0, c1, c2].drop i).take 1 = [c] → ∃ z, c = .int .i64 z := by
      intro i f c hfi hft hc
      obtain ⟨ho, hk⟩ := hone_of hone i f hfi
      have h1 := hf i f hfi
      rw [ho, hk, hc, hft] at h1
      have hlt : i < xs.length := by rw [hxl]; exact (Array.getElem?_eq_some_iff.1 hfi).1
      rw [List.getElem?_eq_getElem hlt] at h1
      obtain ⟨z, hz, _⟩ := DataW.trod_int hi h1
      exact ⟨z, by simpa using hz⟩
    obtain ⟨t, rfl⟩ := key 0 f0 c0 rfl h0 rfl
    obtain ⟨v, rfl⟩ := key 1 f1 c1 rfl h1 rfl
    obtain ⟨s, rfl⟩ := key 2 f2 c2 rfl h2 rfl
    exact ⟨⟨t, v, s⟩, rfl⟩

theorem add_block (a : Addr) (i : Nat) : (a.add i).block = a.block := by unfold Addr.add; split <;> rfl

/-- A slice of points, read. -/
theorem open_pts {t e it : TypeId} {f0 f1 f2 : Field} {fuel : Nat} {cs : List Value} {x : DataW H × List MemPlace} (ht : P.underlying t = some (.slice e)) (he : P.underlying e = some (.struct #[f0, f1, f2])) (hone : oneCellFields P #[f0, f1, f2] = true) (hC : P.cellsOf e = 3)
    (h0 : f0.type = it) (h1 : f1.type = it) (h2 : f2.type = it) (hi : P.underlying it = some (.int .i64)) (h : DataW.trod enc P w base spare held fuel t cs = some x) :
    ∃ (o : Option Addr) (n c : Nat) (l : List Pt), cs = [.slice o n c] ∧ Src w 3 (.slice o n c) n (pts l) ∧ n ≤ c ∧ ∀ B : Nat, (∀ k ∈ x.1.weights P t, k ≤ B) → n * P.bytesOf e ≤ B := by
  rcases open_slice ht h with ⟨rfl, rfl⟩ | ⟨a, len, cap, m, n, D, Pl, rfl, hb, hl, hm, hmm, rfl, hel⟩
  · exact ⟨none, 0, 0, [], rfl, .inl ⟨rfl, rfl, rfl⟩, Nat.le_refl _, fun B _ => by simp⟩
  · rw [hC] at hel
    have hlm : len ≤ m := by rw [hmm]; split <;> omega
    have hpt : ∀ i, i < len → ∃ p : Pt, ∀ j u, p.cells[j]? = some u → w.cell? (a.add (i * 3 + j)) = some u := by
      intro i hil
      obtain ⟨cs', hc, htr⟩ := hel i (by omega)
      obtain ⟨p, rfl⟩ := open_pt he hone hC h0 h1 h2 hi htr
      refine ⟨p, fun j u hj => ?_⟩
      obtain ⟨_, _, hat⟩ := World.cells?_some hc
      have hj3 : j < 3 := by have := (List.getElem?_eq_some_iff.1 hj).1; simpa [Pt.cells] using this
      have := hat j hj3
      rw [Go.Deep.add_add] at this
      rw [this]; exact hj
    obtain ⟨F, hF⟩ := choose_lt hpt
    refine ⟨some a, len, cap, (List.range len).map F, rfl, .inr ⟨a, cap, rfl, by rw [pts_len]; simp, fun j u hj => ?_, pts_one _⟩, hl, fun B hB => ?_⟩
    · have hj' : j < len * 3 := by have := (List.getElem?_eq_some_iff.1 hj).1; rw [pts_len] at this; simpa using this
      have hj3 : j / 3 < len := by omega
      have hq : ((List.range len).map F)[j / 3]? = some (F (j / 3)) := by simp [List.getElem?_map, List.getElem?_range hj3]
      obtain ⟨e0, e1, e2⟩ := pts_at _ _ _ hq
      have hFF := hF (j / 3) (by omega)
      have hcases : j = j / 3 * 3 ∨ j = j / 3 * 3 + 1 ∨ j = j / 3 * 3 + 2 := by omega
      rcases hcases with e | e | e
      · rw [e, e0] at hj; rw [e]; exact hFF 0 u (by simpa [Pt.cells] using hj)
      · rw [e, e1] at hj; rw [e]; exact hFF 1 u (by simpa [Pt.cells] using hj)
      · rw [e, e2] at hj; rw [e]; exact hFF 2 u (by simpa [Pt.cells] using hj)
    · have := hB ((((List.range len).map D).length + ((List.range (m - len)).map fun j => D (len + j)).length) * P.bytesOf e) (by simp [DataW.weights, ht])
      simp at this
      exact Nat.le_trans (Nat.mul_le_mul_right _ (by omega)) this

/-- A point by value. -/
theorem open_ptv {r : Reach} {b0 : Nat} {e it : TypeId} {f0 f1 f2 : Field} {v : Value} {d : DataW H} {ps : List MemPlace} (he : P.underlying e = some (.struct #[f0, f1, f2])) (hone : oneCellFields P #[f0, f1, f2] = true) (hC : P.cellsOf e = 3)
    (h0 : f0.type = it) (h1 : f1.type = it) (h2 : f2.type = it) (hi : P.underlying it = some (.int .i64)) (hv : Value.okWide P w r b0 e v) (h : DataW.Trod enc P w base spare held e v d ps) : ∃ p : Pt, v = p.val := by
  obtain ⟨cs, rfl, _⟩ := okWide_struct he hv
  obtain ⟨fuel, hf⟩ := h
  obtain ⟨p, hp⟩ := open_pt he hone hC h0 h1 h2 hi hf
  refine ⟨p, ?_⟩
  simp only [Value.cells] at hp
  obtain ⟨l⟩ := cs
  simp at hp
  rw [hp]; rfl

/-- Two ints in an array, by value. -/
theorem open_span {r : Reach} {b0 : Nat} {t it : TypeId} {v : Value} {d : DataW H} {ps : List MemPlace} (ht : P.underlying t = some (.array 2 it)) (hC : P.cellsOf t = 2) (hc : P.cellsOf it = 1)
    (hi : P.underlying it = some (.int .i64)) (hv : Value.okWide P w r b0 t v) (h : DataW.Trod enc P w base spare held t v d ps) : ∃ x y : Int, v = .agg #[.int .i64 x, .int .i64 y] := by
  obtain ⟨cs, rfl, _⟩ : ∃ cs, v = .agg cs ∧ cs.size = P.cellsOf t := by
    simp only [Value.okWide, ht] at hv
    obtain ⟨cs, h1, h2, _⟩ := hv
    exact ⟨cs, h1, h2⟩
  obtain ⟨fuel, hf⟩ := h
  obtain ⟨xs, m, _, _, hl, hxl, hg⟩ := DataW.trod_array ht hf
  obtain ⟨l⟩ := cs
  rw [hC] at hl
  simp only [Value.cells] at hl hg
  match l, hl with
  | [c0, c1], _ =>
    match xs, hxl with
    | [y0, y1], _ =>
      have g0 := hg 0 (by omega)
      have g1 := hg 1 (by omega)
      rw [hc] at g0 g1
      simp at g0 g1
      obtain ⟨a, ha, _⟩ := DataW.trod_int hi g0
      obtain ⟨b, hb, _⟩ := DataW.trod_int hi g1
      simp at ha hb
      subst ha hb
      exact ⟨a, b, rfl⟩

theorem mem_weightsAll {e : TypeId} {ds : List (DataW H)} {d : DataW H} (h : d ∈ ds) : ∀ k ∈ d.weights P e, k ∈ DataW.weightsAll P e ds := by
  induction ds with
  | nil => cases h
  | cons x ds ih =>
    intro k hk
    simp only [DataW.weightsAll, List.mem_append]
    rcases List.mem_cons.1 h with rfl | h
    · exact .inl hk
    · exact .inr (ih h k hk)

end
end Go.Proofs.YtokllgdbmnmieaaGreat

/-! Slices of slices of points, in memory. -/

namespace Go.Proofs.YtokllgdbmnmieaaGreat
open Go.RowKit Go.Sort Go.Lib Go.ChangeShapes Go.WideShapes Go.Deep

/-! The lists in memory. -/
structure Sl where
  a : Option Addr
  n : Nat
  c : Nat
  l : List Pt
def Sl.v (x : Sl) : Value := .slice x.a x.n x.c
def Sl.Ok (w : World) (x : Sl) : Prop := Src w 3 x.v x.n (pts x.l) ∧ x.n ≤ x.c
theorem Sl.Ok.ext {w w' : World} {x : Sl} (h : x.Ok w) (hx : Ext w w') : x.Ok w' := ⟨h.1.ext hx, h.2⟩
def totS (ls : List Sl) : Nat := (ls.map fun x => x.l.length).sum
theorem le_totS {ls : List Sl} {x : Sl} (h : x ∈ ls) : x.l.length ≤ totS ls := by
  induction ls with
  | nil => cases h
  | cons y ls ih =>
    rcases List.mem_cons.1 h with rfl | h
    · simp [totS]
    · have := ih h; simp [totS] at *; omega
/-- A place of a slice of slices. -/
theorem lists_src {w : World} {a : Option Addr} {n c : Nat} {ls : List Sl} (h : Src w 1 (.slice a n c) n (ls.map Sl.v)) {k : Nat} (hk : k < n) :
    ∃ b off x, a = some ⟨b, off, none⟩ ∧ ls[k]? = some x ∧ w.cell? ⟨b, off + k, none⟩ = some (.slice x.a x.n x.c) := by
  rcases h with ⟨_, h, _⟩ | ⟨ad, c', h, hl, h2, _⟩
  · omega
  · simp at h
    obtain ⟨rfl, rfl⟩ := h
    have hkl : k < ls.length := by simp at hl; omega
    have hcell := h2 k (ls[k].v) (by simp [List.getElem?_eq_getElem hkl])
    have hcell0 := h2 0 ((ls[0]'(by omega)).v) (by simp [List.getElem?_eq_getElem (show 0 < ls.length by omega)])
    obtain ⟨b, off, spot⟩ := ad
    have hspot : spot = none := by simpa [Addr.add] using World.cell?_spot hcell0
    subst hspot
    refine ⟨b, off, ls[k], rfl, List.getElem?_eq_getElem hkl, ?_⟩
    rw [← Go.WideShapes.add_plain]; exact hcell
theorem lists_len {w : World} {a : Option Addr} {n c : Nat} {ls : List Sl} (h : Src w 1 (.slice a n c) n (ls.map Sl.v)) : ls.length = n := by
  rcases h with ⟨_, h, h2⟩ | ⟨_, _, _, h, _⟩
  · simp at h2; rw [h2, h]; rfl
  · simpa using h

section
variable {H : Type} {enc : TypeId × Value → H} {P : Program} {w : World} {base : Nat} {spare : Nat → Bool} {held : Bool}

theorem open_lists {tt t e it : TypeId} {f0 f1 f2 : Field} {fuel : Nat} {cs : List Value} {x : DataW H × List MemPlace} (htt : P.underlying tt = some (.slice t)) (hct : P.cellsOf t = 1) (ht : P.underlying t = some (.slice e)) (he : P.underlying e = some (.struct #[f0, f1, f2])) (hone : oneCellFields P #[f0, f1, f2] = true) (hC : P.cellsOf e = 3)
    (h0 : f0.type = it) (h1 : f1.type = it) (h2 : f2.type = it) (hi : P.underlying it = some (.int .i64)) (h : DataW.trod enc P w base spare held fuel tt cs = some x) (B : Nat) (hB : ∀ k ∈ x.1.weights P tt, k ≤ B) :
    ∃ (o : Option Addr) (n c : Nat) (ls : List Sl), cs = [.slice o n c] ∧ Src w 1 (.slice o n c) n (ls.map Sl.v) ∧ n ≤ c ∧ (∀ y ∈ ls, y.Ok w ∧ y.n * P.bytesOf e ≤ B) ∧ n * P.bytesOf t ≤ B := by
  rcases open_slice1 htt hct h with ⟨rfl, rfl⟩ | ⟨a, len, cap, m, n, V, D, Pl, rfl, hb, hl, hm, hmm, rfl, hel⟩
  · exact ⟨none, 0, 0, [], rfl, .inl ⟨rfl, rfl, rfl⟩, Nat.le_refl _, by simp, by simp⟩
  · have hlm : len ≤ m := by rw [hmm]; split <;> omega
    have hsl : ∀ i, i < len → ∃ y : Sl, V i = y.v ∧ y.Ok w ∧ y.n * P.bytesOf e ≤ B := by
      intro i hil
      obtain ⟨hc, htr⟩ := hel i (by omega)
      obtain ⟨o, k, c, l, e1, e2, e3, e4⟩ := open_pts ht he hone hC h0 h1 h2 hi htr
      refine ⟨⟨o, k, c, l⟩, by simpa [Sl.v] using e1, ⟨e2, e3⟩, e4 B (fun q hq => hB q ?_)⟩
      simp only [DataW.weights, htt, List.mem_cons, List.mem_append]
      exact .inr (.inl (mem_weightsAll (List.mem_map.2 ⟨i, List.mem_range.2 hil, rfl⟩) q hq))
    have hinh : Inhabited Sl := ⟨⟨none, 0, 0, []⟩⟩
    obtain ⟨F, hF⟩ := choose_lt hsl
    refine ⟨some a, len, cap, (List.range len).map F, rfl, .inr ⟨a, cap, rfl, by simp, fun j u hj => ?_, fun u hu => ?_⟩, hl, fun y hy => ?_, ?_⟩
    · have hj' : j < len := by have := (List.getElem?_eq_some_iff.1 hj).1; simpa using this
      simp [List.getElem?_map, List.getElem?_range hj'] at hj
      rw [(hel j (by omega)).1, (hF j hj').1, hj]
    · obtain ⟨y, _, rfl⟩ := List.mem_map.1 hu; rfl
    · obtain ⟨i, hi, rfl⟩ := List.mem_map.1 hy
      exact (hF i (List.mem_range.1 hi)).2
    · have := hB ((((List.range len).map D).length + ((List.range (m - len)).map fun j => D (len + j)).length) * P.bytesOf t) (by simp [DataW.weights, htt])
      simp at this
      exact Nat.le_trans (Nat.mul_le_mul_right _ (by omega)) this
end

theorem totS_append (a b : List Sl) : totS (a ++ b) = totS a + totS b := by simp [totS]
theorem totS_take_le (ls : List Sl) (k : Nat) : totS (ls.take k) ≤ totS ls := by
  have := totS_append (ls.take k) (ls.drop k)
  rw [List.take_append_drop] at this; omega

theorem totS_map (ls : List Sl) : ((ls.map Sl.l).map List.length).sum = totS ls := by simp [totS, Function.comp_def]


end Go.Proofs.YtokllgdbmnmieaaGreat

/-! tidemillref15: rising, two, Merge. -/

namespace Go.Proofs.YtokllgdbmnmieaaGreat
open Go.RowKit Go.Sort Go.Lib

/-! Two lists as one. -/
structure Two (a b out : List Pt) : Prop where
  rises : Rises out
  best : ∀ p ∈ out, (p ∈ a ∧ ∀ q ∈ b, q.t = p.t → q.s < p.s) ∨ (p ∈ b ∧ ∀ q ∈ a, q.t = p.t → q.s ≤ p.s)
  has : ∀ q, q ∈ a ∨ q ∈ b → ∃ p ∈ out, p.t = q.t

theorem Two.nil : Two [] [] [] := ⟨Rises.nil, by simp, by simp⟩
theorem Two.isMerge {a b out : List Pt} (h : Two a b out) (ha : Rises a) (hb : Rises b) : IsMerge [a, b] out := by
  refine ⟨h.rises, fun p hp => ?_, fun j m q hj hq => ?_⟩
  · rcases h.best p hp with ⟨h1, h2⟩ | ⟨h1, h2⟩
    · refine ⟨0, a, rfl, h1, fun j m q hj hq ht => ?_⟩
      match j, hj with
      | 0, hj => simp at hj; subst hj; have := ha.same hq h1 ht; subst this; exact .inr ⟨rfl, Nat.le_refl _⟩
      | 1, hj => simp at hj; subst hj; exact .inl (h2 q hq ht)
      | j + 2, hj => simp at hj
    · refine ⟨1, b, rfl, h1, fun j m q hj hq ht => ?_⟩
      match j, hj with
      | 0, hj => simp at hj; subst hj; have := h2 q hq ht; omega
      | 1, hj => simp at hj; subst hj; have := hb.same hq h1 ht; subst this; exact .inr ⟨rfl, Nat.le_refl _⟩
      | j + 2, hj => simp at hj
  · match j, hj with
    | 0, hj => simp at hj; subst hj; exact h.has q (.inl hq)
    | 1, hj => simp at hj; subst hj; exact h.has q (.inr hq)
    | j + 2, hj => simp at hj
theorem Two.left {a b out : List Pt} (h : Two a b out) {p : Pt} (hp : ∀ q ∈ out, q.t < p.t) : Two (a ++ [p]) b (out ++ [p]) := by
  refine ⟨h.rises.snoc hp, fun x hx => ?_, fun q hq => ?_⟩
  · rcases List.mem_append.1 hx with hx' | hx
    · have hxo := hp x hx'
      rcases h.best x hx' with ⟨h1, h2⟩ | ⟨h1, h2⟩
      · exact .inl ⟨List.mem_append_left _ h1, h2⟩
      · refine .inr ⟨h1, fun q hq ht => ?_⟩
        rcases List.mem_append.1 hq with hq | hq
        · exact h2 q hq ht
        · simp at hq; subst hq; omega
    · simp at hx; subst hx
      refine .inl ⟨by simp, fun q hq ht => ?_⟩
      obtain ⟨y, hy, hyt⟩ := h.has q (.inr hq)
      have := hp y hy; omega
  · rcases hq with hq | hq
    · rcases List.mem_append.1 hq with hq | hq
      · obtain ⟨y, hy, hyt⟩ := h.has q (.inl hq); exact ⟨y, List.mem_append_left _ hy, hyt⟩
      · simp at hq; subst hq; exact ⟨q, by simp, rfl⟩
    · obtain ⟨y, hy, hyt⟩ := h.has q (.inr hq); exact ⟨y, List.mem_append_left _ hy, hyt⟩
theorem Two.right {a b out : List Pt} (h : Two a b out) {p : Pt} (hp : ∀ q ∈ out, q.t < p.t) : Two a (b ++ [p]) (out ++ [p]) := by
  refine ⟨h.rises.snoc hp, fun x hx => ?_, fun q hq => ?_⟩
  · rcases List.mem_append.1 hx with hx' | hx
    · have hxo := hp x hx'
      rcases h.best x hx' with ⟨h1, h2⟩ | ⟨h1, h2⟩
      · refine .inl ⟨h1, fun q hq ht => ?_⟩
        rcases List.mem_append.1 hq with hq | hq
        · exact h2 q hq ht
        · simp at hq; subst hq; omega
      · exact .inr ⟨List.mem_append_left _ h1, h2⟩
    · simp at hx; subst hx
      refine .inr ⟨by simp, fun q hq ht => ?_⟩
      obtain ⟨y, hy, hyt⟩ := h.has q (.inl hq)
      have := hp y hy; omega
  · rcases hq with hq | hq
    · obtain ⟨y, hy, hyt⟩ := h.has q (.inl hq); exact ⟨y, List.mem_append_left _ hy, hyt⟩
    · rcases List.mem_append.1 hq with hq | hq
      · obtain ⟨y, hy, hyt⟩ := h.has q (.inr hq); exact ⟨y, List.mem_append_left _ hy, hyt⟩
      · simp at hq; subst hq; exact ⟨q, by simp, rfl⟩
theorem Two.both {a b out : List Pt} (h : Two a b out) {x y z : Pt} (hxy : x.t = y.t) (hp : ∀ q ∈ out, q.t < x.t) (hz : (z = x ∧ y.s < x.s) ∨ (z = y ∧ x.s ≤ y.s)) : Two (a ++ [x]) (b ++ [y]) (out ++ [z]) := by
  have hzt : z.t = x.t := by rcases hz with ⟨rfl, _⟩ | ⟨rfl, _⟩ <;> simp [hxy]
  refine ⟨h.rises.snoc (fun q hq => by have := hp q hq; omega), fun u hu => ?_, fun q hq => ?_⟩
  · rcases List.mem_append.1 hu with hu | hu
    · have hut := hp u hu
      rcases h.best u hu with ⟨h1, h2⟩ | ⟨h1, h2⟩
      · refine .inl ⟨List.mem_append_left _ h1, fun q hq ht => ?_⟩
        rcases List.mem_append.1 hq with hq | hq
        · exact h2 q hq ht
        · simp at hq; subst hq; omega
      · refine .inr ⟨List.mem_append_left _ h1, fun q hq ht => ?_⟩
        rcases List.mem_append.1 hq with hq | hq
        · exact h2 q hq ht
        · simp at hq; subst hq; omega
    · simp at hu; subst hu
      rcases hz with ⟨rfl, hs⟩ | ⟨rfl, hs⟩
      · refine .inl ⟨by simp, fun q hq ht => ?_⟩
        rcases List.mem_append.1 hq with hq | hq
        · obtain ⟨v, hv, hvt⟩ := h.has q (.inr hq); have := hp v hv; omega
        · simp at hq; subst hq; exact hs
      · refine .inr ⟨by simp, fun q hq ht => ?_⟩
        rcases List.mem_append.1 hq with hq | hq
        · obtain ⟨v, hv, hvt⟩ := h.has q (.inl hq); have := hp v hv; omega
        · simp at hq; subst hq; exact hs
  · have key : ∀ q, (q ∈ a ∨ q ∈ b) → ∃ p ∈ out ++ [z], p.t = q.t := fun q hq => by
      obtain ⟨v, hv, hvt⟩ := h.has q hq; exact ⟨v, List.mem_append_left _ hv, hvt⟩
    rcases hq with hq | hq
    · rcases List.mem_append.1 hq with hq | hq
      · exact key q (.inl hq)
      · simp at hq; subst hq; exact ⟨z, by simp, hzt⟩
    · rcases List.mem_append.1 hq with hq | hq
      · exact key q (.inr hq)
      · simp at hq; subst hq; exact ⟨z, by simp, by omega⟩

/-- What holds while two lists are taken. -/
structure TwoAt (a b out : List Pt) (i k : Nat) : Prop where
  two : Two (a.take i) (b.take k) out
  la : ∀ p ∈ out, ∀ (j : Nat) (q : Pt), i ≤ j → a[j]? = some q → p.t < q.t
  lb : ∀ p ∈ out, ∀ (j : Nat) (q : Pt), k ≤ j → b[j]? = some q → p.t < q.t
  len : out.length ≤ i + k

theorem TwoAt.start (a b : List Pt) : TwoAt a b [] 0 0 := ⟨by simpa using Two.nil, by simp, by simp, by simp⟩
theorem rises_le {b : List Pt} (hb : Rises b) {k j : Nat} {x y : Pt} (hx : b[k]? = some x) (hy : b[j]? = some y) (h : k ≤ j) : x.t ≤ y.t := by
  rcases Nat.lt_or_ge k j with h' | h'
  · have := hb.at hx hy h'; omega
  · obtain rfl : k = j := by omega
    rw [hx] at hy; cases hy; exact Int.le_refl _
theorem TwoAt.left {a b out : List Pt} {i k : Nat} {x : Pt} (h : TwoAt a b out i k) (ha : Rises a) (hb : Rises b) (hx : a[i]? = some x) (hlt : ∀ y, b[k]? = some y → x.t < y.t) : TwoAt a b (out ++ [x]) (i + 1) k := by
  have hlo : ∀ q ∈ out, q.t < x.t := fun q hq => h.la q hq i x (Nat.le_refl _) hx
  refine ⟨by rw [take_snoc' hx]; exact h.two.left hlo, fun p hp j q hj hq => ?_, fun p hp j q hj hq => ?_, by have := h.len; simp; omega⟩
  · rcases List.mem_append.1 hp with hp | hp
    · exact h.la p hp j q (by omega) hq
    · simp at hp; subst hp; exact ha.at hx hq (by omega)
  · rcases List.mem_append.1 hp with hp | hp
    · exact h.lb p hp j q hj hq
    · simp at hp; subst hp
      have hjl := (List.getElem?_eq_some_iff.1 hq).1
      have hk : b[k]? = some (b[k]'(by omega)) := List.getElem?_eq_getElem (by omega)
      have h1 := hlt _ hk
      have h2 := rises_le hb hk hq hj
      omega
theorem TwoAt.right {a b out : List Pt} {i k : Nat} {y : Pt} (h : TwoAt a b out i k) (ha : Rises a) (hb : Rises b) (hy : b[k]? = some y) (hlt : ∀ x, a[i]? = some x → y.t < x.t) : TwoAt a b (out ++ [y]) i (k + 1) := by
  have hlo : ∀ q ∈ out, q.t < y.t := fun q hq => h.lb q hq k y (Nat.le_refl _) hy
  refine ⟨by rw [take_snoc' hy]; exact h.two.right hlo, fun p hp j q hj hq => ?_, fun p hp j q hj hq => ?_, by have := h.len; simp; omega⟩
  · rcases List.mem_append.1 hp with hp | hp
    · exact h.la p hp j q hj hq
    · simp at hp; subst hp
      have hjl := (List.getElem?_eq_some_iff.1 hq).1
      have hi : a[i]? = some (a[i]'(by omega)) := List.getElem?_eq_getElem (by omega)
      have h1 := hlt _ hi
      have h2 := rises_le ha hi hq hj
      omega
  · rcases List.mem_append.1 hp with hp | hp
    · exact h.lb p hp j q (by omega) hq
    · simp at hp; subst hp; exact hb.at hy hq (by omega)
theorem TwoAt.both {a b out : List Pt} {i k : Nat} {x y z : Pt} (h : TwoAt a b out i k) (ha : Rises a) (hb : Rises b) (hx : a[i]? = some x) (hy : b[k]? = some y) (hxy : x.t = y.t) (hz : (z = x ∧ y.s < x.s) ∨ (z = y ∧ x.s ≤ y.s)) : TwoAt a b (out ++ [z]) (i + 1) (k + 1) := by
  have hlo : ∀ q ∈ out, q.t < x.t := fun q hq => h.la q hq i x (Nat.le_refl _) hx
  have hzt : z.t = x.t := by rcases hz with ⟨rfl, _⟩ | ⟨rfl, _⟩ <;> simp [hxy]
  refine ⟨by rw [take_snoc' hx, take_snoc' hy]; exact h.two.both hxy hlo hz, fun p hp j q hj hq => ?_, fun p hp j q hj hq => ?_, by have := h.len; simp; omega⟩
  · rcases List.mem_append.1 hp with hp | hp
    · exact h.la p hp j q (by omega) hq
    · simp at hp; subst hp; have := ha.at hx hq (by omega); omega
  · rcases List.mem_append.1 hp with hp | hp
    · exact h.lb p hp j q (by omega) hq
    · simp at hp; subst hp; have := hb.at hy hq (by omega); omega

end Go.Proofs.YtokllgdbmnmieaaGreat

/-! tidemillref15.Cut. -/

namespace Go.Proofs.YtokllgdbmnmieaaGreat
open Go.RowKit Go.Sort Go.Lib

set_option maxHeartbeats 4000000 in
set_option maxRecDepth 100000 in
theorem refCut_any (w : World) (a : Option Addr) (n c : Nat) (f t : Int) (l : List Pt) (hl : Src w 3 (.slice a n c) n (pts l)) (hn : n < 4398046511104) :
    Calls Tryz.prog 8 #[.slice a n c, .int .i64 f, .int .i64 t] w fun e w' => ∃ v, e = .returned v ∧ CutTo w (cutL f t l) v w' := by
  have HL := Lib.hid hl
  have Ln := Lib.hid (src_len hl)
  clear hl
  go_enter Tryz.func8, Tryz.ntmps8
  go_wp2_with fail
  go_loopw [8, 7] (fun i s7 wr => ∃ (j : Nat) (oa : Option Addr) (oc on : Nat), j ≤ n ∧ i = .int .i64 j ∧ s7 = .slice oa on oc ∧ on ≤ j ∧ Hid (on = (cutL f t (l.take j)).length ∧ CutTo w (cutL f t (l.take j)) (.slice oa on oc) wr)) (fun i _ _ => n - (intOf i).toNat)
  case atStart => exact ⟨0, none, 0, 0, by omega, rfl, rfl, by omega, Lib.hid ⟨by simp [cutL], by simpa [cutL] using CutTo.nil w⟩⟩
  case round =>
    obtain ⟨j, oa, oc, on, hj, rfl, rfl, hon, I⟩ := hrel
    by_cases hlt : j < n
    · obtain ⟨pb, po, p, rfl, hp, p0, p1, p2⟩ := pts_src (HL.out.ext I.out.2.ext) hlt
      have HT := Lib.hid (take_snoc' hp)
      clear hp
      have HC := Lib.hid (cutL_snoc f t (l.take j) p)
      by_cases hin : f ≤ p.t ∧ p.t < t
      · obtain ⟨h1, h2⟩ := hin
        have HC' : Hid (cutL f t (l.take (j + 1)) = cutL f t (l.take j) ++ [p]) := Lib.hid (by rw [HT.out, HC.out, if_pos ⟨h1, h2⟩])
        go_wp2_with (at_builtin; go_must (refine wpList_append_to (m := 1) elem_pt rfl _ _ rfl (v := .slice _ _ _) rfl rfl (I.out.2.row.alloc _) (src_pt' (p := p) (heap_alloc_new _ _)) (by unfold maxLen; have := I.out.1; omega) (by have := I.out.1; omega) ?_; intro v' w3 happ); have K := Lib.hid (I.out.2.snoc ((Ext.refl _).alloc _) happ); obtain ⟨oa', oc', rfl⟩ := happ.row.shape; clear happ)
        go_roundw
        case rel => exact ⟨j + 1, oa', oc', _, by omega, by go_num, rfl, by have := I.out.1; omega, Lib.hid (by rw [HC'.out]; exact ⟨by simp, K.out⟩)⟩
        case measure => simp [intOf]; omega
      · have HC' : Hid (cutL f t (l.take (j + 1)) = cutL f t (l.take j)) := Lib.hid (by rw [HT.out, HC.out, if_neg hin])
        by_cases h1 : f ≤ p.t
        · have h2 : ¬ p.t < t := fun h => hin ⟨h1, h⟩
          go_wp2_with fail
          go_roundw
          case rel => exact ⟨j + 1, oa, oc, on, by omega, by go_num, rfl, by omega, Lib.hid (by rw [HC'.out]; exact ⟨I.out.1, I.out.2⟩)⟩
          case measure => simp [intOf]; omega
        · go_wp2_with fail
          go_roundw
          case rel => exact ⟨j + 1, oa, oc, on, by omega, by go_num, rfl, by omega, Lib.hid (by rw [HC'.out]; exact ⟨I.out.1, I.out.2⟩)⟩
          case measure => simp [intOf]; omega
    · have HF : Hid (l.take j = l) := Lib.hid (List.take_of_length_le (by have := Ln.out; omega))
      go_wp2_with fail
      go_ret
      refine ⟨_, rfl, ?_⟩
      have := I.out.2; rw [HF.out] at this; exact this

end Go.Proofs.YtokllgdbmnmieaaGreat

/-! Opening a query, and slices of tiers. -/

namespace Go.Proofs.YtokllgdbmnmieaaGreat
open Go.RowKit Go.Sort Go.Lib Go.ChangeShapes Go.WideShapes Go.Deep

section
variable {H : Type} {enc : TypeId × Value → H} {w : World} {base : Nat} {spare : Nat → Bool} {held : Bool}
instance : Inhabited Ti := ⟨⟨0, 0, 0, false, ⟨#[]⟩⟩⟩

theorem twelve (l : List Value) (h : l.length = 12) : ∃ c0 c1 c2 c3 c4 c5 c6 c7 c8 c9 c10 c11, l = [c0, c1, c2, c3, c4, c5, c6, c7, c8, c9, c10, c11] := by
  match l, h with
  | [c0, c1, c2, c3, c4, c5, c6, c7, c8, c9, c10, c11], _ => exact ⟨c0, c1, c2, c3, c4, c5, c6, c7, c8, c9, c10, c11, rfl⟩
theorem five (l : List Value) (h : l.length = 5) : ∃ c0 c1 c2 c3 c4, l = [c0, c1, c2, c3, c4] := by
  match l, h with
  | [c0, c1, c2, c3, c4], _ => exact ⟨c0, c1, c2, c3, c4, rfl⟩

theorem open_ti {fuel : Nat} {cs : List Value} {x : DataW H × List MemPlace} (h : DataW.trod enc Tryz.prog w base spare held fuel 48 cs = some x) : ∃ p : Ti, cs = p.cells ∧ p.f.size ≤ maxLen := by
  obtain ⟨hl, hf⟩ := open_flds Tryz.underlying48 (by kernel_rfl) h
  rw [show Tryz.prog.cellsOf 48 = 5 by kernel_rfl] at hl
  obtain ⟨c0, c1, c2, c3, c4, rfl⟩ := five cs hl
  obtain ⟨z0, h0⟩ := (hf 0 _ rfl (by simp)).1 Tryz.underlying3
  obtain ⟨z1, h1⟩ := (hf 1 _ rfl (by simp)).1 Tryz.underlying3
  obtain ⟨z2, h2⟩ := (hf 2 _ rfl (by simp)).1 Tryz.underlying3
  obtain ⟨z3, h3⟩ := (hf 3 _ rfl (by simp)).2.2 Tryz.underlying4
  obtain ⟨z4, h4, hm⟩ := (hf 4 _ rfl (by simp)).2.1 Tryz.underlying9
  simp at h0 h1 h2 h3 h4
  subst h0 h1 h2 h3 h4
  exact ⟨⟨z0, z1, z2, z3, z4⟩, rfl, hm⟩

set_option maxRecDepth 100000 in
theorem open_tiers {fuel : Nat} {cs : List Value} {x : DataW H × List MemPlace} (h : DataW.trod enc Tryz.prog w base spare held fuel 24 cs = some x) :
    ∃ (o : Option Addr) (n c : Nat) (l : List Ti), cs = [.slice o n c] ∧ Src w 5 (.slice o n c) n (tis l) ∧ (∀ p ∈ l, p.f.size ≤ maxLen) ∧ n ≤ c ∧ ∀ B : Nat, (∀ k ∈ x.1.weights Tryz.prog 24, k ≤ B) → n * Tryz.prog.bytesOf 48 ≤ B :=
  open_els Ti.cells (fun p => p.f.size ≤ maxLen) 5 (by omega) (fun _ => rfl) (fun p u hu => by simp [Ti.cells] at hu; rcases hu with rfl | rfl | rfl | rfl | rfl <;> rfl) Tryz.underlying24 (by kernel_rfl) (fun _ _ _ h => open_ti h) h

set_option maxRecDepth 100000 in
theorem open_qv {r : Reach} {b0 : Nat} {v : Value} {d : DataW H} {ps : List MemPlace} (hv : Value.okWide Tryz.prog w r b0 23 v) (h : DataW.Trod enc Tryz.prog w base spare held 23 v d ps) :
    ∃ (op fn : Int) (ser oth : ByteArray) (fr to wd st off gap tol fill : Int), v = .agg #[.int .i64 op, .int .i64 fn, .string ser, .string oth, .int .i64 fr, .int .i64 to, .int .i64 wd, .int .i64 st, .int .i64 off, .int .i64 gap, .int .i64 tol, .int .i64 fill] ∧ ser.size ≤ maxLen ∧ oth.size ≤ maxLen := by
  obtain ⟨cs, rfl, _⟩ := okWide_struct Tryz.underlying23 hv
  obtain ⟨fuel, hf0⟩ := h
  obtain ⟨hl, hf⟩ := open_flds Tryz.underlying23 (by kernel_rfl) hf0
  rw [show Tryz.prog.cellsOf 23 = 12 by kernel_rfl] at hl
  simp only [Value.cells] at hl hf
  obtain ⟨c0, c1, c2, c3, c4, c5, c6, c7, c8, c9, c10, c11, hcs⟩ := twelve _ hl
  rw [hcs] at hf
  obtain ⟨z0, h0⟩ := (hf 0 _ rfl (by simp)).1 Tryz.underlying3
  obtain ⟨z1, h1⟩ := (hf 1 _ rfl (by simp)).1 Tryz.underlying3
  obtain ⟨z2, h2, m2⟩ := (hf 2 _ rfl (by simp)).2.1 Tryz.underlying9
  obtain ⟨z3, h3, m3⟩ := (hf 3 _ rfl (by simp)).2.1 Tryz.underlying9
  obtain ⟨z4, h4⟩ := (hf 4 _ rfl (by simp)).1 Tryz.underlying3
  obtain ⟨z5, h5⟩ := (hf 5 _ rfl (by simp)).1 Tryz.underlying3
  obtain ⟨z6, h6⟩ := (hf 6 _ rfl (by simp)).1 Tryz.underlying3
  obtain ⟨z7, h7⟩ := (hf 7 _ rfl (by simp)).1 Tryz.underlying3
  obtain ⟨z8, h8⟩ := (hf 8 _ rfl (by simp)).1 Tryz.underlying3
  obtain ⟨z9, h9⟩ := (hf 9 _ rfl (by simp)).1 Tryz.underlying3
  obtain ⟨z10, h10⟩ := (hf 10 _ rfl (by simp)).1 Tryz.underlying3
  obtain ⟨z11, h11⟩ := (hf 11 _ rfl (by simp)).1 Tryz.underlying3
  simp at h0 h1 h2 h3 h4 h5 h6 h7 h8 h9 h10 h11
  subst h0 h1 h2 h3 h4 h5 h6 h7 h8 h9 h10 h11
  refine ⟨z0, z1, z2, z3, z4, z5, z6, z7, z8, z9, z10, z11, ?_, m2, m3⟩
  congr 1
  exact Array.toList_inj.1 hcs
end
end Go.Proofs.YtokllgdbmnmieaaGreat
