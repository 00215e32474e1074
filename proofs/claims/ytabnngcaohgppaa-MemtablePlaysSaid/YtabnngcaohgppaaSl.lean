/- Slices of slices of points, in memory. -/
import Derived.Test.YtabnngcaohgppaaPtc
import Derived.Test.YtabnngcaohgppaaOpl
namespace Go.Proofs.Ytabnngcaohgppaa
open Go.RowKit Go.Sort Go.Lib Go.ChangeShapes Go.WideShapes Go.Deep

/-! The lists in memory. -/
structure Sl where
  a : Option Addr
  n : Nat
  c : Nat
  l : List Pt
def Sl.v (x : Sl) : Value := .slice x.a x.n x.c
def Sl.Ok (w : World) (x : Sl) : Prop := Src w 3 x.v x.n (pts x.l) ∧ x.n ≤ x.c
theorem Sl.Ok.ext {w w' : World} {x : Sl} (h : x.Ok w) (hx : Ext w w') : x.Ok w' := ⟨h.1.ext hx, h.2⟩
def totS (ls : List Sl) : Nat := (ls.map fun x => x.l.length).sum
theorem le_totS {ls : List Sl} {x : Sl} (h : x ∈ ls) : x.l.length ≤ totS ls := by
  induction ls with
  | nil => cases h
  | cons y ls ih =>
    rcases List.mem_cons.1 h with rfl | h
    · simp [totS]
    · have := ih h; simp [totS] at *; omega
/-- A place of a slice of slices. -/
theorem lists_src {w : World} {a : Option Addr} {n c : Nat} {ls : List Sl} (h : Src w 1 (.slice a n c) n (ls.map Sl.v)) {k : Nat} (hk : k < n) :
    ∃ b off x, a = some ⟨b, off, none⟩ ∧ ls[k]? = some x ∧ w.cell? ⟨b, off + k, none⟩ = some (.slice x.a x.n x.c) := by
  rcases h with ⟨_, h, _⟩ | ⟨ad, c', h, hl, h2, _⟩
  · omega
  · simp at h
    obtain ⟨rfl, rfl⟩ := h
    have hkl : k < ls.length := by simp at hl; omega
    have hcell := h2 k (ls[k].v) (by simp [List.getElem?_eq_getElem hkl])
    have hcell0 := h2 0 ((ls[0]'(by omega)).v) (by simp [List.getElem?_eq_getElem (show 0 < ls.length by omega)])
    obtain ⟨b, off, spot⟩ := ad
    have hspot : spot = none := by simpa [Addr.add] using World.cell?_spot hcell0
    subst hspot
    refine ⟨b, off, ls[k], rfl, List.getElem?_eq_getElem hkl, ?_⟩
    rw [← Go.WideShapes.add_plain]; exact hcell
theorem lists_len {w : World} {a : Option Addr} {n c : Nat} {ls : List Sl} (h : Src w 1 (.slice a n c) n (ls.map Sl.v)) : ls.length = n := by
  rcases h with ⟨_, h, h2⟩ | ⟨_, _, _, h, _⟩
  · simp at h2; rw [h2, h]; rfl
  · simpa using h

section
variable {H : Type} {enc : TypeId × Value → H} {P : Program} {w : World} {base : Nat} {spare : Nat → Bool} {held : Bool}

theorem open_lists {tt t e it : TypeId} {f0 f1 f2 : Field} {fuel : Nat} {cs : List Value} {x : DataW H × List MemPlace} (htt : P.underlying tt = some (.slice t)) (hct : P.cellsOf t = 1) (ht : P.underlying t = some (.slice e)) (he : P.underlying e = some (.struct #[f0, f1, f2])) (hone : oneCellFields P #[f0, f1, f2] = true) (hC : P.cellsOf e = 3)
    (h0 : f0.type = it) (h1 : f1.type = it) (h2 : f2.type = it) (hi : P.underlying it = some (.int .i64)) (h : DataW.trod enc P w base spare held fuel tt cs = some x) (B : Nat) (hB : ∀ k ∈ x.1.weights P tt, k ≤ B) :
    ∃ (o : Option Addr) (n c : Nat) (ls : List Sl), cs = [.slice o n c] ∧ Src w 1 (.slice o n c) n (ls.map Sl.v) ∧ n ≤ c ∧ (∀ y ∈ ls, y.Ok w ∧ y.n * P.bytesOf e ≤ B) ∧ n * P.bytesOf t ≤ B := by
  rcases open_slice1 htt hct h with ⟨rfl, rfl⟩ | ⟨a, len, cap, m, n, V, D, Pl, rfl, hb, hl, hm, hmm, rfl, hel⟩
  · exact ⟨none, 0, 0, [], rfl, .inl ⟨rfl, rfl, rfl⟩, Nat.le_refl _, by simp, by simp⟩
  · have hlm : len ≤ m := by rw [hmm]; split <;> omega
    have hsl : ∀ i, i < len → ∃ y : Sl, V i = y.v ∧ y.Ok w ∧ y.n * P.bytesOf e ≤ B := by
      intro i hil
      obtain ⟨hc, htr⟩ := hel i (by omega)
      obtain ⟨o, k, c, l, e1, e2, e3, e4⟩ := open_pts ht he hone hC h0 h1 h2 hi htr
      refine ⟨⟨o, k, c, l⟩, by simpa [Sl.v] using e1, ⟨e2, e3⟩, e4 B (fun q hq => hB q ?_)⟩
      simp only [DataW.weights, htt, List.mem_cons, List.mem_append]
      exact .inr (.inl (mem_weightsAll (List.mem_map.2 ⟨i, List.mem_range.2 hil, rfl⟩) q hq))
    have hinh : Inhabited Sl := ⟨⟨none, 0, 0, []⟩⟩
    obtain ⟨F, hF⟩ := choose_lt hsl
    refine ⟨some a, len, cap, (List.range len).map F, rfl, .inr ⟨a, cap, rfl, by simp, fun j u hj => ?_, fun u hu => ?_⟩, hl, fun y hy => ?_, ?_⟩
    · have hj' : j < len := by have := (List.getElem?_eq_some_iff.1 hj).1; simpa using this
      simp [List.getElem?_map, List.getElem?_range hj'] at hj
      rw [(hel j (by omega)).1, (hF j hj').1, hj]
    · obtain ⟨y, _, rfl⟩ := List.mem_map.1 hu; rfl
    · obtain ⟨i, hi, rfl⟩ := List.mem_map.1 hy
      exact (hF i (List.mem_range.1 hi)).2
    · have := hB ((((List.range len).map D).length + ((List.range (m - len)).map fun j => D (len + j)).length) * P.bytesOf t) (by simp [DataW.weights, htt])
      simp at this
      exact Nat.le_trans (Nat.mul_le_mul_right _ (by omega)) this
end

theorem totS_append (a b : List Sl) : totS (a ++ b) = totS a + totS b := by simp [totS]
theorem totS_take_le (ls : List Sl) (k : Nat) : totS (ls.take k) ≤ totS ls := by
  have := totS_append (ls.take k) (ls.drop k)
  rw [List.take_append_drop] at this; omega

theorem totS_map (ls : List Sl) : ((ls.map Sl.l).map List.length).sum = totS ls := by simp [totS, Function.comp_def]


end Go.Proofs.Ytabnngcaohgppaa
