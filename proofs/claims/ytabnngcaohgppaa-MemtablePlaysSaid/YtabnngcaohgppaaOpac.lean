/- Opening the acts of MemtablePlays. -/
import Derived.Test.YtabnngcaohgppaaOpg
import Derived.Test.YtabnngcaohgppaaOps
import Derived.Test.YtabnngcaohgppaaProg
namespace Go.Proofs.Ytabnngcaohgppaa
open Go.RowKit Go.Sort Go.Lib Go.ChangeShapes Go.WideShapes Go.Deep

/-- A call of the law. -/
structure Ac where
  k : Int
  s : ByteArray
  t : Int
  v : Int
  q : Int
def Ac.cells (p : Ac) : List Value := [.int .i64 p.k, .string p.s, .int .i64 p.t, .int .i64 p.v, .int .i64 p.q]
instance : Inhabited Ac := ⟨⟨0, ⟨#[]⟩, 0, 0, 0⟩⟩
def acs (l : List Ac) : List Value := l.flatMap Ac.cells

theorem acs_src {w : World} {a : Option Addr} {n c : Nat} {l : List Ac} (h : Src w 5 (.slice a n c) n (acs l)) {k : Nat} (hk : k < n) :
    ∃ b off p, a = some ⟨b, off, none⟩ ∧ l[k]? = some p ∧ ∀ j u, p.cells[j]? = some u → w.cell? ⟨b, off + (k * 5 + j), none⟩ = some u := by
  rcases h with ⟨_, h, _⟩ | ⟨ad, c', h, hl, h2, _⟩
  · omega
  · simp at h
    obtain ⟨rfl, rfl⟩ := h
    have hl5 : (acs l).length = l.length * 5 := flat_len Ac.cells 5 (fun _ => rfl) l
    rw [hl5] at hl
    have hkl : k < l.length := by omega
    have key : ∀ (k : Nat) (hkl : k < l.length) j u, (l[k]).cells[j]? = some u → w.cell? (ad.add (k * 5 + j)) = some u := fun k hkl j u hj => h2 _ _ (by
      have hj5 : j < 5 := by have := (List.getElem?_eq_some_iff.1 hj).1; simpa [Ac.cells] using this
      have := flat_at Ac.cells 5 (fun _ => rfl) l k j _ (List.getElem?_eq_getElem hkl) hj5
      unfold acs
      rw [this]; exact hj)
    obtain ⟨b, off, spot⟩ := ad
    have hz := key 0 (by omega) 0 _ rfl
    have hspot : spot = none := by simpa [Addr.add] using World.cell?_spot hz
    subst hspot
    refine ⟨b, off, l[k], rfl, List.getElem?_eq_getElem hkl, fun j u hj => ?_⟩
    rw [← Go.WideShapes.add_plain]; exact key k hkl j u hj
theorem acs_src_len {w : World} {v : Value} {n : Nat} {l : List Ac} (h : Src w 5 v n (acs l)) : l.length = n := by
  have hl5 : (acs l).length = l.length * 5 := flat_len Ac.cells 5 (fun _ => rfl) l
  rcases h with ⟨_, rfl, h⟩ | ⟨_, _, _, h, _⟩
  · rw [h] at hl5; simp at hl5; omega
  · omega

section
variable {H : Type} {enc : TypeId × Value → H} {w : World} {base : Nat} {spare : Nat → Bool} {held : Bool}

set_option maxRecDepth 100000 in
theorem open_ac {fuel : Nat} {cs : List Value} {x : DataW H × List MemPlace} (h : DataW.trod enc Try.prog w base spare held fuel 59 cs = some x) : ∃ p : Ac, cs = p.cells ∧ True := by
  obtain ⟨xs, n, _, _, hl, hxl, hf⟩ := DataW.trod_struct Try.underlying59 h
  rw [show Try.prog.cellsOf 59 = 5 by kernel_rfl] at hl
  match cs, hl with
  | [c0, c1, c2, c3, c4], _ =>
    have h0 : DataW.trod enc Try.prog w base spare held n 3 (([c0, c1, c2, c3, c4].drop 0).take (Try.prog.cellsOf 3)) = xs[0]? := hf 0 _ rfl
    have h1 : DataW.trod enc Try.prog w base spare held n 28 (([c0, c1, c2, c3, c4].drop 1).take (Try.prog.cellsOf 28)) = xs[1]? := hf 1 _ rfl
    have h2 : DataW.trod enc Try.prog w base spare held n 3 (([c0, c1, c2, c3, c4].drop 4).take (Try.prog.cellsOf 3)) = xs[2]? := hf 2 _ rfl
    have hx0 : 0 < xs.length := by rw [hxl]; decide
    have hx1 : 1 < xs.length := by rw [hxl]; decide
    have hx2 : 2 < xs.length := by rw [hxl]; decide
    rw [List.getElem?_eq_getElem hx0] at h0
    rw [List.getElem?_eq_getElem hx1] at h1
    rw [List.getElem?_eq_getElem hx2] at h2
    rw [show Try.prog.cellsOf 3 = 1 by kernel_rfl] at h0 h2
    rw [show Try.prog.cellsOf 28 = 3 by kernel_rfl] at h1
    obtain ⟨z0, e0, _⟩ := DataW.trod_int Try.underlying3 h0
    obtain ⟨z2, e2, _⟩ := DataW.trod_int Try.underlying3 h2
    obtain ⟨p, e1⟩ := open_sm Try.underlying28 (by kernel_rfl) (by kernel_rfl) rfl rfl rfl Try.underlying9 Try.underlying3 h1
    simp [Sm.cells] at e0 e1 e2
    obtain ⟨rfl, rfl, rfl⟩ := e1
    subst e0 e2
    exact ⟨⟨z0, p.s, p.t, p.v, z2⟩, rfl, trivial⟩

theorem open_acs {fuel : Nat} {cs : List Value} {x : DataW H × List MemPlace} (h : DataW.trod enc Try.prog w base spare held fuel 54 cs = some x) :
    ∃ (o : Option Addr) (n c : Nat) (l : List Ac), cs = [.slice o n c] ∧ Src w 5 (.slice o n c) n (acs l) ∧ n ≤ c ∧ ∀ B : Nat, (∀ k ∈ x.1.weights Try.prog 54, k ≤ B) → n * Try.prog.bytesOf 59 ≤ B := by
  obtain ⟨o, n, c, l, h1, h2, _, h3⟩ := open_els Ac.cells (fun _ => True) 5 (by omega) (fun _ => rfl) (fun s u hu => by simp [Ac.cells] at hu; rcases hu with rfl | rfl | rfl | rfl | rfl <;> rfl) Try.underlying54 (by kernel_rfl)
    (fun _ _ _ h => open_ac h) h
  exact ⟨o, n, c, l, h1, h2, h3⟩
end
end Go.Proofs.Ytabnngcaohgppaa
