/- Opening the acts of DiskPlays: structs with slices in them. -/
import Derived.Test.YtcmolfhjkkfedaaOpg
import Derived.Test.YtcmolfhjkkfedaaU8
import Derived.Test.YtcmolfhjkkfedaaZin
import Derived.Test.YtcmolfhjkkfedaaProg
namespace Go.Proofs.Ytcmolfhjkkfedaa
open Go.RowKit Go.Sort Go.Lib Go.ChangeShapes Go.WideShapes Go.Deep

theorem Src.own_lt {w : World} {size : Nat} {v : Value} {n : Nat} {xs : List Value} (h : Src w size v n xs) (h0 : 0 < size) : n = 0 ∨ ∀ g, v.ownBlock = some g → g < w.heap.size := by
  rcases h with ⟨_, rfl, _⟩ | ⟨ad, c, rfl, hl, hc, _⟩
  · exact .inl rfl
  · rcases Nat.eq_zero_or_pos n with hn | hn
    · exact .inl hn
    · refine .inr (fun g hg => ?_)
      have hlen : 0 < xs.length := by rw [hl]; exact Nat.mul_pos hn h0
      have := hc 0 _ (List.getElem?_eq_getElem hlen)
      have := World.block_lt_of_cell? w _ this
      have hb : (ad.add 0).block = ad.block := by unfold Addr.add; split <;> rfl
      rw [hb] at this
      have e : ad.block = g := Option.some.inj hg
      omega

/-- A call of the law. -/
structure Da where
  k : Int
  nm : ByteArray
  to : ByteArray
  ba : Option Addr
  bn : Nat
  bc : Nat
  bs : List UInt8
  n : Int
  b : Nat
  ka : Option Addr
  kn : Nat
  kc : Nat
  ks : List Int
def Da.cells (p : Da) : List Value := [.int .i64 p.k, .string p.nm, .string p.to, .slice p.ba p.bn p.bc, .int .i64 p.n, .int .u32 (p.b : Int), .slice p.ka p.kn p.kc]
structure Da.Ok (w : World) (p : Da) : Prop where
  nm : p.nm.size ≤ maxLen
  to : p.to.size ≤ maxLen
  bs : Src w 1 (.slice p.ba p.bn p.bc) p.bn (u8s p.bs)
  bc : p.bn ≤ p.bc ∧ p.bc ≤ maxLen
  b0 : p.ba = none → p.bc = 0
  n : p.n ≤ 9223372036854775807
  b : p.b < 4294967296
  ks : Src w 1 (.slice p.ka p.kn p.kc) p.kn (zints p.ks)
  kc : p.kn ≤ p.kc ∧ p.kc ≤ maxLen
instance : Inhabited Da := ⟨⟨0, ⟨#[]⟩, ⟨#[]⟩, none, 0, 0, [], 0, 0, none, 0, 0, []⟩⟩
def das (l : List Da) : List Value := l.flatMap Da.cells

theorem das_src {w : World} {a : Option Addr} {n c : Nat} {l : List Da} (h : Src w 7 (.slice a n c) n (das l)) {k : Nat} (hk : k < n) :
    ∃ b off p, a = some ⟨b, off, none⟩ ∧ l[k]? = some p ∧ ∀ j u, p.cells[j]? = some u → w.cell? ⟨b, off + (k * 7 + j), none⟩ = some u := by
  rcases h with ⟨_, h, _⟩ | ⟨ad, c', h, hl, h2, _⟩
  · omega
  · simp at h
    obtain ⟨rfl, rfl⟩ := h
    have hl5 : (das l).length = l.length * 7 := flat_len Da.cells 7 (fun _ => rfl) l
    rw [hl5] at hl
    have hkl : k < l.length := by omega
    have key : ∀ (k : Nat) (hkl : k < l.length) j u, (l[k]).cells[j]? = some u → w.cell? (ad.add (k * 7 + j)) = some u := fun k hkl j u hj => h2 _ _ (by
      have hj5 : j < 7 := by have := (List.getElem?_eq_some_iff.1 hj).1; simpa [Da.cells] using this
      have := flat_at Da.cells 7 (fun _ => rfl) l k j _ (List.getElem?_eq_getElem hkl) hj5
      unfold das
      rw [this]; exact hj)
    obtain ⟨b, off, spot⟩ := ad
    have hz := key 0 (by omega) 0 _ rfl
    have hspot : spot = none := by simpa [Addr.add] using World.cell?_spot hz
    subst hspot
    refine ⟨b, off, l[k], rfl, List.getElem?_eq_getElem hkl, fun j u hj => ?_⟩
    rw [← Go.WideShapes.add_plain]; exact key k hkl j u hj
theorem das_src_len {w : World} {v : Value} {n : Nat} {l : List Da} (h : Src w 7 v n (das l)) : l.length = n := by
  have hl5 : (das l).length = l.length * 7 := flat_len Da.cells 7 (fun _ => rfl) l
  rcases h with ⟨_, rfl, h⟩ | ⟨_, _, _, h, _⟩
  · rw [h] at hl5; simp at hl5; omega
  · omega

section
variable {H : Type} {enc : TypeId × Value → H} {w : World} {base : Nat} {spare : Nat → Bool} {held : Bool}

theorem flat_one {α : Type} (f : α → Value) (l : List α) : (l.flatMap fun x => [f x]) = l.map f := by
  induction l with
  | nil => rfl
  | cons x l ih => rw [List.flatMap_cons, ih]; rfl
/-- A slice that came in, with its capacity. -/
theorem open_cap {t e : TypeId} {fuel : Nat} {cs : List Value} {x : DataW H × List MemPlace} (ht : Try.prog.underlying t = some (.slice e)) (h : DataW.trod enc Try.prog w base spare held fuel t cs = some x) : ∃ o n c, cs = [.slice o n c] ∧ n ≤ c ∧ c ≤ maxLen ∧ (o = none → c = 0) := by
  rcases open_slice ht h with ⟨rfl, rfl⟩ | ⟨a, len, cap, m, n, D, Pl, rfl, hb, hl, hm, hmm, rfl, hel⟩
  · exact ⟨none, 0, 0, rfl, Nat.le_refl _, by unfold maxLen; omega, fun _ => rfl⟩
  · exact ⟨some a, len, cap, rfl, hl, hm, fun e => by cases e⟩
theorem open_u8s {fuel : Nat} {cs : List Value} {x : DataW H × List MemPlace} (h : DataW.trod enc Try.prog w base spare held fuel 30 cs = some x) : ∃ o n c l, cs = [.slice o n c] ∧ Src w 1 (.slice o n c) n (u8s l) ∧ (n ≤ c ∧ c ≤ maxLen) ∧ (o = none → c = 0) := by
  obtain ⟨o, n, c, l, h1, h2, _⟩ := open_els (fun x : UInt8 => [Value.int .u8 (x.toNat : Int)]) (fun _ => True) 1 (by omega) (fun _ => rfl) (fun s u hu => by simp at hu; rw [hu]; rfl) Try.underlying30 (by kernel_rfl)
    (fun _ cs _ h => by
      obtain ⟨z, e, _, hw⟩ := DataW.trod_int Try.underlying5 h
      refine ⟨UInt8.ofNat z.toNat, ?_, trivial⟩
      have hb : 0 ≤ z ∧ z ≤ 255 := by simpa [Lit.wf, IntKind.min, IntKind.max, IntKind.signed, IntKind.bits] using hw
      rw [e]
      simp
      omega) h
  obtain ⟨o', n', c', e, hc⟩ := open_cap Try.underlying30 h
  rw [h1] at e
  simp at e
  obtain ⟨rfl, rfl, rfl⟩ := e
  refine ⟨o, n, c, l, h1, ?_, ⟨hc.1, hc.2.1⟩, hc.2.2⟩
  rw [flat_one] at h2; exact h2
theorem open_is {fuel : Nat} {cs : List Value} {x : DataW H × List MemPlace} (h : DataW.trod enc Try.prog w base spare held fuel 32 cs = some x) : ∃ o n c l, cs = [.slice o n c] ∧ Src w 1 (.slice o n c) n (zints l) ∧ (n ≤ c ∧ c ≤ maxLen) := by
  obtain ⟨o, n, c, l, h1, h2, _⟩ := open_els (fun x : Int => [Value.int .i64 x]) (fun _ => True) 1 (by omega) (fun _ => rfl) (fun s u hu => by simp at hu; rw [hu]; rfl) Try.underlying32 (by kernel_rfl)
    (fun _ cs _ h => by
      obtain ⟨z, e, _, hw⟩ := DataW.trod_int Try.underlying3 h
      exact ⟨z, e, trivial⟩) h
  obtain ⟨o', n', c', e, hc⟩ := open_cap Try.underlying32 h
  rw [h1] at e
  simp at e
  obtain ⟨rfl, rfl, rfl⟩ := e
  refine ⟨o, n, c, l, h1, ?_, ⟨hc.1, hc.2.1⟩⟩
  rw [flat_one] at h2; exact h2

set_option maxRecDepth 100000 in
theorem open_da {fuel : Nat} {cs : List Value} {x : DataW H × List MemPlace} (h : DataW.trod enc Try.prog w base spare held fuel 34 cs = some x) : ∃ p : Da, cs = p.cells ∧ p.Ok w := by
  obtain ⟨xs, n, _, _, hl, hxl, hf⟩ := DataW.trod_struct Try.underlying34 h
  rw [show Try.prog.cellsOf 34 = 7 by kernel_rfl] at hl
  match cs, hl with
  | [c0, c1, c2, c3, c4, c5, c6], _ =>
    have h0 : DataW.trod enc Try.prog w base spare held n 3 (([c0, c1, c2, c3, c4, c5, c6].drop 0).take (Try.prog.cellsOf 3)) = xs[0]? := hf 0 _ rfl
    have h1 : DataW.trod enc Try.prog w base spare held n 9 (([c0, c1, c2, c3, c4, c5, c6].drop 1).take (Try.prog.cellsOf 9)) = xs[1]? := hf 1 _ rfl
    have h2 : DataW.trod enc Try.prog w base spare held n 9 (([c0, c1, c2, c3, c4, c5, c6].drop 2).take (Try.prog.cellsOf 9)) = xs[2]? := hf 2 _ rfl
    have h3 : DataW.trod enc Try.prog w base spare held n 30 (([c0, c1, c2, c3, c4, c5, c6].drop 3).take (Try.prog.cellsOf 30)) = xs[3]? := hf 3 _ rfl
    have h4 : DataW.trod enc Try.prog w base spare held n 3 (([c0, c1, c2, c3, c4, c5, c6].drop 4).take (Try.prog.cellsOf 3)) = xs[4]? := hf 4 _ rfl
    have h5 : DataW.trod enc Try.prog w base spare held n 31 (([c0, c1, c2, c3, c4, c5, c6].drop 5).take (Try.prog.cellsOf 31)) = xs[5]? := hf 5 _ rfl
    have h6 : DataW.trod enc Try.prog w base spare held n 32 (([c0, c1, c2, c3, c4, c5, c6].drop 6).take (Try.prog.cellsOf 32)) = xs[6]? := hf 6 _ rfl
    have hx : ∀ i, i < 7 → i < xs.length := fun i hi => by rw [hxl]; exact hi
    rw [List.getElem?_eq_getElem (hx 0 (by omega)), show Try.prog.cellsOf 3 = 1 by kernel_rfl] at h0
    rw [List.getElem?_eq_getElem (hx 1 (by omega)), show Try.prog.cellsOf 9 = 1 by kernel_rfl] at h1
    rw [List.getElem?_eq_getElem (hx 2 (by omega)), show Try.prog.cellsOf 9 = 1 by kernel_rfl] at h2
    rw [List.getElem?_eq_getElem (hx 3 (by omega)), show Try.prog.cellsOf 30 = 1 by kernel_rfl] at h3
    rw [List.getElem?_eq_getElem (hx 4 (by omega)), show Try.prog.cellsOf 3 = 1 by kernel_rfl] at h4
    rw [List.getElem?_eq_getElem (hx 5 (by omega)), show Try.prog.cellsOf 31 = 1 by kernel_rfl] at h5
    rw [List.getElem?_eq_getElem (hx 6 (by omega)), show Try.prog.cellsOf 32 = 1 by kernel_rfl] at h6
    obtain ⟨z0, e0, _⟩ := DataW.trod_int Try.underlying3 h0
    obtain ⟨s1, e1, _, m1⟩ := DataW.trod_string Try.underlying9 h1
    obtain ⟨s2, e2, _, m2⟩ := DataW.trod_string Try.underlying9 h2
    obtain ⟨o3, n3, k3, l3, e3, r3, q3, y3⟩ := open_u8s h3
    obtain ⟨z4, e4, _, w4⟩ := DataW.trod_int Try.underlying3 h4
    obtain ⟨z5, e5, _, w5⟩ := DataW.trod_int Try.underlying31 h5
    obtain ⟨o6, n6, k6, l6, e6, r6, q6⟩ := open_is h6
    simp at e0 e1 e2 e3 e4 e5 e6
    have b4 : z4 ≤ 9223372036854775807 := by have := w4; simp [Lit.wf, IntKind.min, IntKind.max, IntKind.signed, IntKind.bits] at this; omega
    have b5 : 0 ≤ z5 ∧ z5 ≤ 4294967295 := by simpa [Lit.wf, IntKind.min, IntKind.max, IntKind.signed, IntKind.bits] using w5
    subst e0 e1 e2 e3 e4 e5 e6
    refine ⟨⟨z0, s1, s2, o3, n3, k3, l3, z4, z5.toNat, o6, n6, k6, l6⟩, ?_, ⟨m1, m2, r3, q3, y3, b4, by simp only; omega, r6, q6⟩⟩
    simp only [Da.cells]
    rw [Int.toNat_of_nonneg b5.1]

theorem open_das {fuel : Nat} {cs : List Value} {x : DataW H × List MemPlace} (h : DataW.trod enc Try.prog w base spare held fuel 22 cs = some x) :
    ∃ (o : Option Addr) (n c : Nat) (l : List Da), cs = [.slice o n c] ∧ Src w 7 (.slice o n c) n (das l) ∧ (∀ p ∈ l, p.Ok w) ∧ n ≤ c ∧ ∀ B : Nat, (∀ k ∈ x.1.weights Try.prog 22, k ≤ B) → n * Try.prog.bytesOf 34 ≤ B := by
  obtain ⟨o, n, c, l, h1, h2, h3, h4⟩ := open_els Da.cells (fun p => p.Ok w) 7 (by omega) (fun _ => rfl) (fun s u hu => by simp [Da.cells] at hu; rcases hu with rfl | rfl | rfl | rfl | rfl | rfl | rfl <;> rfl) Try.underlying22 (by kernel_rfl)
    (fun _ _ _ h => open_da h) h
  exact ⟨o, n, c, l, h1, h2, h3, h4⟩
end
end Go.Proofs.Ytcmolfhjkkfedaa
