/- Opening slices of strings. -/
import Derived.Test.YtafaagkhgdggbaaDoorOpg
import Derived.Test.YtafaagkhgdggbaaDoorStr
import Derived.Test.YtafaagkhgdggbaaDoorProg
namespace Go.Proofs.YtafaagkhgdggbaaDoor
open Go.RowKit Go.Sort Go.Lib Go.ChangeShapes Go.WideShapes Go.Deep

section
variable {H : Type} {enc : TypeId × Value → H} {w : World} {base : Nat} {spare : Nat → Bool} {held : Bool}
theorem strs_flat (l : List ByteArray) : (l.flatMap fun s => [Value.string s]) = strs l := by
  induction l with
  | nil => rfl
  | cons s l ih => rw [List.flatMap_cons, ih]; rfl
theorem open_texts {fuel : Nat} {cs : List Value} {x : DataW H × List MemPlace} (h : DataW.trod enc Tryd.prog w base spare held fuel 23 cs = some x) :
    ∃ (o : Option Addr) (n c : Nat) (l : List ByteArray), cs = [.slice o n c] ∧ Src w 1 (.slice o n c) n (strs l) ∧ (∀ s ∈ l, s.size ≤ maxLen) ∧ n ≤ c ∧ ∀ B : Nat, (∀ k ∈ x.1.weights Tryd.prog 23, k ≤ B) → n * Tryd.prog.bytesOf 9 ≤ B := by
  obtain ⟨o, n, c, l, h1, h2, h3⟩ := open_els (fun s : ByteArray => [Value.string s]) (fun s => s.size ≤ maxLen) 1 (by omega) (fun _ => rfl) (fun s u hu => by simp at hu; subst hu; rfl) Tryd.underlying23 (by kernel_rfl)
    (fun _ _ _ h => by
      obtain ⟨z, hz, _, hm⟩ := DataW.trod_string Tryd.underlying9 h
      exact ⟨z, hz, hm⟩) h
  exact ⟨o, n, c, l, h1, by rw [← strs_flat]; exact h2, h3⟩
end
end Go.Proofs.YtafaagkhgdggbaaDoor
