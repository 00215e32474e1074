/- Opening slices of strings. -/
import Derived.Test.YteojffhkdfdmgaaOpg
import Derived.Test.YteojffhkdfdmgaaStr
import Derived.Test.YteojffhkdfdmgaaProg
namespace Go.Proofs.Yteojffhkdfdmgaa
open Go.RowKit Go.Sort Go.Lib Go.ChangeShapes Go.WideShapes Go.Deep

section
variable {H : Type} {enc : TypeId × Value → H} {w : World} {base : Nat} {spare : Nat → Bool} {held : Bool}
theorem strs_flat (l : List ByteArray) : (l.flatMap fun s => [Value.string s]) = strs l := by
  induction l with
  | nil => rfl
  | cons s l ih => rw [List.flatMap_cons, ih]; rfl
theorem open_texts {fuel : Nat} {cs : List Value} {x : DataW H × List MemPlace} (h : DataW.trod enc Try.prog w base spare held fuel 22 cs = some x) :
    ∃ (o : Option Addr) (n c : Nat) (l : List ByteArray), cs = [.slice o n c] ∧ Src w 1 (.slice o n c) n (strs l) ∧ (∀ s ∈ l, s.size ≤ maxLen) ∧ n ≤ c ∧ ∀ B : Nat, (∀ k ∈ x.1.weights Try.prog 22, k ≤ B) → n * Try.prog.bytesOf 9 ≤ B := by
  obtain ⟨o, n, c, l, h1, h2, h3⟩ := open_els (fun s : ByteArray => [Value.string s]) (fun s => s.size ≤ maxLen) 1 (by omega) (fun _ => rfl) (fun s u hu => by simp at hu; subst hu; rfl) Try.underlying22 (by kernel_rfl)
    (fun _ _ _ h => by
      obtain ⟨z, hz, _, hm⟩ := DataW.trod_string Try.underlying9 h
      exact ⟨z, hz, hm⟩) h
  exact ⟨o, n, c, l, h1, by rw [← strs_flat]; exact h2, h3⟩
end
end Go.Proofs.Yteojffhkdfdmgaa
