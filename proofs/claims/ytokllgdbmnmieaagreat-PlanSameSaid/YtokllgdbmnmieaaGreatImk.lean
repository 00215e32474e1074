/- Maps whose keys are ints. -/
import Derived.Test.YtokllgdbmnmieaaGreatMap
import Derived.Test.YtokllgdbmnmieaaGreatWin
namespace Go.Proofs.YtokllgdbmnmieaaGreat
open Go Go.RowKit Go.Sort

theorem int_find (k : Int) : ∀ (m : List (Int × Value)) (es : List MapEntry) (i : Nat), es.map (fun e => (e.key, e.val)) = m.map (fun p => (Value.int .i64 p.1, p.2)) → Instr.findNow (.int .i64) (.int .i64 k) es i = some (aidx m k i) := by
  intro m
  induction m with
  | nil => intro es i h; simp at h; subst h; rfl
  | cons p m ih =>
    obtain ⟨a, v⟩ := p
    intro es i h
    cases es with
    | nil => simp at h
    | cons e es =>
      simp only [List.map_cons, List.cons.injEq, Prod.mk.injEq] at h
      obtain ⟨⟨h1, h2⟩, h3⟩ := h
      simp only [Instr.findNow, h1, Instr.sameNow, aidx]
      by_cases hk : k = a
      · subst hk; simp [h2]
      · have hbe : (k == a) = false := by simpa using hk
        simp [hbe, hk, ih es (i + 1) h3]

theorem int_kind {P : Program} {kt : TypeId} (hu : P.underlying kt = some (.int .i64)) : KeyKind P kt (fun z : Int => Value.int .i64 z) :=
  ⟨fun emp k w => MapKept.run_checkKey hu (by simp [MapKept.IsKey]) emp 9999,
   fun k m es w he => by simp only [Instr.findKey]; simp [run_underlying hu, int_find k m es 0 he],
   fun k => by simp [Instr.sameBits]⟩
end Go.Proofs.YtokllgdbmnmieaaGreat
