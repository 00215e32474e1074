/- Keys that are a series and a time. -/
import Derived.Test.YtabnngcaohgppaaTabP
import Derived.Laws.StructEq
namespace Go.Proofs.Ytabnngcaohgppaa
open Go.RowKit Go.Sort Go.Lib

def encPlace (q : ByteArray × Int) : Value := .agg #[.string q.1, .int .i64 q.2]

theorem place_check (emp : Bool) (k : ByteArray × Int) (w : World) : (Instr.checkKey emp 10000 71 (encPlace k)).run Try.prog w = .ok () w := by kernel_rfl

theorem part_s (s : ByteArray) (t : Int) (w : World) : (part 9 #[.string s, .int .i64 t] 0).run Try.prog w = .ok (.string s) w := by kernel_rfl
theorem part_t (s : ByteArray) (t : Int) (w : World) : (part 3 #[.string s, .int .i64 t] 1).run Try.prog w = .ok (.int .i64 t) w := by kernel_rfl

theorem place_equal (k a : ByteArray × Int) (w : World) : (Op.equal 71 (encPlace k) (encPlace a)).run Try.prog w = .ok (decide (k = a)) w := by
  obtain ⟨s, t⟩ := k
  obtain ⟨s', t'⟩ := a
  have h1 : (Op.equal 71 (encPlace (s, t)) (encPlace (s', t'))).run Try.prog w = .ok (if (s.toList == s'.toList) = true then (t == t') else false) w := by
    refine (run_equalIn_struct (P := Try.prog) w 9999 71 #[.string s, .int .i64 t] #[.string s', .int .i64 t'] (by kernel_rfl) (by kernel_rfl)).trans ?_
    cases hb : (s.toList == s'.toList) <;> cases hc : (t == t')
    all_goals simp [Program.fieldsOf, Try.underlying71, Op.eqFields, part_s, part_t, run_equalIn_string _ _ _ _ _ Try.underlying9, run_equalIn_int _ _ _ _ _ _ _ Try.underlying3, hb, hc]
  rw [h1, ← beq_toListBytes, bytes_beq]
  by_cases h2 : s = s'
  · subst h2
    by_cases h3 : t = t'
    · subst h3; simp
    · simp [h3]
  · simp [h2]

theorem place_asking (k : ByteArray × Int) (w : World) : ∀ (m : List ((ByteArray × Int) × Value)) (es : List MapEntry) (i : Nat), es.map (fun e => (e.key, e.val)) = m.map (fun p => (encPlace p.1, p.2)) →
    (Instr.findAsking 71 (encPlace k) es i).run Try.prog w = .ok (aidx m k i) w := by
  intro m
  induction m with
  | nil => intro es i h; simp at h; subst h; rfl
  | cons p m ih =>
    obtain ⟨a, v⟩ := p
    intro es i h
    cases es with
    | nil => simp at h
    | cons e es =>
      simp only [List.map_cons, List.cons.injEq, Prod.mk.injEq] at h
      obtain ⟨⟨h1, h2⟩, h3⟩ := h
      simp only [Instr.findAsking, Sem.run_bind, h1, place_equal, Result.andThen_ok, aidx]
      by_cases hk : k = a
      · subst hk; simp [h2]
      · simp [hk, ih es (i + 1) h3]

theorem place_kind : KeyKind Try.prog 71 encPlace :=
  ⟨place_check,
   fun k m es w he => by
    simp only [Instr.findKey]
    cases m with
    | nil =>
      simp at he
      subst he
      simp only [Sem.run_bind, run_underlying Try.underlying71, Result.andThen_ok, Instr.findNow]
      rfl
    | cons p m =>
      cases es with
      | nil => simp at he
      | cons e es =>
        have h1 : e.key = encPlace p.1 := by simp at he; exact he.1.1
        have hn : ∀ fs, Instr.findNow (.struct fs) (encPlace k) (e :: es) 0 = none := fun fs => by simp [Instr.findNow, Instr.sameNow, encPlace]
        simp only [Sem.run_bind, run_underlying Try.underlying71, Result.andThen_ok, hn]
        exact place_asking k w _ _ 0 he,
   fun k => by simp [Instr.sameBits, encPlace, bytes_beq]⟩

end Go.Proofs.Ytabnngcaohgppaa
