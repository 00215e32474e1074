/- Bytes as texts; slices of bytes cut at the end; plain laws for DiskLasts. -/
import Derived.Test.YtcmolfhjkkfedaaDiskC
import Derived.Test.YtcmolfhjkkfedaaDiskE
import Derived.Laws.BytesArg
import Derived.Laws.IdiomStrings
namespace Go.Proofs.Ytcmolfhjkkfedaa
open Go.RowKit Go.Sort Go.Lib

theorem u8_src_len {w : World} {v : Value} {n : Nat} {l : List UInt8} (h : Src w 1 v n (u8s l)) : l.length = n := (Src.len_eq h).symm
theorem u8_src {w : World} {a : Option Addr} {n c : Nat} {l : List UInt8} (h : Src w 1 (.slice a n c) n (u8s l)) (hn : 0 < n) : ∃ b off, a = some ⟨b, off, none⟩ := by
  rcases h with ⟨_, h, _⟩ | ⟨ad, c', h, hl, h2, _⟩
  · omega
  · simp at h
    obtain ⟨rfl, rfl⟩ := h
    rw [u8s_length] at hl
    have hcell0 := h2 0 (.int .u8 ((l[0]'(by omega)).toNat : Int)) (by simp [u8s, List.getElem?_eq_getElem (show 0 < l.length by omega)])
    obtain ⟨b, off, spot⟩ := ad
    have hspot : spot = none := by simpa [Addr.add] using World.cell?_spot hcell0
    subst hspot
    exact ⟨b, off, rfl⟩
theorem u8_pre {w : World} {a : Option Addr} {n c k : Nat} {l : List UInt8} (h : Src w 1 (.slice a n c) n (u8s l)) (hk : k ≤ n) (hc : a = none → c = 0) : Src w 1 (.slice a k c) k (u8s (l.take k)) := by
  have hl := u8_src_len h
  rcases h with ⟨e, h0, _⟩ | ⟨ad, c', e, _, h2, h3⟩
  · cases e
    have : k = 0 := by omega
    subst this
    exact .inl ⟨rfl, rfl, by simp [u8s]⟩
  · cases e
    refine .inr ⟨ad, c, rfl, by rw [u8s_length]; simp; omega, fun j u hj => ?_, u8s_one _⟩
    rw [u8s, List.map_take, List.getElem?_take] at hj
    split at hj
    · exact h2 j u hj
    · cases hj
/-- A slice of bytes as a text. -/
theorem conv_u8 {w : World} {a : Option Addr} {n c : Nat} {l : List UInt8} (h : Src w 1 (.slice a n c) n (u8s l)) : (Go.convert 30 9 (.slice a n c)).run Try.prog w = .ok (.string ⟨l.toArray⟩) w := by
  have hl := u8_src_len h
  rcases h with ⟨e, h0, h1⟩ | ⟨ad, c', e, _, h2, h3⟩
  · simp only [Value.slice.injEq] at e
    obtain ⟨rfl, rfl, rfl⟩ := e
    have : l = [] := List.length_eq_zero_iff.1 (by omega)
    subst this
    exact run_convert_bytes_nil (P := Try.prog) (w := w) 30 5 Try.underlying30 Try.underlying5 0 0 9 Try.underlying9
  · simp only [Value.slice.injEq] at e
    obtain ⟨rfl, _, rfl⟩ := e
    subst hl
    exact run_convert_bytes_back (P := Try.prog) w 30 9 5 ad c l Try.underlying30 Try.underlying5 Try.underlying9 (fun j hj => h2 j _ (by simp [u8s, List.getElem?_eq_getElem hj]))

/-- A beginning of a slice of bytes, whatever its address. -/
theorem slice_pre_run {w : World} {a : Option Addr} {n c N : Nat} {l : List UInt8} (h : Src w 1 (.slice a n c) n (u8s l)) (hc : a = none → c = 0) (hN : N ≤ n) (hnc : n ≤ c) (hm : N ≤ 1000) :
    ∃ a', (∀ W, (Instr.slice 30 (.slice a n c) none (some (.int .i64 (N : Int))) none).run Try.prog W = .ok (.slice a' N c) W) ∧ (∀ W, (Instr.sliceAt 30 (.slice a n c) none (some (.int .i64 (N : Int))) none).run Try.prog W = .ok (.slice a' N c) W) ∧ Src w 1 (.slice a' N c) N (u8s (l.take N)) := by
  have hu := Try.underlying30
  have hsz : ∀ W, (sizeOf 5).run Try.prog W = .ok 1 W := fun _ => by kernel_rfl
  refine ⟨if c = 0 then a else a.map (·.add 0), fun W => ?_, fun W => ?_, ?_⟩
  · simp [Instr.slice, Instr.sliceBounds, Instr.sliceBound, run_underlying hu, asIntOf, Sem.run_bind, Result.andThen, hsz, show N ≤ c by omega]
  · simp [Instr.sliceAt, Instr.slice, Instr.sliceBounds, Instr.sliceBound, run_underlying hu, asIntOf, Sem.run_bind, Result.andThen, hsz, show N ≤ c by omega]
  · have hp := u8_pre h hN hc
    split
    · exact hp
    · rcases hp with ⟨e, h0, h1⟩ | ⟨ad, c', e, h1, h2, h3⟩
      · simp only [Value.slice.injEq] at e
        obtain ⟨rfl, rfl, rfl⟩ := e
        exact .inl ⟨rfl, h0, h1⟩
      · simp only [Value.slice.injEq] at e
        obtain ⟨rfl, _, rfl⟩ := e
        refine .inr ⟨ad.add 0, c, rfl, h1, fun j u hj => ?_, h3⟩
        have := h2 j u hj
        rwa [Go.Deep.add_add, Nat.zero_add]

theorem join_eq (l t : List UInt8) : ((⟨(l ++ t).toArray⟩ : ByteArray).toList == ((⟨l.toArray⟩ : ByteArray) ++ (⟨t.toArray⟩ : ByteArray)).toList) = true := by
  rw [beq_iff_eq, ByteArray.toList_eq, ByteArray.toList_eq, ByteArray.data_append]
  simp

/-! DiskLasts' disks, step by step. -/
def nA : ByteArray := ⟨#[97]⟩
def nB : ByteArray := ⟨#[98]⟩
theorem nA_ok : nameB nA = true := by decide +kernel
theorem nB_ok : nameB nB = true := by decide +kernel
theorem nAB : nB ≠ nA := by decide +kernel
def lasts1 (s : List UInt8) : DiskS := ⟨[(nA, ⟨s, 0, false⟩)], 5000, s.length, -1, 1⟩
def lasts2 (s : List UInt8) : DiskS := ⟨[(nA, ⟨s, s.length, true⟩)], 5000, s.length, -1, 2⟩
def lasts3 (s m : List UInt8) : DiskS := ⟨[(nA, ⟨s ++ m, s.length, true⟩)], 5000, s.length + m.length, -1, 3⟩
def lasts4 (s m : List UInt8) : DiskS := ⟨[(nA, ⟨s ++ m, s.length, true⟩), (nB, ⟨m, 0, false⟩)], 5000, s.length + m.length + m.length, -1, 4⟩

theorem stops_A : doStops [nA] (-1) = none := by simp [doStops, nA_ok]
theorem stops_B : doStops [nB] (-1) = none := by simp [doStops, nB_ok]

theorem step1 {s : List UInt8} (h : s.length ≤ 1000) : (newDisk 5000).append nA s = (0, lasts1 s) := by
  have e : (newDisk 5000).put nA s = (0, ⟨[(nA, ⟨s, 0, false⟩)], 5000, s.length, -1, 0⟩) := by
    unfold DiskS.put newDisk
    rw [if_neg (by simp; omega)]
    simp only [aget]
    rw [if_neg (by simp; omega)]
    simp [aput]
  rw [DiskS.append, DiskS.doing, e]
  simp [newDisk, stops_A, DiskS.count, lasts1]
theorem step2 {s : List UInt8} : (lasts1 s).sync nA = (0, lasts2 s) := by
  unfold DiskS.sync DiskS.onFile DiskS.doing DiskS.synced
  simp [lasts1, stops_A, aget, aput, DiskS.count, lasts2]
theorem step3 {s m : List UInt8} (h : s.length ≤ 1000) (h2 : m.length ≤ 1000) : (lasts2 s).append nA m = (0, lasts3 s m) := by
  have e : (lasts2 s).put nA m = (0, ⟨[(nA, ⟨s ++ m, s.length, true⟩)], 5000, s.length + m.length, -1, 2⟩) := by
    unfold DiskS.put lasts2
    rw [if_neg (by simp; omega)]
    simp only [aget, if_true]
    rw [if_neg (by omega)]
    simp [aput]
  rw [DiskS.append, DiskS.doing, e]
  simp [lasts2, stops_A, DiskS.count, lasts3]
theorem step4 {s m : List UInt8} (h : s.length ≤ 1000) (h2 : m.length ≤ 1000) : (lasts3 s m).append nB m = (0, lasts4 s m) := by
  have e : (lasts3 s m).put nB m = (0, ⟨[(nA, ⟨s ++ m, s.length, true⟩), (nB, ⟨m, 0, false⟩)], 5000, s.length + m.length + m.length, -1, 3⟩) := by
    unfold DiskS.put lasts3
    rw [if_neg (by simp; omega)]
    simp only [aget, if_neg nAB]
    rw [if_neg (by simp; omega)]
    simp [aput, nAB]
  rw [DiskS.append, DiskS.doing, e]
  simp [lasts3, stops_B, DiskS.count, lasts4]
theorem ok1 {s : List UInt8} (h : s.length ≤ 1000) : (lasts1 s).Ok :=
  ⟨by simp [lasts1], by simp [lasts1], by simp [lasts1], by simp [lasts1]; omega, by simp [lasts1], by simp [lasts1], by simp [lasts1], by simp [lasts1]; omega, by simp [lasts1], by simp [lasts1], by simp [lasts1]⟩
theorem ok2 {s : List UInt8} (h : s.length ≤ 1000) : (lasts2 s).Ok :=
  ⟨by simp [lasts2], by simp [lasts2], by simp [lasts2], by simp [lasts2]; omega, by simp [lasts2], by simp [lasts2], by simp [lasts2], by simp [lasts2]; omega, by simp [lasts2], by simp [lasts2], by simp [lasts2]⟩
theorem ok3 {s m : List UInt8} (h : s.length ≤ 1000) (h2 : m.length ≤ 1000) : (lasts3 s m).Ok :=
  ⟨by simp [lasts3], by simp [lasts3], by simp [lasts3]; omega, by simp [lasts3]; omega, by simp [lasts3], by simp [lasts3], by simp [lasts3], by simp [lasts3]; omega, by simp [lasts3], by simp [lasts3], by simp [lasts3]⟩
theorem ok4 {s m : List UInt8} (h : s.length ≤ 1000) (h2 : m.length ≤ 1000) : (lasts4 s m).Ok :=
  ⟨by simp [lasts4], by simp [lasts4], by simp [lasts4]; omega, by simp [lasts4]; omega, by simp [lasts4], by simp [lasts4], by simp [lasts4], by simp [lasts4]; omega, by simp [lasts4], by simp [lasts4], by simp [lasts4, nAB.symm]⟩

/-- How many of the bytes behind are found. -/
def clampN (keep : Int) (n : Nat) : Nat := (max 0 (min keep n) : Int).toNat
theorem list4 (s m : List UInt8) : (lasts4 s m).list ⟨#[]⟩ = [nA, nB] := by
  unfold DiskS.list
  rw [names_all]
  refine sorted_unique (sortS_perm _) (sortS_sorted _) ?_
  refine List.pairwise_cons.2 ⟨fun b hb => ?_, List.pairwise_singleton _ _⟩
  simp at hb
  subst hb
  show ([97] : List UInt8) ≤ [98]
  decide
theorem crash4 (s m : List UInt8) (keep : Int) : ((lasts4 s m).crash [keep, keep]).files = (nA, ⟨s ++ m.take (clampN keep m.length), s.length + clampN keep m.length, true⟩) :: (if 0 < clampN keep m.length then [(nB, ⟨m.take (clampN keep m.length), clampN keep m.length, true⟩)] else []) := by
  unfold DiskS.crash crashS
  rw [list4]
  have k0 : keepN [keep, keep] 0 ⟨s ++ m, s.length, true⟩ = s.length + clampN keep m.length := by
    simp [keepN, clampN]
  have k1 : keepN [keep, keep] 1 ⟨m, 0, false⟩ = clampN keep m.length := by
    simp [keepN, clampN]
  have f0 : keepF [keep, keep] 0 ⟨s ++ m, s.length, true⟩ = some ⟨s ++ m.take (clampN keep m.length), s.length + clampN keep m.length, true⟩ := by
    rw [keepF_some (.inr rfl), k0]
    simp [List.take_append]
    exact List.take_of_length_le (by omega)
  have f1 : keepF [keep, keep] 1 ⟨m, 0, false⟩ = if 0 < clampN keep m.length then some ⟨m.take (clampN keep m.length), clampN keep m.length, true⟩ else none := by
    unfold keepF
    rw [k1]
    simp
  have s0 : crashStep (lasts4 s m) [keep, keep] 0 = [(nA, ⟨s ++ m.take (clampN keep m.length), s.length + clampN keep m.length, true⟩)] := by
    unfold crashStep
    rw [list4]
    simp only [List.getElem?_cons_zero]
    rw [show (aget (lasts4 s m).files nA).getD zeroF = ⟨s ++ m, s.length, true⟩ by simp [lasts4, aget], f0]
    rfl
  have s1 : crashStep (lasts4 s m) [keep, keep] 1 = if 0 < clampN keep m.length then [(nB, ⟨m.take (clampN keep m.length), clampN keep m.length, true⟩)] else [] := by
    unfold crashStep
    rw [list4]
    simp only [List.getElem?_cons_succ, List.getElem?_cons_zero]
    rw [show (aget (lasts4 s m).files nB).getD zeroF = ⟨m, 0, false⟩ by simp [lasts4, aget, nAB], f1]
    split <;> rfl
  show crashTo (lasts4 s m) [keep, keep] 2 = _
  rw [crashTo, crashTo, crashTo, s0, s1]
  simp

theorem crash_ok {S : DiskS} (ok : S.Ok) (keep : List Int) (hsum : (sumF (S.crash keep).files : Int) ≤ S.room) : (S.crash keep).Ok := by
  have h1 := crashTo_small ok keep (S.list ⟨#[]⟩).length
  have h2 := crashTo_names S keep (S.list ⟨#[]⟩).length
  have h3 := list_len ok
  have h4 := list_nodup ok
  rw [List.take_length] at h2
  have h5 := h2.length_le
  rw [List.length_map] at h5
  exact ⟨ok.room0, ok.room1, Int.natCast_nonneg _, hsum, by simp [DiskS.crash, crashS], by simp [DiskS.crash, crashS], by simp [DiskS.crash, crashS], fun p hp => (h1 p hp).1, by show (crashTo S keep _).length ≤ 512; omega, fun p hp => (h1 p hp).2, h2.nodup h4⟩
theorem okC {s m : List UInt8} (h : s.length ≤ 1000) (h2 : m.length ≤ 1000) (keep : Int) : ((lasts4 s m).crash [keep, keep]).Ok := by
  refine crash_ok (ok4 h h2) _ ?_
  rw [crash4]
  show (_ : Int) ≤ 5000
  split
  · simp [sumF]; omega
  · simp [sumF]; omega
end Go.Proofs.Ytcmolfhjkkfedaa
