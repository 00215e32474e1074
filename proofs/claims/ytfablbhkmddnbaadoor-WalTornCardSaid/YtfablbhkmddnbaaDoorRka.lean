/- The document's disk: New, find, right, Used, done. -/
import Derived.Test.YtfablbhkmddnbaaDoorRk0
import Derived.Deep.DeepCutAuto
import Derived.Test.YtfablbhkmddnbaaDoorPlan
import Derived.Test.YtfablbhkmddnbaaDoorApp
import Derived.Test.YtfablbhkmddnbaaDoorEnc
import Derived.Test.YtfablbhkmddnbaaDoorZin
import Derived.Test.YtfablbhkmddnbaaDoorDiskC
import Derived.Test.YtfablbhkmddnbaaDoorFlp
namespace Go.Proofs.YtfablbhkmddnbaaDoor
open Go.RowKit Go.Sort Go.Lib

theorem rk_str_eq (a b : ByteArray) : (a.toList == b.toList) = decide (a = b) := by
  rw [← beq_toListBytes, bytes_beq]
/-- Where a file is. -/
def FAt (L : List RF) (name : ByteArray) (kk : Int) : Prop := (kk = -1 ∧ ∀ p ∈ L, p.nm ≠ name) ∨ ∃ (r : Nat) (p : RF), kk = (r : Int) ∧ L[r]? = some p ∧ p.nm = name

def sumR (L : List RF) : Nat := (L.map fun f => f.bs.length).sum
theorem sumR_data (L : List RF) : sumR L = sumF (rdata L) := by
  unfold sumR sumF rdata
  rw [List.map_map]
  rfl
theorem sumR_take (L : List RF) (r : Nat) : sumR (L.take r) ≤ sumR L := by
  have := congrArg sumR (List.take_append_drop r L)
  have e : sumR (L.take r ++ L.drop r) = sumR (L.take r) + sumR (L.drop r) := by unfold sumR; rw [List.map_append, List.sum_append]
  omega

end Go.Proofs.YtfablbhkmddnbaaDoor

/-! The document's disk: put. -/

namespace Go.Proofs.YtfablbhkmddnbaaDoor
open Go.RowKit Go.Sort Go.Lib

/-- A file put where its name wants it. -/
def PutF (L : List RF) (x : RF) (L' : List RF) : Prop := ∃ k, BubF L x k L' ∧ ∀ j y, k = j + 1 → L[j]? = some y → ¬ bl x.nm < bl y.nm

theorem rfs_snoc (L : List RF) (x : RF) : rfs L ++ rfs [x] = rfs (L ++ [x]) := (rfs_append _ _).symm
end Go.Proofs.YtfablbhkmddnbaaDoor

/-! The document's disk: take; parts of slices of elements of some cells. -/

namespace Go.Proofs.YtfablbhkmddnbaaDoor
open Go.RowKit Go.Sort Go.Lib

/-- The address of a part of elements of s cells. -/
def cutT (s : Nat) (a : Option Addr) (m l : Nat) : Option Addr := if m = l then a else a.map (·.add (l * s))
section
variable {P : Program} {t e : TypeId} {s : Nat}
theorem run_cut_hi (hu : P.underlying t = some (.slice e)) (hs : ∀ W, (sizeOf e).run P W = .ok s W) (a : Option Addr) (n c h : Nat) (h2 : h ≤ c) :
    ∀ W, (Instr.slice t (.slice a n c) none (some (.int .i64 (h : Int))) none).run P W = .ok (.slice (cutT s a c 0) h c) W := fun W => by
  simp [Instr.slice, Instr.sliceBounds, Instr.sliceBound, run_underlying hu, asIntOf, Sem.run_bind, Result.andThen, hs, h2, cutT]
theorem run_cut_lo (hu : P.underlying t = some (.slice e)) (hs : ∀ W, (sizeOf e).run P W = .ok s W) (a : Option Addr) (n c l : Nat) (h1 : l ≤ n) :
    ∀ W, (Instr.slice t (.slice a n c) (some (.int .i64 (l : Int))) none none).run P W = .ok (.slice (cutT s a c l) (n - l) (c - l)) W := fun W => by
  simp [Instr.slice, Instr.sliceBounds, Instr.sliceBound, run_underlying hu, asIntOf, Sem.run_bind, Result.andThen, hs, h1, cutT]
theorem run_cutAt_hi (hu : P.underlying t = some (.slice e)) (hs : ∀ W, (sizeOf e).run P W = .ok s W) (a : Option Addr) (n c h : Nat) (h2 : h ≤ c) :
    ∀ W, (Instr.sliceAt t (.slice a n c) none (some (.int .i64 (h : Int))) none).run P W = .ok (.slice (cutT s a c 0) h c) W := fun W => by
  simp [Instr.sliceAt, Instr.slice, Instr.sliceBounds, Instr.sliceBound, run_underlying hu, asIntOf, Sem.run_bind, Result.andThen, hs, h2, cutT]
theorem run_cutAt_lo (hu : P.underlying t = some (.slice e)) (hs : ∀ W, (sizeOf e).run P W = .ok s W) (a : Option Addr) (n c l : Nat) (h1 : l ≤ n) :
    ∀ W, (Instr.sliceAt t (.slice a n c) (some (.int .i64 (l : Int))) none none).run P W = .ok (.slice (cutT s a c l) (n - l) (c - l)) W := fun W => by
  simp [Instr.sliceAt, Instr.slice, Instr.sliceBounds, Instr.sliceBound, run_underlying hu, asIntOf, Sem.run_bind, Result.andThen, hs, h1, cutT]
end
theorem src_cutT {w : World} {s : Nat} {a : Option Addr} {n c l h : Nat} {xs : List Value} (hs : Src w s (.slice a n c) n xs) (h1 : l ≤ h) (h2 : h ≤ n) (h3 : n ≤ c) (h0 : 0 < s) :
    Src w s (.slice (cutT s a c l) (h - l) (c - l)) (h - l) ((xs.drop (l * s)).take ((h - l) * s)) := by
  rcases hs with ⟨e, rfl, rfl⟩ | ⟨ad, c', e, hl, hc, ho⟩
  · simp at e
    obtain ⟨rfl, rfl⟩ := e
    obtain rfl : h = 0 := by omega
    obtain rfl : l = 0 := by omega
    exact .inl ⟨by simp [cutT], by omega, by simp⟩
  · simp at e
    obtain ⟨rfl, rfl⟩ := e
    refine .inr ⟨if c = l then ad else ad.add (l * s), c - l, ?_, ?_, fun j u hj => ?_, fun u hu => ho u (List.mem_of_mem_drop (List.mem_of_mem_take hu))⟩
    · unfold cutT; split <;> rfl
    · rw [List.length_take, List.length_drop, hl, ← Nat.sub_mul]
      exact Nat.min_eq_left (Nat.mul_le_mul_right _ (by omega))
    · rw [List.getElem?_take] at hj
      split at hj
      · rename_i hlt
        rw [List.getElem?_drop] at hj
        have : c ≠ l := by
          intro e
          have : h - l = 0 := by omega
          rw [this] at hlt
          omega
        rw [if_neg this, Go.Deep.add_add]
        exact hc _ _ hj
      · cases hj

theorem rfs_drop (L : List RF) (k : Nat) : (rfs L).drop (k * 4) = rfs (L.drop k) := by
  induction k generalizing L with
  | zero => simp
  | succ k ih =>
    cases L with
    | nil => simp [rfs]
    | cons p l =>
      rw [show (k + 1) * 4 = k * 4 + 4 by omega]
      simpa [rfs, rfc] using ih l
theorem rfs_take (L : List RF) (k : Nat) : (rfs L).take (k * 4) = rfs (L.take k) := by
  induction k generalizing L with
  | zero => simp [rfs]
  | succ k ih =>
    cases L with
    | nil => simp [rfs]
    | cons p l =>
      rw [show (k + 1) * 4 = k * 4 + 4 by omega]
      simpa [rfs, rfc] using ih l
end Go.Proofs.YtfablbhkmddnbaaDoor

/-! The document's disk, as plain data; Append. -/

namespace Go.Proofs.YtfablbhkmddnbaaDoor
open Go.RowKit Go.Sort Go.Lib

theorem set_same {α : Type} {l : List α} {i : Nat} {v : α} (h : l[i]? = some v) : l.set i v = l := by
  apply List.ext_getElem?
  intro j
  rw [List.getElem?_set]
  split
  · subst_vars
    obtain ⟨h1, _⟩ := List.getElem?_eq_some_iff.1 h
    rw [if_pos h1, h]
  · rfl
theorem rfs_cells {L : List RF} {k : Nat} {x : RF} (h : L[k]? = some x) : (rfs L)[k * 4]? = some (.string x.nm) ∧ (rfs L)[k * 4 + 1]? = some x.v ∧ (rfs L)[k * 4 + 2]? = some (.int .i64 (x.la : Int)) ∧ (rfs L)[k * 4 + 3]? = some (.bool x.sy) :=
  ⟨enc_at rfc_len L k x h 0 _ rfl, enc_at rfc_len L k x h 1 _ rfl, enc_at rfc_len L k x h 2 _ rfl, enc_at rfc_len L k x h 3 _ rfl⟩
/-- The row, behind a file's bytes are others. -/
theorem row_setB {w : World} {t : TypeId} {g n c r : Nat} {L : List RF} {x : RF} (h : Row w t 4 (.slice (some ⟨g, 0, none⟩) n c) n (rfs L)) (hx : L[r]? = some x) (a' : Option Addr) (n' c' : Nat) (bs' : List UInt8) :
    Row (w.setCell ⟨g, r * 4 + 1, none⟩ (.slice a' n' c')) t 4 (.slice (some ⟨g, 0, none⟩) n c) n (rfs (L.set r ⟨x.nm, a', n', c', bs', x.la, x.sy⟩)) := by
  obtain ⟨r1, _⟩ := World.ownsRow.stored h (r * 4 + 1) (.slice a' n' c')
  have e : rfs (L.set r ⟨x.nm, a', n', c', bs', x.la, x.sy⟩) = (rfs L).set (r * 4 + 1) (.slice a' n' c') := by
    obtain ⟨e0, e1, e2, e3⟩ := rfs_cells hx
    rw [rfs_set]
    simp only [RF.v]
    rw [set_same e0, set_same (i := r * 4 + 2), set_same (i := r * 4 + 3)]
    · rw [List.getElem?_set_ne (by omega)]; exact e3
    · rw [List.getElem?_set_ne (by omega)]; exact e2
  rw [e]; exact r1

/-- What of the files is put in. -/
theorem rdata_split (L : List RF) (k : Nat) (x : RF) : rdata (L.take k ++ x :: L.drop k) = (rdata L).take k ++ (x.nm, x.fs) :: (rdata L).drop k := by
  simp [rdata, List.map_take, List.map_drop]
theorem PutF.sortF {L L' : List RF} {x : RF} {F : Fs} (h : PutF L x L') (hF : SortF (rdata L) F) (hn : aget F x.nm = none) : SortF (rdata L') (aput F x.nm x.fs) ∧ sumR L' = sumR L + x.bs.length ∧ L'.length = L.length + 1 ∧ ∀ f ∈ L', f ∈ L ∨ f = x := by
  obtain ⟨k, hb, hlast⟩ := h
  have hk := hb.le
  refine ⟨?_, ?_, hb.len, fun f hf => ?_⟩
  · rw [hb.eq, rdata_split]
    refine hF.insert (by rw [rdata_len]; exact hk) hn (fun b hb' => ?_) (fun j y e hj => ?_)
    · unfold rdata at hb'
      rw [← List.map_drop] at hb'
      obtain ⟨f, hf, rfl⟩ := List.mem_map.1 hb'
      exact hb.gt f hf
    · unfold rdata at hj
      rw [List.getElem?_map] at hj
      obtain ⟨f, hf, rfl⟩ := Option.map_eq_some_iff.1 hj
      exact hlast j f e hf
  · have e1 := congrArg sumR (List.take_append_drop k L)
    have e2 : ∀ A B : List RF, sumR (A ++ B) = sumR A + sumR B := fun A B => by unfold sumR; rw [List.map_append, List.sum_append]
    have e3 : ∀ A : List RF, sumR (x :: A) = x.bs.length + sumR A := fun A => by simp [sumR]
    rw [e2] at e1
    rw [hb.eq, e2, e3]; omega
  · rw [hb.eq] at hf
    rcases List.mem_append.1 hf with hf | hf
    · exact .inl (List.mem_of_mem_take hf)
    · rcases List.mem_cons.1 hf with rfl | hf
      · exact .inr rfl
      · exact .inl (List.mem_of_mem_drop hf)
theorem rdata_set (L : List RF) (k : Nat) (x : RF) : rdata (L.set k x) = (rdata L).set k (x.nm, x.fs) := by
  unfold rdata; rw [List.map_set]
theorem sum_set {l : List Nat} {k a b : Nat} (h : l[k]? = some a) : (l.set k b).sum + a = l.sum + b := by
  induction l generalizing k with
  | nil => simp at h
  | cons y l ih =>
    cases k with
    | zero => simp at h; subst h; simp; omega
    | succ k =>
      have := ih (k := k) (by simpa using h)
      simp; omega
theorem sumR_set {L : List RF} {k : Nat} {y : RF} (h : L[k]? = some y) (x : RF) : sumR (L.set k x) + y.bs.length = sumR L + x.bs.length := by
  unfold sumR
  rw [List.map_set]
  exact sum_set (by rw [List.getElem?_map, h]; rfl)
end Go.Proofs.YtfablbhkmddnbaaDoor

/-! The document's disk: Append. -/

namespace Go.Proofs.YtfablbhkmddnbaaDoor
open Go.RowKit Go.Sort Go.Lib

section
variable {S : DiskS} {name : ByteArray} {bs : List UInt8}
theorem app_bad (h : nameB name = false) : S.append name bs = (2, S) := by simp [DiskS.append, DiskS.doing, doStops, h]
theorem app_cut (h : nameB name = true) (hl : S.left = 0) : S.append name bs = (17, S) := by simp [DiskS.append, DiskS.doing, doStops, h, hl]
theorem app_full (h : nameB name = true) (hl : ¬ S.left = 0) (hf : S.room - S.used < (bs.length : Int)) : S.append name bs = (15, S) := by simp [DiskS.append, DiskS.doing, doStops, DiskS.put, h, hl, hf]
theorem app_many (h : nameB name = true) (hl : ¬ S.left = 0) (hf : ¬ S.room - S.used < (bs.length : Int)) (hx : aget S.files name = none) (hm : 512 ≤ S.files.length ∨ 1048576 < bs.length) : S.append name bs = (3, S) := by
  simp [DiskS.append, DiskS.doing, doStops, DiskS.put, h, hl, hf, hx, hm]
theorem app_new (h : nameB name = true) (hl : ¬ S.left = 0) (hf : ¬ S.room - S.used < (bs.length : Int)) (hx : aget S.files name = none) (hm : ¬ (512 ≤ S.files.length ∨ 1048576 < bs.length)) :
    S.append name bs = (0, ({ S with files := aput S.files name ⟨bs, 0, false⟩, used := S.used + bs.length } : DiskS).count) := by
  simp only [DiskS.append, DiskS.doing, doStops, DiskS.put, List.all_cons, h, hl, hf, hx, hm, List.all_nil, Bool.and_true, if_false, Bool.true_eq_false, if_true]
theorem app_big {f : FileS} (h : nameB name = true) (hl : ¬ S.left = 0) (hf : ¬ S.room - S.used < (bs.length : Int)) (hx : aget S.files name = some f) (hm : 1048576 < bs.length + f.bytes.length) : S.append name bs = (3, S) := by
  simp [DiskS.append, DiskS.doing, doStops, DiskS.put, h, hl, hf, hx, hm]
theorem app_old {f : FileS} (h : nameB name = true) (hl : ¬ S.left = 0) (hf : ¬ S.room - S.used < (bs.length : Int)) (hx : aget S.files name = some f) (hm : ¬ 1048576 < bs.length + f.bytes.length) :
    S.append name bs = (0, ({ S with files := aput S.files name { f with bytes := f.bytes ++ bs }, used := S.used + bs.length } : DiskS).count) := by
  simp only [DiskS.append, DiskS.doing, doStops, DiskS.put, List.all_cons, h, hl, hf, hx, hm, List.all_nil, Bool.and_true, if_false, Bool.true_eq_false, if_true]
end

theorem rfiles_sum {L : List RF} {x : RF} (h : x ∈ L) : x.bs.length ≤ sumR L := by
  unfold sumR
  induction L with
  | nil => cases h
  | cons y L ih =>
    rcases List.mem_cons.1 h with rfl | h
    · simp
    · have := ih h; simp; omega

end Go.Proofs.YtfablbhkmddnbaaDoor

/-! The document's disk: Do (Sync, Delete). -/

namespace Go.Proofs.YtfablbhkmddnbaaDoor
open Go.RowKit Go.Sort Go.Lib

section
variable {S S' : DiskS} {ns : List ByteArray} {name : ByteArray}
theorem onf_bad (h : ns.all nameB = false) : S.onFile ns name S' = (2, S) := by simp [DiskS.onFile, DiskS.doing, doStops, h]
theorem onf_cut (h : ns.all nameB = true) (hl : S.left = 0) : S.onFile ns name S' = (17, S) := by simp [DiskS.onFile, DiskS.doing, doStops, h, hl]
theorem onf_none (h : ns.all nameB = true) (hl : ¬ S.left = 0) (hx : aget S.files name = none) : S.onFile ns name S' = (13, S) := by simp [DiskS.onFile, DiskS.doing, doStops, h, hl, hx]
theorem onf_some {f : FileS} (h : ns.all nameB = true) (hl : ¬ S.left = 0) (hx : aget S.files name = some f) : S.onFile ns name S' = (0, S'.count) := by
  simp only [DiskS.onFile, DiskS.doing, doStops, h, hl, hx, if_false, Bool.true_eq_false, if_true]
end
/-- The row, behind a file is synced. -/
theorem row_setS {w : World} {t : TypeId} {g n c r : Nat} {L : List RF} {x : RF} (h : Row w t 4 (.slice (some ⟨g, 0, none⟩) n c) n (rfs L)) (hx : L[r]? = some x) (la' : Nat) (sy' : Bool) :
    Row ((w.setCell ⟨g, r * 4 + 2, none⟩ (.int .i64 (la' : Int))).setCell ⟨g, r * 4 + 3, none⟩ (.bool sy')) t 4 (.slice (some ⟨g, 0, none⟩) n c) n (rfs (L.set r ⟨x.nm, x.a, x.n, x.c, x.bs, la', sy'⟩)) := by
  obtain ⟨r1, _⟩ := World.ownsRow.stored h (r * 4 + 2) (.int .i64 (la' : Int))
  obtain ⟨r2, _⟩ := World.ownsRow.stored r1 (r * 4 + 3) (.bool sy')
  have e : rfs (L.set r ⟨x.nm, x.a, x.n, x.c, x.bs, la', sy'⟩) = ((rfs L).set (r * 4 + 2) (.int .i64 (la' : Int))).set (r * 4 + 3) (.bool sy') := by
    obtain ⟨e0, e1, e2, e3⟩ := rfs_cells hx
    rw [rfs_set]
    simp only [RF.v]
    have e1' : (rfs L)[r * 4 + 1]? = some (Value.slice x.a x.n x.c) := e1
    rw [set_same e0, set_same e1']
  rw [e]; exact r2
theorem sumR_take_drop {L : List RF} {k : Nat} {x : RF} (h : L[k]? = some x) : sumR (L.take k ++ L.drop (k + 1)) + x.bs.length = sumR L := by
  obtain ⟨hk, e⟩ := List.getElem?_eq_some_iff.1 h
  have e1 : ∀ A B : List RF, sumR (A ++ B) = sumR A + sumR B := fun A B => by unfold sumR; rw [List.map_append, List.sum_append]
  have e2 : L = L.take k ++ x :: L.drop (k + 1) := by rw [← e, ← List.drop_eq_getElem_cons hk, List.take_append_drop]
  have e3 : sumR (x :: L.drop (k + 1)) = x.bs.length + sumR (L.drop (k + 1)) := by simp [sumR]
  have := congrArg sumR e2
  rw [e1, e3] at this
  rw [e1]; omega
theorem rdata_take_drop (L : List RF) (k : Nat) : rdata (L.take k ++ L.drop (k + 1)) = (rdata L).take k ++ (rdata L).drop (k + 1) := by simp [rdata, List.map_take, List.map_drop]
theorem td_mem {L : List RF} {k : Nat} {f : RF} (h : f ∈ L.take k ++ L.drop (k + 1)) : f ∈ L := by
  rcases List.mem_append.1 h with h | h
  · exact List.mem_of_mem_take h
  · exact List.mem_of_mem_drop h
theorem td_len {L : List RF} {k : Nat} : (L.take k ++ L.drop (k + 1)).length ≤ L.length := by simp; omega

end Go.Proofs.YtfablbhkmddnbaaDoor

/-! The document's disk: Do (Rename). -/

namespace Go.Proofs.YtfablbhkmddnbaaDoor
open Go.RowKit Go.Sort Go.Lib

theorem adel_comm {α β : Type} [DecidableEq α] : ∀ (F : List (α × β)) (a b : α), adel (adel F a) b = adel (adel F b) a
  | [], a, b => rfl
  | p :: F, a, b => by
    obtain ⟨s, v⟩ := p
    have ih := adel_comm F a b
    by_cases ha : a = s <;> by_cases hb : b = s
    · subst ha; subst hb; rfl
    · subst ha; simp [adel, hb]
    · subst hb; simp [adel, ha]
    · simp [adel, ha, hb, ih]

/-- What is left of the disk, and the file that is put. -/
structure RenP (F : Fs) (L L2 : List RF) (x : RF) (other : ByteArray) (used used2 : Int) : Prop where
  sort : SortF (rdata L2) (adel (adel F x.nm) other)
  sum : (sumR L2 : Int) + (x.bs.length : Nat) + (used - used2) = used
  mem : ∀ f ∈ L2, f ∈ L
  len : L2.length ≤ L.length

end Go.Proofs.YtfablbhkmddnbaaDoor

/-! The document's disk: New, Read, List. -/

namespace Go.Proofs.YtfablbhkmddnbaaDoor
open Go.RowKit Go.Sort Go.Lib

def RkReadPost (w : World) (F : Fs) (name : ByteArray) (e : Ending) (w' : World) : Prop := match aget F name with
  | none => e = .returned (.tuple #[.slice none 0 0, .int .i64 13]) ∧ w = w'
  | some f => ReadPost w f.bytes e w'

theorem pre_eq {s p : ByteArray} (h : p.size ≤ s.size) : ((s.extract 0 p.size).toList == p.toList) = Lib.hasPrefix (bl s) (bl p) := by
  rw [← hasPrefix_of_take]
  have e1 : (s.extract 0 p.size).toList = (bl s).take (bl p).length := by
    rw [ByteArray.toList_eq, ByteArray.data_extract]
    show (s.data.extract 0 p.size).toList = _
    rw [Array.toList_extract]
    simp [bl, List.extract]
  have e2 : p.toList = bl p := ByteArray.toList_eq p
  rw [e1, e2]
  have : (bl p).length ≤ (bl s).length := h
  simp [this]
theorem pre_no {s p : ByteArray} (h : ¬ p.size ≤ s.size) : Lib.hasPrefix (bl s) (bl p) = false := by
  rw [← hasPrefix_of_take]
  have : ¬ (bl p).length ≤ (bl s).length := h
  simp [this]
/-- The names that begin so, of the first files. -/
def lnames (L : List RF) (p : ByteArray) : List ByteArray := (L.map (·.nm)).filter fun s => Lib.hasPrefix (bl s) (bl p)

end Go.Proofs.YtfablbhkmddnbaaDoor

/-! The document's disk: Crash. -/

namespace Go.Proofs.YtfablbhkmddnbaaDoor
open Go.RowKit Go.Sort Go.Lib

theorem rk_u8 : ∀ W, (sizeOf 5).run Tryd.prog W = .ok 1 W := fun _ => by kernel_rfl
theorem keepN_no {keep : List Int} {i : Nat} {f : FileS} (h : ∀ z, keep[i]? = some z → ¬ 0 < z) : keepN keep i f = f.lasts := by
  unfold keepN
  have : keep.getD i 0 ≤ 0 := by
    rw [List.getD_eq_getElem?_getD]
    cases hz : keep[i]? with
    | none => simp
    | some z => have := h z hz; simp; omega
  omega
theorem keepN_min {keep : List Int} {i : Nat} {f : FileS} {z : Int} (h : keep[i]? = some z) (hz : 0 < z) (hl : f.lasts ≤ f.bytes.length) : (keepN keep i f : Int) = f.lasts + min z ((f.bytes.length : Int) - f.lasts) := by
  unfold keepN
  rw [List.getD_eq_getElem?_getD, h]
  simp only [Option.getD_some]
  omega
/-- How many bytes are found: the ways. -/
def KWays (W : World) (a : Option Addr) (n k : Nat) (xn xl N : Nat) : Prop :=
  (∃ b6 o6 z, a = some ⟨b6, o6, none⟩ ∧ k < n ∧ W.cell? ⟨b6, o6 + k, none⟩ = some (.int .i64 z) ∧ 0 < z ∧ z < (xn : Int) - (xl : Int) ∧ (xl : Int) + z = (N : Int)) ∨
  (∃ b6 o6 z, a = some ⟨b6, o6, none⟩ ∧ k < n ∧ W.cell? ⟨b6, o6 + k, none⟩ = some (.int .i64 z) ∧ 0 < z ∧ ¬ z < (xn : Int) - (xl : Int) ∧ (xl : Int) + ((xn : Int) - (xl : Int)) = (N : Int)) ∨
  (∃ b6 o6 z, a = some ⟨b6, o6, none⟩ ∧ k < n ∧ W.cell? ⟨b6, o6 + k, none⟩ = some (.int .i64 z) ∧ ¬ 0 < z ∧ N = xl) ∨ (¬ k < n ∧ N = xl)
theorem kways {W : World} {a : Option Addr} {n c k : Nat} {keep : List Int} {f : FileS} (hk : Src W 1 (.slice a n c) n (zints keep)) (hl : f.lasts ≤ f.bytes.length) : KWays W a n k f.bytes.length f.lasts (keepN keep k f) := by
  by_cases hkn : k < n
  · obtain ⟨b6, o6, z, rfl, hz, c6⟩ := zints_src hk hkn
    by_cases hzp : 0 < z
    · have hNe := keepN_min (f := f) hz hzp hl
      by_cases hlt : z < (f.bytes.length : Int) - (f.lasts : Int)
      · exact .inl ⟨b6, o6, z, rfl, hkn, c6, hzp, hlt, by omega⟩
      · exact .inr (.inl ⟨b6, o6, z, rfl, hkn, c6, hzp, hlt, by omega⟩)
    · exact .inr (.inr (.inl ⟨b6, o6, z, rfl, hkn, c6, hzp, keepN_no (fun z' hz' => by rw [hz] at hz'; cases hz'; exact hzp)⟩))
  · refine .inr (.inr (.inr ⟨hkn, keepN_no (fun z' hz' => ?_)⟩))
    have := (List.getElem?_eq_some_iff.1 hz').1
    have := zints_src_len hk
    omega
end Go.Proofs.YtfablbhkmddnbaaDoor

/-! The document's disk: Flip. -/

namespace Go.Proofs.YtfablbhkmddnbaaDoor
open Go.RowKit Go.Sort Go.Lib

def DiskS.flip (S : DiskS) (name : ByteArray) (at' : Int) (b : Nat) : Int × DiskS := match aget S.files name with
  | none => (13, S)
  | some f => if at' < 0 ∨ 8 * (f.bytes.length : Int) ≤ at' then (2, S) else (0, { S with files := aput S.files name { f with bytes := flipL b at'.toNat f.bytes } })

end Go.Proofs.YtfablbhkmddnbaaDoor
