/- The document's disk, as plain data; Append. -/
import Derived.Test.YtcmolfhjkkfedaaRk3
namespace Go.Proofs.Ytcmolfhjkkfedaa
open Go.RowKit Go.Sort Go.Lib

/-- The document's disk, that has the files of a disk. -/
def RkAt (w : World) (rd : Nat) (S : DiskS) (B : List Nat) : Prop :=
  ∃ L la lc, RkRaw w rd S.room S.left S.ops L la lc ∧ SortF (rdata L) S.files ∧ S.used = (sumR L : Nat) ∧ B = rfoot rd (.slice la L.length lc) L
theorem RkAt.chg {T : Nat → Prop} {w w' : World} {rd : Nat} {S : DiskS} {B : List Nat} (h : RkAt w rd S B) (hc : Chg T w w') (hn : ∀ b ∈ B, ¬ T b) : RkAt w' rd S B := by
  obtain ⟨L, la, lc, h1, h2, h3, rfl⟩ := h
  exact ⟨L, la, lc, h1.chg hc hn, h2, h3, rfl⟩
theorem RkAt.ext {w w' : World} {rd : Nat} {S : DiskS} {B : List Nat} (h : RkAt w rd S B) (hc : Ext w w') : RkAt w' rd S B :=
  h.chg (Chg.of_ext (S := fun _ => False) hc) (fun _ _ => id)
theorem RkAt.lt {w : World} {rd : Nat} {S : DiskS} {B : List Nat} (h : RkAt w rd S B) : ∀ b ∈ B, b < w.heap.size := by
  obtain ⟨L, la, lc, h1, h2, h3, rfl⟩ := h
  exact h1.lt
/-- What a call leaves. -/
def RkEnd (w : World) (rd : Nat) (B : List Nat) (S' : DiskS) (w' : World) : Prop :=
  ∃ B', RkAt w' rd S' B' ∧ Chg (· ∈ B) w w' ∧ ∀ b ∈ B', b ∈ B ∨ w.heap.size ≤ b
theorem RkEnd.same {w w' : World} {rd : Nat} {S : DiskS} {B : List Nat} (h : RkAt w rd S B) (hx : Ext w w') : RkEnd w rd B S w' :=
  ⟨B, h.ext hx, Chg.of_ext hx, fun _ hb => .inl hb⟩
def RkCall (w : World) (rd : Nat) (B : List Nat) (r : Int × DiskS) (e : Ending) (w' : World) : Prop := e = .returned (.int .i64 r.1) ∧ RkEnd w rd B r.2 w'

theorem RkTo.pre {w w0 w' : World} {rd : Nat} {V : Value} {room left ops : Int} {L' : List RF} (hx : Ext w w0) (h : RkTo w0 rd V room left ops L' w') : RkTo w rd V room left ops L' w' := by
  obtain ⟨la', lc', h1, h2, h3⟩ := h
  exact ⟨la', lc', h1, (Chg.of_ext (S := RkT rd V) hx).trans h2 (fun _ _ e => e), fun g hg => (h3 g hg).imp id (fun h => Nat.le_trans hx.size h)⟩
theorem RkTo.trans {w w1 w2 : World} {rd : Nat} {V : Value} {room left ops room2 left2 ops2 : Int} {L1 L2 : List RF} (h : RkTo w rd V room left ops L1 w1)
    (k : ∀ la lc, RkRaw w1 rd room left ops L1 la lc → RkTo w1 rd (.slice la L1.length lc) room2 left2 ops2 L2 w2) (hV : ∀ g, V.ownBlock = some g → g < w.heap.size) : RkTo w rd V room2 left2 ops2 L2 w2 := by
  obtain ⟨la, lc, h1, h2, h3⟩ := h
  obtain ⟨la', lc', r1, r2, r3⟩ := k la lc h1
  refine ⟨la', lc', r1, h2.trans r2 (fun i hi e => ?_), fun g hg => ?_⟩
  · rcases e with e | e
    · exact .inl e
    · rcases h3 i e with e | e
      · exact .inr e
      · omega
  · rcases r3 g hg with e | e
    · exact h3 g e
    · exact .inr (Nat.le_trans h2.size e)
theorem RkTo.head {w w1 w2 : World} {rd : Nat} {V : Value} {room left ops room2 left2 ops2 : Int} {L1 : List RF} (h : RkTo w rd V room left ops L1 w1)
    (k : ∀ la lc, RkRaw w1 rd room left ops L1 la lc → RkRaw w2 rd room2 left2 ops2 L1 la lc) (hc : Chg (· = rd) w1 w2) : RkTo w rd V room2 left2 ops2 L1 w2 := by
  obtain ⟨la, lc, h1, h2, h3⟩ := h
  exact ⟨la, lc, k la lc h1, h2.trans hc (fun _ _ e => .inl e), h3⟩
/-- From rows to plain data. -/
theorem RkTo.end' {w w' : World} {rd : Nat} {room left ops : Int} {L : List RF} {la : Option Addr} {lc : Nat} {L' : List RF} {S' : DiskS} (h : RkRaw w rd room left ops L la lc) (hT : RkTo w rd (.slice la L.length lc) S'.room S'.left S'.ops L' w')
    (hS : SortF (rdata L') S'.files) (hu : S'.used = (sumR L' : Nat)) (hf : ∀ f ∈ L', ∀ g, f.v.ownBlock = some g → (∃ f0 ∈ L, f0.v.ownBlock = some g) ∨ w.heap.size ≤ g) : RkEnd w rd (rfoot rd (.slice la L.length lc) L) S' w' := by
  obtain ⟨la', lc', h1, h2, h3⟩ := hT
  refine ⟨_, ⟨L', la', lc', h1, hS, hu, rfl⟩, h2.mono (fun _ _ e => rfoot_T e), fun b hb => ?_⟩
  rcases rfoot_cases hb with rfl | hb | ⟨f, hf', hb⟩
  · exact .inl (rfoot_head _ _ _)
  · exact (h3 b hb).imp rfoot_row id
  · rcases hf f hf' b hb with ⟨f0, h0, e⟩ | e
    · exact .inl (rfoot_file h0 e)
    · exact .inr e

/-- A file of the row is another. -/
theorem RkRaw.upd {w w' : World} {rd : Nat} {room left ops : Int} {L : List RF} {g lc : Nat} (h : RkRaw w rd room left ops L (some ⟨g, 0, none⟩) lc) (r : Nat) (x : RF) (hc : Chg (· = g) w w')
    (hr : Row w' 68 4 (.slice (some ⟨g, 0, none⟩) L.length lc) L.length (rfs (L.set r x))) (hx : FOk w (RkT rd (.slice (some ⟨g, 0, none⟩) L.length lc)) x) :
    RkTo w rd (.slice (some ⟨g, 0, none⟩) L.length lc) room left ops (L.set r x) w' := by
  have hgd : g ≠ rd := h.own g rfl
  have all : ∀ f ∈ L.set r x, FOk w (RkT rd (.slice (some ⟨g, 0, none⟩) L.length lc)) f := fun f hf => by
    rcases List.mem_or_eq_of_mem_set hf with hf | rfl
    · exact h.ok f hf
    · exact hx
  refine ⟨some ⟨g, 0, none⟩, lc, ⟨?_, ?_, fun f hf => ?_, ?_⟩, hc.mono (fun i _ e => by subst e; exact .inr rfl), fun b hb => ?_⟩
  · rw [List.length_set]; exact (hc.block rd (block_lt h.blk) (Ne.symm hgd)).trans h.blk
  · rw [List.length_set]; exact hr
  · rw [List.length_set]; exact (all f hf).chg hc (fun b e => .inr (by subst e; rfl))
  · rw [List.length_set]; exact h.own
  · rw [List.length_set] at hb; exact .inl hb
theorem set_same {α : Type} {l : List α} {i : Nat} {v : α} (h : l[i]? = some v) : l.set i v = l := by
  apply List.ext_getElem?
  intro j
  rw [List.getElem?_set]
  split
  · subst_vars
    obtain ⟨h1, _⟩ := List.getElem?_eq_some_iff.1 h
    rw [if_pos h1, h]
  · rfl
theorem rfs_cells {L : List RF} {k : Nat} {x : RF} (h : L[k]? = some x) : (rfs L)[k * 4]? = some (.string x.nm) ∧ (rfs L)[k * 4 + 1]? = some x.v ∧ (rfs L)[k * 4 + 2]? = some (.int .i64 (x.la : Int)) ∧ (rfs L)[k * 4 + 3]? = some (.bool x.sy) :=
  ⟨enc_at rfc_len L k x h 0 _ rfl, enc_at rfc_len L k x h 1 _ rfl, enc_at rfc_len L k x h 2 _ rfl, enc_at rfc_len L k x h 3 _ rfl⟩
/-- The row, behind a file's bytes are others. -/
theorem row_setB {w : World} {t : TypeId} {g n c r : Nat} {L : List RF} {x : RF} (h : Row w t 4 (.slice (some ⟨g, 0, none⟩) n c) n (rfs L)) (hx : L[r]? = some x) (a' : Option Addr) (n' c' : Nat) (bs' : List UInt8) :
    Row (w.setCell ⟨g, r * 4 + 1, none⟩ (.slice a' n' c')) t 4 (.slice (some ⟨g, 0, none⟩) n c) n (rfs (L.set r ⟨x.nm, a', n', c', bs', x.la, x.sy⟩)) := by
  obtain ⟨r1, _⟩ := World.ownsRow.stored h (r * 4 + 1) (.slice a' n' c')
  have e : rfs (L.set r ⟨x.nm, a', n', c', bs', x.la, x.sy⟩) = (rfs L).set (r * 4 + 1) (.slice a' n' c') := by
    obtain ⟨e0, e1, e2, e3⟩ := rfs_cells hx
    rw [rfs_set]
    simp only [RF.v]
    rw [set_same e0, set_same (i := r * 4 + 2), set_same (i := r * 4 + 3)]
    · rw [List.getElem?_set_ne (by omega)]; exact e3
    · rw [List.getElem?_set_ne (by omega)]; exact e2
  rw [e]; exact r1

/-- What of the files is put in. -/
theorem rdata_split (L : List RF) (k : Nat) (x : RF) : rdata (L.take k ++ x :: L.drop k) = (rdata L).take k ++ (x.nm, x.fs) :: (rdata L).drop k := by
  simp [rdata, List.map_take, List.map_drop]
theorem PutF.sortF {L L' : List RF} {x : RF} {F : Fs} (h : PutF L x L') (hF : SortF (rdata L) F) (hn : aget F x.nm = none) : SortF (rdata L') (aput F x.nm x.fs) ∧ sumR L' = sumR L + x.bs.length ∧ L'.length = L.length + 1 ∧ ∀ f ∈ L', f ∈ L ∨ f = x := by
  obtain ⟨k, hb, hlast⟩ := h
  have hk := hb.le
  refine ⟨?_, ?_, hb.len, fun f hf => ?_⟩
  · rw [hb.eq, rdata_split]
    refine hF.insert (by rw [rdata_len]; exact hk) hn (fun b hb' => ?_) (fun j y e hj => ?_)
    · unfold rdata at hb'
      rw [← List.map_drop] at hb'
      obtain ⟨f, hf, rfl⟩ := List.mem_map.1 hb'
      exact hb.gt f hf
    · unfold rdata at hj
      rw [List.getElem?_map] at hj
      obtain ⟨f, hf, rfl⟩ := Option.map_eq_some_iff.1 hj
      exact hlast j f e hf
  · have e1 := congrArg sumR (List.take_append_drop k L)
    have e2 : ∀ A B : List RF, sumR (A ++ B) = sumR A + sumR B := fun A B => by unfold sumR; rw [List.map_append, List.sum_append]
    have e3 : ∀ A : List RF, sumR (x :: A) = x.bs.length + sumR A := fun A => by simp [sumR]
    rw [e2] at e1
    rw [hb.eq, e2, e3]; omega
  · rw [hb.eq] at hf
    rcases List.mem_append.1 hf with hf | hf
    · exact .inl (List.mem_of_mem_take hf)
    · rcases List.mem_cons.1 hf with rfl | hf
      · exact .inr rfl
      · exact .inl (List.mem_of_mem_drop hf)
theorem rdata_set (L : List RF) (k : Nat) (x : RF) : rdata (L.set k x) = (rdata L).set k (x.nm, x.fs) := by
  unfold rdata; rw [List.map_set]
theorem sum_set {l : List Nat} {k a b : Nat} (h : l[k]? = some a) : (l.set k b).sum + a = l.sum + b := by
  induction l generalizing k with
  | nil => simp at h
  | cons y l ih =>
    cases k with
    | zero => simp at h; subst h; simp; omega
    | succ k =>
      have := ih (k := k) (by simpa using h)
      simp; omega
theorem sumR_set {L : List RF} {k : Nat} {y : RF} (h : L[k]? = some y) (x : RF) : sumR (L.set k x) + y.bs.length = sumR L + x.bs.length := by
  unfold sumR
  rw [List.map_set]
  exact sum_set (by rw [List.getElem?_map, h]; rfl)
end Go.Proofs.Ytcmolfhjkkfedaa
