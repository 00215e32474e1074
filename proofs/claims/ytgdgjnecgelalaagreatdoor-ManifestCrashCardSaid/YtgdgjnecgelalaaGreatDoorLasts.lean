/- Opening the arguments of ManifestCrash: two states; a cut, and what is kept. -/
import Derived.Test.YtgdgjnecgelalaaGreatDoorOsl
import Derived.Test.YtgdgjnecgelalaaGreatDoorMka
import Derived.Test.YtgdgjnecgelalaaGreatDoorDiskR
import Derived.Test.YtgdgjnecgelalaaGreatDoorSvp
import Derived.Test.YtgdgjnecgelalaaGreatDoorDiskC0
import Derived.Test.YtgdgjnecgelalaaGreatDoorDiskC
import Derived.Test.YtgdgjnecgelalaaGreatDoorDiskF
import Derived.Laws.BytesArg
import Derived.Laws.IdiomStrings
import Derived.Deep.DeepCutAuto
namespace Go.Proofs.YtgdgjnecgelalaaGreatDoor
open Go.RowKit Go.Sort Go.Lib Go.ChangeShapes Go.WideShapes Go.Deep

theorem flat_zints (l : List Int) : (l.flatMap fun x => [Value.int .i64 x]) = zints l := by
  induction l with
  | nil => rfl
  | cons x l ih => rw [List.flatMap_cons, ih]; rfl
section
variable {H : Type} {enc : TypeId × Value → H} {w : World} {base : Nat} {spare : Nat → Bool} {held : Bool}
set_option maxRecDepth 100000 in
theorem open_pair {fuel : Nat} {cs : List Value} {x : DataW H × List MemPlace} (h : DataW.trod enc Tryz.prog w base spare held fuel 63 cs = some x) (hB : ∀ k ∈ x.1.weights Tryz.prog 63, k ≤ reachBytes) : ∃ p q : Sx, cs = p.cells ++ q.cells ∧ p.Ok w ∧ q.Ok w := by
  obtain ⟨xs, n, _, hxe, hl, hxl, hf⟩ := DataW.trod_struct Tryz.underlying63 h
  subst hxe
  rw [show Tryz.prog.cellsOf 63 = 16 by kernel_rfl] at hl
  have hx : ∀ i, i < 2 → i < xs.length := fun i hi => by rw [hxl]; exact hi
  have h0 : DataW.trod enc Tryz.prog w base spare held n 40 ((cs.drop 0).take (Tryz.prog.cellsOf 40)) = xs[0]? := hf 0 _ rfl
  have h1 : DataW.trod enc Tryz.prog w base spare held n 40 ((cs.drop 8).take (Tryz.prog.cellsOf 40)) = xs[1]? := hf 1 _ rfl
  rw [List.getElem?_eq_getElem (hx 0 (by omega)), show Tryz.prog.cellsOf 40 = 8 by kernel_rfl] at h0
  rw [List.getElem?_eq_getElem (hx 1 (by omega)), show Tryz.prog.cellsOf 40 = 8 by kernel_rfl] at h1
  obtain ⟨s, fa, fn, fc, ta, tn, tc, e0, hs⟩ := open_sta h0 (fun k hk => hB k (by
    simp only [DataW.weights, Tryz.underlying63]
    exact DataW.weights_mem_each (j := 0) rfl (by rw [List.getElem?_map, List.getElem?_eq_getElem (hx 0 (by omega))]; rfl) k hk))
  obtain ⟨s', fa', fn', fc', ta', tn', tc', e1, hs'⟩ := open_sta h1 (fun k hk => hB k (by
    simp only [DataW.weights, Tryz.underlying63]
    exact DataW.weights_mem_each (j := 1) rfl (by rw [List.getElem?_map, List.getElem?_eq_getElem (hx 1 (by omega))]; rfl) k hk))
  refine ⟨⟨s, fa, fn, fc, ta, tn, tc⟩, ⟨s', fa', fn', fc', ta', tn', tc'⟩, ?_, hs, hs'⟩
  have e2 : cs = (cs.drop 0).take 8 ++ (cs.drop 8).take 8 := by
    rw [List.take_of_length_le (l := cs.drop 8) (by rw [List.length_drop]; omega)]
    simp
  rw [e2, e0, e1]
  rfl
set_option maxRecDepth 100000 in
theorem open_crash {fuel : Nat} {cs : List Value} {x : DataW H × List MemPlace} (h : DataW.trod enc Tryz.prog w base spare held fuel 66 cs = some x) : ∃ (z : Int) (o : Option Addr) (n c : Nat) (zs : List Int), cs = [.int .i64 z, .slice o n c] ∧ (-9223372036854775808 ≤ z ∧ z ≤ 9223372036854775807) ∧ Src w 1 (.slice o n c) n (zints zs) ∧ n ≤ 9223372036854775807 := by
  obtain ⟨xs, n, _, _, hl, hxl, hf⟩ := DataW.trod_struct Tryz.underlying66 h
  rw [show Tryz.prog.cellsOf 66 = 2 by kernel_rfl] at hl
  match cs, hl with
  | [c0, c1], _ =>
    have h0 : DataW.trod enc Tryz.prog w base spare held n 3 (([c0, c1].drop 0).take (Tryz.prog.cellsOf 3)) = xs[0]? := hf 0 _ rfl
    have h1 : DataW.trod enc Tryz.prog w base spare held n 64 (([c0, c1].drop 1).take (Tryz.prog.cellsOf 64)) = xs[1]? := hf 1 _ rfl
    have hx : ∀ i, i < 2 → i < xs.length := fun i hi => by rw [hxl]; exact hi
    rw [List.getElem?_eq_getElem (hx 0 (by omega)), show Tryz.prog.cellsOf 3 = 1 by kernel_rfl] at h0
    rw [List.getElem?_eq_getElem (hx 1 (by omega)), show Tryz.prog.cellsOf 64 = 1 by kernel_rfl] at h1
    obtain ⟨z0, e0, _, w0⟩ := DataW.trod_int Tryz.underlying3 h0
    obtain ⟨o, k, c, l, e1, hs, _, hkc, _⟩ := open_els (fun x : Int => [Value.int .i64 x]) (fun _ => True) 1 (by omega) (fun _ => rfl) (fun s u hu => by simp at hu; rw [hu]; rfl) Tryz.underlying64 (by kernel_rfl)
      (fun _ cs _ h => by
        obtain ⟨z, e, _, hw⟩ := DataW.trod_int Tryz.underlying3 h
        exact ⟨z, e, trivial⟩) h1
    have hcm : c ≤ maxLen := by
      rcases open_slice Tryz.underlying64 h1 with ⟨e, _⟩ | ⟨a, len, cap, m, n, D, Pl, e, hb, hl, hm, _⟩
      · rw [e1] at e; simp at e; rw [e.2.2]; exact Nat.zero_le _
      · rw [e1] at e; simp at e; rw [e.2.2]; exact hm
    simp at e0 e1
    have b0 := i64_bounds w0
    subst e0 e1
    refine ⟨z0, o, k, c, l, rfl, b0, ?_, by unfold maxLen at hcm; omega⟩
    rw [← flat_zints]; exact hs
end
end Go.Proofs.YtgdgjnecgelalaaGreatDoor

/-! Plain: what is loaded behind a crash. -/

namespace Go.Proofs.YtgdgjnecgelalaaGreatDoor
open Go.RowKit Go.Sort Go.Lib

theorem aget_app {β : Type} (a b : List (ByteArray × β)) (k : ByteArray) : aget (a ++ b) k = (aget a k).or (aget b k) := by
  induction a with
  | nil => rfl
  | cons p a ih =>
    obtain ⟨x, v⟩ := p
    show (if k = x then some v else aget (a ++ b) k) = (if k = x then some v else aget a k).or (aget b k)
    split
    · rfl
    · exact ih
theorem aget_found (s : ByteArray) (o : Option FileS) : aget (found s o) s = o := by
  cases o with
  | none => rfl
  | some f => simp [found, aget]
theorem aget_found_other {s s' : ByteArray} (h : s ≠ s') (o : Option FileS) : aget (found s' o) s = none := by
  cases o with
  | none => rfl
  | some f => simp [found, aget, h]
theorem crashTo_get {S : DiskS} (ok : S.Ok) (keep : List Int) {k : Nat} {s : ByteArray} {f : FileS} (h : (S.list ⟨#[]⟩)[k]? = some s) (hf : aget S.files s = some f) : ∀ m, k < m → aget (crashTo S keep m) s = keepF keep k f
  | 0, hm => by omega
  | m + 1, hm => by
    rw [crashTo, aget_app]
    by_cases hk : k = m
    · subst hk
      rw [crashTo_new ok keep h]
      unfold crashStep
      rw [h]
      simp only
      rw [hf, aget_found]
      rfl
    · rw [crashTo_get ok keep h hf m (by omega)]
      have hz : aget (crashStep S keep m) s = none := by
        unfold crashStep
        cases hl : (S.list ⟨#[]⟩)[m]? with
        | none => rfl
        | some s' =>
          simp only
          refine aget_found_other ?_ _
          rintro rfl
          obtain ⟨hl1, e1⟩ := List.getElem?_eq_some_iff.1 h
          obtain ⟨hl2, e2⟩ := List.getElem?_eq_some_iff.1 hl
          have h3 := list_nodup ok
          rw [List.nodup_iff_pairwise_ne, List.pairwise_iff_getElem] at h3
          exact h3 k m hl1 hl2 (by omega) (e1.trans e2.symm)
      rw [hz]
      cases keepF keep k f <;> rfl
theorem crash_get {S : DiskS} (ok : S.Ok) (keep : List Int) {s : ByteArray} {f : FileS} (hf : aget S.files s = some f) : ∃ k, aget (S.crash keep).files s = keepF keep k f := by
  have hm : s ∈ S.list ⟨#[]⟩ := by
    unfold DiskS.list
    refine (sortS_perm _).symm.subset ?_
    rw [names_all]
    exact aget_isSome_iff.1 (by rw [hf]; rfl)
  obtain ⟨k, hk⟩ := List.getElem?_of_mem hm
  exact ⟨k, crashTo_get ok keep hk hf _ (List.getElem?_eq_some_iff.1 hk).1⟩
theorem crash_none {S : DiskS} (keep : List Int) {s : ByteArray} (hf : aget S.files s = none) : aget (S.crash keep).files s = none := by
  rw [aget_none_iff] at hf ⊢
  intro hm
  apply hf
  have h1 := (crashTo_names S keep (S.list ⟨#[]⟩).length).subset hm
  have h2 := List.mem_of_mem_take h1
  unfold DiskS.list at h2
  have h3 := (sortS_perm _).subset h2
  rw [names_all] at h3
  exact h3
/-- What was synced is all there. -/
theorem keepF_full (keep : List Int) (k : Nat) (bl : List UInt8) : keepF keep k ⟨bl, bl.length, true⟩ = some ⟨bl, bl.length, true⟩ := by
  have hk : keepN keep k ⟨bl, bl.length, true⟩ = bl.length := by unfold keepN; simp only; omega
  unfold keepF
  rw [if_pos (.inr rfl), hk]
  simp
theorem load_crash_some {S : DiskS} (ok : S.Ok) (keep : List Int) {bl : List UInt8} (h : aget S.files fM = some ⟨bl, bl.length, true⟩) : loadS (S.crash keep) = loadO (staRd bl) := by
  obtain ⟨k, hk⟩ := crash_get ok keep h
  rw [keepF_full] at hk
  unfold loadS
  rw [hk]
theorem load_crash_none {S : DiskS} (keep : List Int) (h : aget S.files fM = none) : loadS (S.crash keep) = (staZ, false, 0) := by
  unfold loadS
  rw [crash_none keep h]
/-- The bytes that are installed. -/
def instO (o : Option Sta) : Option (List UInt8) := o.map fun s => sealL 7 (staP s)
theorem base_m (o : Option (List UInt8)) (left ops : Int) : aget (baseS o left ops).files fM = o.map fun b => ⟨b, b.length, true⟩ := by cases o <;> rfl
theorem mid_m (o : Option (List UInt8)) (bl : List UInt8) (lasts : Nat) (sy : Bool) (left ops : Int) : aget (midS o bl lasts sy left ops).files fM = o.map fun b => ⟨b, b.length, true⟩ := by cases o <;> rfl
/-- What is loaded where this was installed. -/
def loadOf : Option Sta → Sta × Bool × Int
  | none => (staZ, false, 0)
  | some s => (s, true, 0)
theorem load_crash {S : DiskS} (ok : S.Ok) (keep : List Int) (o : Option Sta) (hm : aget S.files fM = (instO o).map fun b => ⟨b, b.length, true⟩) (hr : ∀ s, o = some s → staR s = true ∧ s.km.ok) :
    loadS (S.crash keep) = loadOf o := by
  cases o with
  | none => exact load_crash_none keep (by simpa [instO] using hm)
  | some s =>
    obtain ⟨h1, h2⟩ := hr s rfl
    rw [load_crash_some ok keep hm, staRd_seal h1 h2 (by have := staP_len h1 h2; omega)]
    rfl
/-- A save of a state behind another, cut anywhere: what is loaded behind a crash is that of before, or the new one, whole, as the call told. -/
theorem save_crash {o : Option Sta} {s : Sta} {ops : Int} {c : Nat} (hc : c ≤ 3) (keep : List Int) (hr : ∀ s, o = some s → staR s = true ∧ s.km.ok) (hs : s.km.ok) (hok : (saveS (baseS (instO o) c ops) s).2.Ok) :
    loadS ((saveS (baseS (instO o) c ops) s).2.crash keep) = if (saveS (baseS (instO o) c ops) s).1 = 0 then loadOf (some s) else loadOf o := by
  have ho : oldN (instO o) ≤ 100000 := by
    cases o with
    | none => exact Nat.zero_le _
    | some a => exact seal_few (hr a rfl).1 (hr a rfl).2
  cases hR : staR s with
  | false =>
    rw [save_bad hR] at hok ⊢
    rw [if_neg (by simp)]
    exact load_crash hok keep o (base_m _ _ _) hr
  | true =>
    obtain ⟨h0, h1, h2, h3⟩ := save_cut (o := instO o) (ops := ops) hR ho (seal_few hR hs)
    have hcs : c = 0 ∨ c = 1 ∨ c = 2 ∨ c = 3 := by omega
    rcases hcs with rfl | rfl | rfl | rfl
    · rw [show ((0 : Nat) : Int) = 0 from rfl, h0] at hok ⊢
      rw [if_neg (by simp)]
      exact load_crash hok keep o (base_m _ _ _) hr
    · rw [show ((1 : Nat) : Int) = 1 from rfl, h1] at hok ⊢
      rw [if_neg (by simp)]
      exact load_crash hok keep o (mid_m _ _ _ _ _ _) hr
    · rw [show ((2 : Nat) : Int) = 2 from rfl, h2] at hok ⊢
      rw [if_neg (by simp)]
      exact load_crash hok keep o (mid_m _ _ _ _ _ _) hr
    · rw [show ((3 : Nat) : Int) = 3 from rfl, h3] at hok ⊢
      rw [if_pos rfl]
      exact load_crash hok keep (some s) rfl (fun s' e => by cases e; exact ⟨hR, hs⟩)
end Go.Proofs.YtgdgjnecgelalaaGreatDoor

/-! Bytes as texts; slices of bytes cut at the end; plain laws for DiskLasts. -/

namespace Go.Proofs.YtgdgjnecgelalaaGreatDoor
open Go.RowKit Go.Sort Go.Lib

theorem u8_src_len {w : World} {v : Value} {n : Nat} {l : List UInt8} (h : Src w 1 v n (u8s l)) : l.length = n := (Src.len_eq h).symm
theorem u8_src {w : World} {a : Option Addr} {n c : Nat} {l : List UInt8} (h : Src w 1 (.slice a n c) n (u8s l)) (hn : 0 < n) : ∃ b off, a = some ⟨b, off, none⟩ := by
  rcases h with ⟨_, h, _⟩ | ⟨ad, c', h, hl, h2, _⟩
  · omega
  · simp at h
    obtain ⟨rfl, rfl⟩ := h
    rw [u8s_length] at hl
    have hcell0 := h2 0 (.int .u8 ((l[0]'(by omega)).toNat : Int)) (by simp [u8s, List.getElem?_eq_getElem (show 0 < l.length by omega)])
    obtain ⟨b, off, spot⟩ := ad
    have hspot : spot = none := by simpa [Addr.add] using World.cell?_spot hcell0
    subst hspot
    exact ⟨b, off, rfl⟩
theorem u8_pre {w : World} {a : Option Addr} {n c k : Nat} {l : List UInt8} (h : Src w 1 (.slice a n c) n (u8s l)) (hk : k ≤ n) (hc : a = none → c = 0) : Src w 1 (.slice a k c) k (u8s (l.take k)) := by
  have hl := u8_src_len h
  rcases h with ⟨e, h0, _⟩ | ⟨ad, c', e, _, h2, h3⟩
  · cases e
    have : k = 0 := by omega
    subst this
    exact .inl ⟨rfl, rfl, by simp [u8s]⟩
  · cases e
    refine .inr ⟨ad, c, rfl, by rw [u8s_length]; simp; omega, fun j u hj => ?_, u8s_one _⟩
    rw [u8s, List.map_take, List.getElem?_take] at hj
    split at hj
    · exact h2 j u hj
    · cases hj
/-- A slice of bytes as a text. -/
theorem conv_u8 {w : World} {a : Option Addr} {n c : Nat} {l : List UInt8} (h : Src w 1 (.slice a n c) n (u8s l)) : (Go.convert 56 9 (.slice a n c)).run Tryz.prog w = .ok (.string ⟨l.toArray⟩) w := by
  have hl := u8_src_len h
  rcases h with ⟨e, h0, h1⟩ | ⟨ad, c', e, _, h2, h3⟩
  · simp only [Value.slice.injEq] at e
    obtain ⟨rfl, rfl, rfl⟩ := e
    have : l = [] := List.length_eq_zero_iff.1 (by omega)
    subst this
    exact run_convert_bytes_nil (P := Tryz.prog) (w := w) 56 5 Tryz.underlying56 Tryz.underlying5 0 0 9 Tryz.underlying9
  · simp only [Value.slice.injEq] at e
    obtain ⟨rfl, _, rfl⟩ := e
    subst hl
    exact run_convert_bytes_back (P := Tryz.prog) w 56 9 5 ad c l Tryz.underlying56 Tryz.underlying5 Tryz.underlying9 (fun j hj => h2 j _ (by simp [u8s, List.getElem?_eq_getElem hj]))

/-- A beginning of a slice of bytes, whatever its address. -/
theorem slice_pre_run {w : World} {a : Option Addr} {n c N : Nat} {l : List UInt8} (h : Src w 1 (.slice a n c) n (u8s l)) (hc : a = none → c = 0) (hN : N ≤ n) (hnc : n ≤ c) (hm : N ≤ 1000) :
    ∃ a', (∀ W, (Instr.slice 56 (.slice a n c) none (some (.int .i64 (N : Int))) none).run Tryz.prog W = .ok (.slice a' N c) W) ∧ (∀ W, (Instr.sliceAt 56 (.slice a n c) none (some (.int .i64 (N : Int))) none).run Tryz.prog W = .ok (.slice a' N c) W) ∧ Src w 1 (.slice a' N c) N (u8s (l.take N)) := by
  have hu := Tryz.underlying56
  have hsz : ∀ W, (sizeOf 5).run Tryz.prog W = .ok 1 W := fun _ => by kernel_rfl
  refine ⟨if c = 0 then a else a.map (·.add 0), fun W => ?_, fun W => ?_, ?_⟩
  · simp [Instr.slice, Instr.sliceBounds, Instr.sliceBound, run_underlying hu, asIntOf, Sem.run_bind, Result.andThen, hsz, show N ≤ c by omega]
  · simp [Instr.sliceAt, Instr.slice, Instr.sliceBounds, Instr.sliceBound, run_underlying hu, asIntOf, Sem.run_bind, Result.andThen, hsz, show N ≤ c by omega]
  · have hp := u8_pre h hN hc
    split
    · exact hp
    · rcases hp with ⟨e, h0, h1⟩ | ⟨ad, c', e, h1, h2, h3⟩
      · simp only [Value.slice.injEq] at e
        obtain ⟨rfl, rfl, rfl⟩ := e
        exact .inl ⟨rfl, h0, h1⟩
      · simp only [Value.slice.injEq] at e
        obtain ⟨rfl, _, rfl⟩ := e
        refine .inr ⟨ad.add 0, c, rfl, h1, fun j u hj => ?_, h3⟩
        have := h2 j u hj
        rwa [Go.Deep.add_add, Nat.zero_add]

theorem join_eq (l t : List UInt8) : ((⟨(l ++ t).toArray⟩ : ByteArray).toList == ((⟨l.toArray⟩ : ByteArray) ++ (⟨t.toArray⟩ : ByteArray)).toList) = true := by
  rw [beq_iff_eq, ByteArray.toList_eq, ByteArray.toList_eq, ByteArray.data_append]
  simp

/-! DiskLasts' disks, step by step. -/
def nA : ByteArray := ⟨#[97]⟩
def nB : ByteArray := ⟨#[98]⟩
theorem nA_ok : nameB nA = true := by decide +kernel
theorem nB_ok : nameB nB = true := by decide +kernel
theorem nAB : nB ≠ nA := by decide +kernel
def lasts1 (s : List UInt8) : DiskS := ⟨[(nA, ⟨s, 0, false⟩)], 5000, s.length, -1, 1⟩
def lasts2 (s : List UInt8) : DiskS := ⟨[(nA, ⟨s, s.length, true⟩)], 5000, s.length, -1, 2⟩
def lasts3 (s m : List UInt8) : DiskS := ⟨[(nA, ⟨s ++ m, s.length, true⟩)], 5000, s.length + m.length, -1, 3⟩
def lasts4 (s m : List UInt8) : DiskS := ⟨[(nA, ⟨s ++ m, s.length, true⟩), (nB, ⟨m, 0, false⟩)], 5000, s.length + m.length + m.length, -1, 4⟩

theorem stops_A : doStops [nA] (-1) = none := by simp [doStops, nA_ok]
theorem stops_B : doStops [nB] (-1) = none := by simp [doStops, nB_ok]

theorem step1 {s : List UInt8} (h : s.length ≤ 1000) : (newDisk 5000).append nA s = (0, lasts1 s) := by
  have e : (newDisk 5000).put nA s = (0, ⟨[(nA, ⟨s, 0, false⟩)], 5000, s.length, -1, 0⟩) := by
    unfold DiskS.put newDisk
    rw [if_neg (by simp; omega)]
    simp only [aget]
    rw [if_neg (by simp; omega)]
    simp [aput]
  rw [DiskS.append, DiskS.doing, e]
  simp [newDisk, stops_A, DiskS.count, lasts1]
theorem step2 {s : List UInt8} : (lasts1 s).sync nA = (0, lasts2 s) := by
  unfold DiskS.sync DiskS.onFile DiskS.doing DiskS.synced
  simp [lasts1, stops_A, aget, aput, DiskS.count, lasts2]
theorem step3 {s m : List UInt8} (h : s.length ≤ 1000) (h2 : m.length ≤ 1000) : (lasts2 s).append nA m = (0, lasts3 s m) := by
  have e : (lasts2 s).put nA m = (0, ⟨[(nA, ⟨s ++ m, s.length, true⟩)], 5000, s.length + m.length, -1, 2⟩) := by
    unfold DiskS.put lasts2
    rw [if_neg (by simp; omega)]
    simp only [aget, if_true]
    rw [if_neg (by omega)]
    simp [aput]
  rw [DiskS.append, DiskS.doing, e]
  simp [lasts2, stops_A, DiskS.count, lasts3]
theorem step4 {s m : List UInt8} (h : s.length ≤ 1000) (h2 : m.length ≤ 1000) : (lasts3 s m).append nB m = (0, lasts4 s m) := by
  have e : (lasts3 s m).put nB m = (0, ⟨[(nA, ⟨s ++ m, s.length, true⟩), (nB, ⟨m, 0, false⟩)], 5000, s.length + m.length + m.length, -1, 3⟩) := by
    unfold DiskS.put lasts3
    rw [if_neg (by simp; omega)]
    simp only [aget, if_neg nAB]
    rw [if_neg (by simp; omega)]
    simp [aput, nAB]
  rw [DiskS.append, DiskS.doing, e]
  simp [lasts3, stops_B, DiskS.count, lasts4]
theorem ok1 {s : List UInt8} (h : s.length ≤ 1000) : (lasts1 s).Ok :=
  ⟨by simp [lasts1], by simp [lasts1], by simp [lasts1], by simp [lasts1]; omega, by simp [lasts1], by simp [lasts1], by simp [lasts1], by simp [lasts1]; omega, by simp [lasts1], by simp [lasts1], by simp [lasts1]⟩
theorem ok2 {s : List UInt8} (h : s.length ≤ 1000) : (lasts2 s).Ok :=
  ⟨by simp [lasts2], by simp [lasts2], by simp [lasts2], by simp [lasts2]; omega, by simp [lasts2], by simp [lasts2], by simp [lasts2], by simp [lasts2]; omega, by simp [lasts2], by simp [lasts2], by simp [lasts2]⟩
theorem ok3 {s m : List UInt8} (h : s.length ≤ 1000) (h2 : m.length ≤ 1000) : (lasts3 s m).Ok :=
  ⟨by simp [lasts3], by simp [lasts3], by simp [lasts3]; omega, by simp [lasts3]; omega, by simp [lasts3], by simp [lasts3], by simp [lasts3], by simp [lasts3]; omega, by simp [lasts3], by simp [lasts3], by simp [lasts3]⟩
theorem ok4 {s m : List UInt8} (h : s.length ≤ 1000) (h2 : m.length ≤ 1000) : (lasts4 s m).Ok :=
  ⟨by simp [lasts4], by simp [lasts4], by simp [lasts4]; omega, by simp [lasts4]; omega, by simp [lasts4], by simp [lasts4], by simp [lasts4], by simp [lasts4]; omega, by simp [lasts4], by simp [lasts4], by simp [lasts4, nAB.symm]⟩

/-- How many of the bytes behind are found. -/
def clampN (keep : Int) (n : Nat) : Nat := (max 0 (min keep n) : Int).toNat
theorem list4 (s m : List UInt8) : (lasts4 s m).list ⟨#[]⟩ = [nA, nB] := by
  unfold DiskS.list
  rw [names_all]
  refine sorted_unique (sortS_perm _) (sortS_sorted _) ?_
  refine List.pairwise_cons.2 ⟨fun b hb => ?_, List.pairwise_singleton _ _⟩
  simp at hb
  subst hb
  show ([97] : List UInt8) ≤ [98]
  decide
theorem crash4 (s m : List UInt8) (keep : Int) : ((lasts4 s m).crash [keep, keep]).files = (nA, ⟨s ++ m.take (clampN keep m.length), s.length + clampN keep m.length, true⟩) :: (if 0 < clampN keep m.length then [(nB, ⟨m.take (clampN keep m.length), clampN keep m.length, true⟩)] else []) := by
  unfold DiskS.crash crashS
  rw [list4]
  have k0 : keepN [keep, keep] 0 ⟨s ++ m, s.length, true⟩ = s.length + clampN keep m.length := by
    simp [keepN, clampN]
  have k1 : keepN [keep, keep] 1 ⟨m, 0, false⟩ = clampN keep m.length := by
    simp [keepN, clampN]
  have f0 : keepF [keep, keep] 0 ⟨s ++ m, s.length, true⟩ = some ⟨s ++ m.take (clampN keep m.length), s.length + clampN keep m.length, true⟩ := by
    rw [keepF_some (.inr rfl), k0]
    simp [List.take_append]
    exact List.take_of_length_le (by omega)
  have f1 : keepF [keep, keep] 1 ⟨m, 0, false⟩ = if 0 < clampN keep m.length then some ⟨m.take (clampN keep m.length), clampN keep m.length, true⟩ else none := by
    unfold keepF
    rw [k1]
    simp
  have s0 : crashStep (lasts4 s m) [keep, keep] 0 = [(nA, ⟨s ++ m.take (clampN keep m.length), s.length + clampN keep m.length, true⟩)] := by
    unfold crashStep
    rw [list4]
    simp only [List.getElem?_cons_zero]
    rw [show (aget (lasts4 s m).files nA).getD zeroF = ⟨s ++ m, s.length, true⟩ by simp [lasts4, aget], f0]
    rfl
  have s1 : crashStep (lasts4 s m) [keep, keep] 1 = if 0 < clampN keep m.length then [(nB, ⟨m.take (clampN keep m.length), clampN keep m.length, true⟩)] else [] := by
    unfold crashStep
    rw [list4]
    simp only [List.getElem?_cons_succ, List.getElem?_cons_zero]
    rw [show (aget (lasts4 s m).files nB).getD zeroF = ⟨m, 0, false⟩ by simp [lasts4, aget, nAB], f1]
    split <;> rfl
  show crashTo (lasts4 s m) [keep, keep] 2 = _
  rw [crashTo, crashTo, crashTo, s0, s1]
  simp

theorem crash_ok {S : DiskS} (ok : S.Ok) (keep : List Int) (hsum : (sumF (S.crash keep).files : Int) ≤ S.room) : (S.crash keep).Ok := by
  have h1 := crashTo_small ok keep (S.list ⟨#[]⟩).length
  have h2 := crashTo_names S keep (S.list ⟨#[]⟩).length
  have h3 := list_len ok
  have h4 := list_nodup ok
  rw [List.take_length] at h2
  have h5 := h2.length_le
  rw [List.length_map] at h5
  exact ⟨ok.room0, ok.room1, Int.natCast_nonneg _, hsum, by simp [DiskS.crash, crashS], by simp [DiskS.crash, crashS], by simp [DiskS.crash, crashS], fun p hp => (h1 p hp).1, by show (crashTo S keep _).length ≤ 512; omega, fun p hp => (h1 p hp).2, h2.nodup h4⟩
theorem okC {s m : List UInt8} (h : s.length ≤ 1000) (h2 : m.length ≤ 1000) (keep : Int) : ((lasts4 s m).crash [keep, keep]).Ok := by
  refine crash_ok (ok4 h h2) _ ?_
  rw [crash4]
  show (_ : Int) ≤ 5000
  split
  · simp [sumF]; omega
  · simp [sumF]; omega
end Go.Proofs.YtgdgjnecgelalaaGreatDoor

/-! DiskLasts: the walk. -/

namespace Go.Proofs.YtgdgjnecgelalaaGreatDoor
open Go.RowKit Go.Sort Go.Lib

/-- A slice of bytes that came in, cut at 1000. -/
structure CutArg (w : World) (a : Option Addr) (n c : Nat) (l : List UInt8) : Prop where
  src : Src w 1 (.slice a n c) n (u8s l)
  few : l.length ≤ 1000
  nc : n ≤ c
  nil : a = none → c = 0
  old : ∀ g, (Value.slice a n c).ownBlock = some g → g < w.heap.size
theorem CutArg.len {w : World} {l : List UInt8} {a : Option Addr} {n c : Nat} (h : CutArg w a n c l) : l.length = n := u8_src_len h.src
theorem src_two {w : World} {b : Nat} {x y : Int} {t : TypeId} {fr : Nat × Nat} (h : w.heap[b]? = some (.cells #[.int .i64 x, .int .i64 y] t fr)) : Src w 1 (.slice (some ⟨b, 0, none⟩) 2 2) 2 (zints [x, y]) := by
  refine .inr ⟨_, _, rfl, rfl, fun j u hj => ?_, fun u hu => by simp [zints] at hu; rcases hu with rfl | rfl <;> rfl⟩
  rw [Go.WideShapes.add_plain, Nat.zero_add, cell_of_block h]
  simpa [zints] using hj

/-- The disk while the law goes on. -/
def DiskNow (w : World) (d : Nat) (S : DiskS) (wr : World) : Prop := ∃ B, DiskAt wr d S B ∧ (∀ b ∈ B, w.heap.size ≤ b) ∧ Ext w wr
theorem DiskNow.to {w wr w' : World} {d : Nat} {S' : DiskS} {B : List Nat} (hb : ∀ b ∈ B, w.heap.size ≤ b) (hx : Ext w wr) (ht : DiskTo wr d B S' w') : DiskNow w d S' w' := by
  obtain ⟨B', h1, h2, h3⟩ := ht
  refine ⟨B', h1, fun b hb' => ?_, ((Chg.of_ext (S := (· ∈ B)) hx).trans h2 (fun _ _ e => e)).ext (fun i hi e => by have := hb i e; omega)⟩
  rcases h3 b hb' with h | h
  · exact hb b h
  · have := hx.size; omega

end Go.Proofs.YtgdgjnecgelalaaGreatDoor
