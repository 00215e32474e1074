/- manifest.Load: the walk. -/
import Derived.Test.YtgdgjnecgelalaaGreatDoorDiskR
import Derived.Test.YtgdgjnecgelalaaGreatDoorSvp
import Derived.Test.YtgdgjnecgelalaaGreatDoorMrh
import Derived.Test.YtgdgjnecgelalaaGreatDoorDiskDo
import Derived.Test.YtgdgjnecgelalaaGreatDoorDiskB
import Derived.Deep.Slices
import Derived.Deep.Fields
import Derived.SizedLaws
import Derived.ProofKit
import Derived.OpenShut
import Derived.Test.YtgdgjnecgelalaaGreatDoorMfd
import Derived.Test.YtgdgjnecgelalaaGreatDoorProg
namespace Go.Proofs.YtgdgjnecgelalaaGreatDoor
open Go.RowKit Go.Sort Go.Lib

/-- What Load leaves. -/
def LoadPost (w : World) (r : Sta × Bool × Int) (e : Ending) (w' : World) : Prop :=
  ∃ fa fn fc ta tn tc, e = .returned (.tuple #[.agg (staC r.1 fa fn fc ta tn tc), .bool r.2.1, .int .i64 r.2.2]) ∧ Ext w w' ∧ StIn w' r.1 fa fn fc ta tn tc
theorem LoadPost.zero {w w' : World} {b : Bool} {z : Int} {e : Ending} (h : e = .returned (.tuple #[.agg (staC staZ none 0 0 none 0 0), .bool b, .int .i64 z])) (hx : Ext w w') : LoadPost w (staZ, b, z) e w' :=
  have hz : staZ.km.ok := ⟨by decide, by decide, by decide, by decide⟩
  ⟨_, _, _, _, _, _, h, hx, ⟨.inl ⟨rfl, rfl, rfl⟩, .inl ⟨rfl, rfl, rfl⟩, hz, by decide, by decide⟩⟩

/-- An array with a text in it is no box without one. -/
theorem fls_apart {w : World} {a : Option Addr} {n c : Nat} {l : List Fl} (h : Src w 4 (.slice a n c) n (fls l)) {g : Nat} (hg : ∀ o s, w.cell? ⟨g, o, none⟩ ≠ some (.string s)) : n = 0 ∨ ∀ b, (Value.slice a n c).ownBlock = some b → ¬ b = g := by
  rcases Nat.eq_zero_or_pos n with h0 | h0
  · exact .inl h0
  · right
    obtain ⟨b, off, p, rfl, _, p0, _⟩ := fls_src h h0
    rintro b' hb rfl
    simp [Value.ownBlock] at hb
    subst hb
    exact hg _ _ p0
theorem trs_apart {w : World} {a : Option Addr} {n c : Nat} {l : List Tr} (h : Src w 5 (.slice a n c) n (trs l)) {g : Nat} (hg : ∀ o s, w.cell? ⟨g, o, none⟩ ≠ some (.string s)) : n = 0 ∨ ∀ b, (Value.slice a n c).ownBlock = some b → ¬ b = g := by
  rcases Nat.eq_zero_or_pos n with h0 | h0
  · exact .inl h0
  · right
    obtain ⟨b, off, p, rfl, _, _, _, _, _, p4⟩ := trs_src h h0
    rintro b' hb rfl
    simp [Value.ownBlock] at hb
    subst hb
    exact hg _ _ p4
theorem zero_no_text {w : World} {g : Nat} (h : w.heap[g]? = some (.cells #[.int .i64 0, .int .i64 0, .int .i64 0, .bool false, .int .i64 0, .int .i64 0, .slice none 0 0, .slice none 0 0] 40 (0, 0))) : ∀ o s, w.cell? ⟨g, o, none⟩ ≠ some (.string s) := by
  intro o s e
  rw [cell_of_block h] at e
  rcases o with _ | _ | _ | _ | _ | _ | _ | _ | o <;> simp at e
set_option maxHeartbeats 8000000 in
set_option maxRecDepth 100000 in
theorem manLoad_any {w : World} {d : Nat} {S : DiskS} {B : List Nat} (ok : S.Ok) (h : DiskAt w d S B) (hg : HasET w) :
    Calls Tryz.prog 16 #[.pointer (some ⟨d, 0, none⟩)] w (LoadPost w (loadS S)) := by
  have HG := Lib.hid hg
  have HD := Lib.hid h
  clear h hg
  obtain ⟨L, hL⟩ : ∃ L, L = loadS S := ⟨_, rfl⟩
  rw [← hL]
  cases hn : aget S.files fM with
  | none =>
    have HR : Hid (L = (staZ, false, 0)) := Lib.hid (by rw [hL]; unfold loadS; rw [hn])
    have HRD := Lib.hid (fun W (hx : Ext w W) => disk_read_none (HD.out.ext hx) fM hn)
    clear hn hL
    go_enter Tryz.func16, Tryz.ntmps16
    go_upto_region 1 with fail
    generalize hW : w.alloc _ = W
    obtain ⟨g, hgg⟩ : ∃ g, g = w.heap.size := ⟨_, rfl⟩
    rw [← hgg]
    have HX : Hid (Ext w W) := Lib.hid (by rw [← hW]; exact (Ext.refl w).alloc _)
    have HB : Hid (W.heap[g]? = some (.cells #[.int .i64 0, .int .i64 0, .int .i64 0, .bool false, .int .i64 0, .int .i64 0, .slice none 0 0, .slice none 0 0] 40 (0, 0))) := Lib.hid (by rw [← hW, hgg]; exact heap_alloc_new w _)
    have HGG := Lib.hid hgg
    clear hW hgg
    go_wp2_with fail
    refine (HRD.out W HX.out).mono ?_
    rintro e w1 ⟨rfl, rfl⟩
    go_wp2_with (first | (refine wpList_store_box rfl _ _ _ rfl _ _ _ _ rfl rfl HB.out rfl sta_info (by simp [Value.oneCell']) ?_; rintro wx hbx hcx; have HBX := Lib.hid hbx; have HCX := Lib.hid hcx; clear hbx hcx))
    refine bodyPost_ret (results_box_tmp2 Tryz.results16 _ _ rfl HBX.out Tryz.underlying40 rfl sta_info) rfl ?_
    rw [HR.out]
    exact LoadPost.zero rfl (HX.out.stored HCX.out (by have := HGG.out; omega))
  | some f =>
    have HR : Hid (L = loadO (staRd f.bytes)) := Lib.hid (by rw [hL]; unfold loadS; rw [hn])
    have hsm : f.bytes.length ≤ 1048576 := ok.small _ (aget_mem hn)
    have HRD := Lib.hid (fun W (hx : Ext w W) => disk_read_some ok (HD.out.ext hx) fM f hn)
    clear hn hL ok
    go_enter Tryz.func16, Tryz.ntmps16
    go_upto_region 1 with fail
    generalize hW : w.alloc _ = W
    obtain ⟨g, hgg⟩ : ∃ g, g = w.heap.size := ⟨_, rfl⟩
    rw [← hgg]
    have HX : Hid (Ext w W) := Lib.hid (by rw [← hW]; exact (Ext.refl w).alloc _)
    have HB : Hid (W.heap[g]? = some (.cells #[.int .i64 0, .int .i64 0, .int .i64 0, .bool false, .int .i64 0, .int .i64 0, .slice none 0 0, .slice none 0 0] 40 (0, 0))) := Lib.hid (by rw [← hW, hgg]; exact heap_alloc_new w _)
    have HGG := Lib.hid hgg
    clear hW hgg
    go_wp2_with fail
    refine (HRD.out W HX.out).mono ?_
    rintro e w1 ⟨v1, rfl, hrow, hown, hx⟩
    obtain ⟨a, c, rfl⟩ := hrow.shape
    have HX1 := Lib.hid (HX.out.trans hx)
    have HB1 := Lib.hid (hx.keep HB.out)
    have HSL : Hid (SlB w1 a f.bytes.length c f.bytes) := Lib.hid ⟨hrow.src (u8s_one _), bufRow_le hrow, by omega⟩
    clear hrow hown hx HX HB HRD
    generalize f.bytes = bl at *
    go_wp2_with fail
    refine (manRead_any w1 a bl.length c bl HSL.out (by omega) (HG.out.ext HX1.out)).mono ?_
    rintro e w2 ⟨fa, fn, fc, ta, tn, tc, rfl, hx, hin⟩
    have HX2 := Lib.hid (HX1.out.trans hx)
    have HB2 := Lib.hid (hx.keep HB1.out)
    have HIN := Lib.hid hin
    clear hx hin HX1 HB1
    replace HR : Hid (L = ((staRd bl).getD staZ, (staRd bl).isSome, if (staRd bl).isSome = true then 0 else 24)) := Lib.hid (by rw [HR.out]; cases staRd bl <;> rfl)
    obtain ⟨Z, hZ⟩ : ∃ Z, Z = (staRd bl).getD staZ := ⟨_, rfl⟩
    obtain ⟨I, hI⟩ : ∃ I, I = (staRd bl).isSome := ⟨_, rfl⟩
    rw [← hZ, ← hI] at HR
    rw [← hZ] at HIN
    rw [← hZ, ← hI]
    clear hZ hI
    obtain ⟨x, r, q, ⟨mb, mt, mg⟩, fl, ti⟩ := Z
    cases I
    all_goals
      go_upto_region 8 with fail
      generalize hW : w2.alloc _ = w3
      obtain ⟨t, ht⟩ : ∃ t, t = w2.heap.size := ⟨_, rfl⟩
      rw [← ht]
      have hx3 : Ext w2 w3 := by rw [← hW]; exact (Ext.refl w2).alloc _
      have hbt : w3.heap[t]? = some (.cells #[.int .i64 x, .int .i64 r, .int .i64 q, .bool mb, .int .i64 mt, .int .i64 mg, .slice fa fn fc, .slice ta tn tc] 40 (0, 0)) := by rw [← hW, ht]; exact heap_alloc_new w2 _
      have HB3 := Lib.hid (hx3.keep HB2.out)
      have HX3 := Lib.hid (HX2.out.trans hx3)
      have HI3 := Lib.hid (HIN.out.ext hx3)
      have c0 := cell_of_block hbt 0
      have c1 := cell_of_block hbt 1
      have c2 := cell_of_block hbt 2
      have c3 := cell_of_block hbt 3
      have c4 := cell_of_block hbt 4
      have c5 := cell_of_block hbt 5
      have c6 := cell_of_block hbt 6
      have c7 := cell_of_block hbt 7
      clear hW ht hx3 hbt
      go_wp2_with (first | (refine wpList_store_box rfl _ _ _ rfl _ _ _ _ rfl rfl HB3.out rfl sta_info (by simp [Value.oneCell']) ?_; rintro wx hbx hcx; have HBX := Lib.hid hbx; have HCX := Lib.hid hcx; clear hbx hcx))
      refine bodyPost_ret (results_box_tmp2 Tryz.results16 _ _ rfl HBX.out Tryz.underlying40 rfl sta_info) rfl ?_
      rw [HR.out]
      have hxx : Ext w wx := HX3.out.stored HCX.out (by have := HGG.out; omega)
      have hno := zero_no_text HB3.out
      exact ⟨fa, fn, fc, ta, tn, tc, rfl, hxx, ⟨HI3.out.fl.chg0 HCX.out (fls_apart HI3.out.fl hno), HI3.out.ti.chg0 HCX.out (trs_apart HI3.out.ti hno), HI3.out.ok, HI3.out.fn63, HI3.out.tn63⟩⟩
end Go.Proofs.YtgdgjnecgelalaaGreatDoor

/-! Opening structs of one-cell fields, and slices of these, in general; with the reach. -/

namespace Go.Proofs.YtgdgjnecgelalaaGreatDoor
open Go.RowKit Go.Sort Go.Lib Go.ChangeShapes Go.WideShapes Go.Deep

section
variable {H : Type} {enc : TypeId × Value → H} {P : Program} {w : World} {base : Nat} {spare : Nat → Bool} {held : Bool}

/-- A struct of one-cell fields, read: each cell is of its field's kind. -/
theorem open_flds {e : TypeId} {fs : Array Field} {fuel : Nat} {cs : List Value} {x : DataW H × List MemPlace} (he : P.underlying e = some (.struct fs)) (hone : oneCellFields P fs = true) (h : DataW.trod enc P w base spare held fuel e cs = some x) :
    cs.length = P.cellsOf e ∧ ∀ (i : Nat) (f : Field), fs[i]? = some f → i < cs.length →
      (P.underlying f.type = some (.int .i64) → ∃ z, cs[i]? = some (.int .i64 z)) ∧ (P.underlying f.type = some .string → ∃ z, cs[i]? = some (.string z) ∧ z.size ≤ maxLen) ∧ (P.underlying f.type = some .bool → ∃ z, cs[i]? = some (.bool z)) := by
  obtain ⟨xs, n, _, _, hl, hxl, hf⟩ := DataW.trod_struct he h
  refine ⟨hl, fun i f hfi hic => ?_⟩
  obtain ⟨ho, hk⟩ := hone_of hone i f hfi
  have h1 := hf i f hfi
  have hlt : i < xs.length := by rw [hxl]; exact (Array.getElem?_eq_some_iff.1 hfi).1
  have hc : (cs.drop i).take 1 = [cs[i]] := by rw [List.drop_eq_getElem_cons hic]; rfl
  rw [ho, hk, hc, List.getElem?_eq_getElem hlt] at h1
  refine ⟨fun hi => ?_, fun hi => ?_, fun hi => ?_⟩
  · obtain ⟨z, hz, _⟩ := DataW.trod_int hi h1
    exact ⟨z, by rw [List.getElem?_eq_getElem hic]; simpa using hz⟩
  · obtain ⟨z, hz, _, hm⟩ := DataW.trod_string hi h1
    exact ⟨z, by rw [List.getElem?_eq_getElem hic]; simpa using hz, hm⟩
  · obtain ⟨z, hz, _⟩ := DataW.trod_bool hi h1
    exact ⟨z, by rw [List.getElem?_eq_getElem hic]; simpa using hz⟩

theorem flat_len {α : Type} (cells : α → List Value) (size : Nat) (hsz : ∀ p, (cells p).length = size) (l : List α) : (l.flatMap cells).length = l.length * size := by
  induction l with
  | nil => simp
  | cons p l ih => rw [List.flatMap_cons, List.length_append, ih, hsz, List.length_cons, Nat.add_mul]; omega
theorem flat_at {α : Type} (cells : α → List Value) (size : Nat) (hsz : ∀ p, (cells p).length = size) (l : List α) (k j : Nat) (p : α) (h : l[k]? = some p) (hj : j < size) : (l.flatMap cells)[k * size + j]? = (cells p)[j]? := by
  induction l generalizing k with
  | nil => simp at h
  | cons q l ih =>
    cases k with
    | zero =>
      simp at h; subst h
      rw [List.flatMap_cons, Nat.zero_mul, Nat.zero_add, List.getElem?_append_left (by rw [hsz]; exact hj)]
    | succ k =>
      rw [List.flatMap_cons, List.getElem?_append_right (by rw [hsz, Nat.add_mul]; omega), hsz, show (k + 1) * size + j - size = k * size + j by rw [Nat.add_mul]; omega]
      exact ih k (by simpa using h)

/-- A slice of elements whose cells are read as values of a plain type. -/
theorem open_els {α : Type} [Inhabited α] (cells : α → List Value) (Ok : α → Prop) (size : Nat) (hs0 : 0 < size) (hsz : ∀ p, (cells p).length = size) (hone : ∀ p, ∀ u ∈ cells p, u.oneCell' = true) {t e : TypeId} {fuel : Nat} {cs : List Value} {x : DataW H × List MemPlace}
    (ht : P.underlying t = some (.slice e)) (hC : P.cellsOf e = size) (hop : ∀ (fuel : Nat) (cs : List Value) (x : DataW H × List MemPlace), DataW.trod enc P w base spare held fuel e cs = some x → ∃ p, cs = cells p ∧ Ok p) (h : DataW.trod enc P w base spare held fuel t cs = some x) :
    ∃ (o : Option Addr) (n c : Nat) (l : List α), cs = [.slice o n c] ∧ Src w size (.slice o n c) n (l.flatMap cells) ∧ (∀ p ∈ l, Ok p) ∧ n ≤ c ∧ ∀ B : Nat, (∀ k ∈ x.1.weights P t, k ≤ B) → n * P.bytesOf e ≤ B := by
  rcases open_slice ht h with ⟨rfl, rfl⟩ | ⟨a, len, cap, m, n, D, Pl, rfl, hb, hl, hm, hmm, rfl, hel⟩
  · exact ⟨none, 0, 0, [], rfl, .inl ⟨rfl, rfl, rfl⟩, by simp, Nat.le_refl _, fun B _ => by simp⟩
  · rw [hC] at hel
    have hlm : len ≤ m := by rw [hmm]; split <;> omega
    have hpt : ∀ i, i < len → ∃ p : α, Ok p ∧ ∀ j u, (cells p)[j]? = some u → w.cell? (a.add (i * size + j)) = some u := by
      intro i hil
      obtain ⟨cs', hc, htr⟩ := hel i (by omega)
      obtain ⟨p, rfl, hok⟩ := hop _ _ _ htr
      refine ⟨p, hok, fun j u hj => ?_⟩
      obtain ⟨_, _, hat⟩ := World.cells?_some hc
      have hj3 : j < size := by have := (List.getElem?_eq_some_iff.1 hj).1; rw [hsz] at this; exact this
      have := hat j hj3
      rw [Go.Deep.add_add] at this
      rw [this]; exact hj
    obtain ⟨F, hF⟩ := choose_lt hpt
    refine ⟨some a, len, cap, (List.range len).map F, rfl, .inr ⟨a, cap, rfl, by rw [flat_len cells size hsz]; simp, fun j u hj => ?_, fun u hu => ?_⟩, fun p hp => ?_, hl, fun B hB => ?_⟩
    · have hj' : j < len * size := by have := (List.getElem?_eq_some_iff.1 hj).1; rw [flat_len cells size hsz] at this; simpa using this
      have hj3 : j / size < len := Nat.div_lt_of_lt_mul (by rw [Nat.mul_comm]; exact hj')
      have hq : ((List.range len).map F)[j / size]? = some (F (j / size)) := by simp [List.getElem?_map, List.getElem?_range hj3]
      have hmod := Nat.mod_lt j hs0
      have hsplit : j = j / size * size + j % size := by rw [Nat.mul_comm]; exact (Nat.div_add_mod j size).symm
      have e0 := flat_at cells size hsz _ _ (j % size) _ hq hmod
      rw [← hsplit, hj] at e0
      have := (hF (j / size) hj3).2 (j % size) u e0.symm
      rw [← hsplit] at this
      exact this
    · obtain ⟨p, _, hu⟩ := List.mem_flatMap.1 hu
      exact hone p u hu
    · obtain ⟨i, hi, rfl⟩ := List.mem_map.1 hp
      exact (hF i (List.mem_range.1 hi)).1
    · have := hB ((((List.range len).map D).length + ((List.range (m - len)).map fun j => D (len + j)).length) * P.bytesOf e) (by simp [DataW.weights, ht])
      simp at this
      exact Nat.le_trans (Nat.mul_le_mul_right _ (by omega)) this
end
end Go.Proofs.YtgdgjnecgelalaaGreatDoor

/-! Opening a state of the manifest. -/

namespace Go.Proofs.YtgdgjnecgelalaaGreatDoor
open Go.RowKit Go.Sort Go.Lib Go.ChangeShapes Go.WideShapes Go.Deep

section
variable {H : Type} {enc : TypeId × Value → H} {w : World} {base : Nat} {spare : Nat → Bool} {held : Bool}

instance : Inhabited Fl := ⟨⟨⟨#[]⟩, 0, 0, 0⟩⟩
instance : Inhabited Tr := ⟨⟨0, 0, 0, false, ⟨#[]⟩⟩⟩
theorem i64_bounds {z : Int} (h : (Lit.int IntKind.i64 z).wf = true) : -9223372036854775808 ≤ z ∧ z ≤ 9223372036854775807 := by
  simpa [Lit.wf, IntKind.min, IntKind.max, IntKind.signed, IntKind.bits] using h
set_option maxRecDepth 100000 in
theorem open_mk {fuel : Nat} {cs : List Value} {x : DataW H × List MemPlace} (h : DataW.trod enc Tryz.prog w base spare held fuel 36 cs = some x) : ∃ m : Mk, cs = [.bool m.s, .int .i64 m.t, .int .i64 m.g] ∧ m.ok := by
  obtain ⟨xs, n, _, _, hl, hxl, hf⟩ := DataW.trod_struct Tryz.underlying36 h
  rw [show Tryz.prog.cellsOf 36 = 3 by kernel_rfl] at hl
  match cs, hl with
  | [c0, c1, c2], _ =>
    have h0 : DataW.trod enc Tryz.prog w base spare held n 4 (([c0, c1, c2].drop 0).take (Tryz.prog.cellsOf 4)) = xs[0]? := hf 0 _ rfl
    have h1 : DataW.trod enc Tryz.prog w base spare held n 3 (([c0, c1, c2].drop 1).take (Tryz.prog.cellsOf 3)) = xs[1]? := hf 1 _ rfl
    have h2 : DataW.trod enc Tryz.prog w base spare held n 3 (([c0, c1, c2].drop 2).take (Tryz.prog.cellsOf 3)) = xs[2]? := hf 2 _ rfl
    have hx : ∀ i, i < 3 → i < xs.length := fun i hi => by rw [hxl]; exact hi
    rw [List.getElem?_eq_getElem (hx 0 (by omega)), show Tryz.prog.cellsOf 4 = 1 by kernel_rfl] at h0
    rw [List.getElem?_eq_getElem (hx 1 (by omega)), show Tryz.prog.cellsOf 3 = 1 by kernel_rfl] at h1
    rw [List.getElem?_eq_getElem (hx 2 (by omega)), show Tryz.prog.cellsOf 3 = 1 by kernel_rfl] at h2
    obtain ⟨z0, e0, _⟩ := DataW.trod_bool Tryz.underlying4 h0
    obtain ⟨z1, e1, _, w1⟩ := DataW.trod_int Tryz.underlying3 h1
    obtain ⟨z2, e2, _, w2⟩ := DataW.trod_int Tryz.underlying3 h2
    simp at e0 e1 e2
    have b1 := i64_bounds w1
    have b2 := i64_bounds w2
    subst e0 e1 e2
    exact ⟨⟨z0, z1, z2⟩, rfl, ⟨b1.1, b1.2, b2.1, b2.2⟩⟩
set_option maxRecDepth 100000 in
theorem open_fl {fuel : Nat} {cs : List Value} {x : DataW H × List MemPlace} (h : DataW.trod enc Tryz.prog w base spare held fuel 74 cs = some x) : ∃ p : Fl, cs = p.cells ∧ True := by
  obtain ⟨xs, n, _, _, hl, hxl, hf⟩ := DataW.trod_struct Tryz.underlying74 h
  rw [show Tryz.prog.cellsOf 74 = 4 by kernel_rfl] at hl
  match cs, hl with
  | [c0, c1, c2, c3], _ =>
    have h0 : DataW.trod enc Tryz.prog w base spare held n 9 (([c0, c1, c2, c3].drop 0).take (Tryz.prog.cellsOf 9)) = xs[0]? := hf 0 _ rfl
    have h1 : DataW.trod enc Tryz.prog w base spare held n 3 (([c0, c1, c2, c3].drop 1).take (Tryz.prog.cellsOf 3)) = xs[1]? := hf 1 _ rfl
    have h2 : DataW.trod enc Tryz.prog w base spare held n 3 (([c0, c1, c2, c3].drop 2).take (Tryz.prog.cellsOf 3)) = xs[2]? := hf 2 _ rfl
    have h3 : DataW.trod enc Tryz.prog w base spare held n 3 (([c0, c1, c2, c3].drop 3).take (Tryz.prog.cellsOf 3)) = xs[3]? := hf 3 _ rfl
    have hx : ∀ i, i < 4 → i < xs.length := fun i hi => by rw [hxl]; exact hi
    rw [List.getElem?_eq_getElem (hx 0 (by omega)), show Tryz.prog.cellsOf 9 = 1 by kernel_rfl] at h0
    rw [List.getElem?_eq_getElem (hx 1 (by omega)), show Tryz.prog.cellsOf 3 = 1 by kernel_rfl] at h1
    rw [List.getElem?_eq_getElem (hx 2 (by omega)), show Tryz.prog.cellsOf 3 = 1 by kernel_rfl] at h2
    rw [List.getElem?_eq_getElem (hx 3 (by omega)), show Tryz.prog.cellsOf 3 = 1 by kernel_rfl] at h3
    obtain ⟨z0, e0, _⟩ := DataW.trod_string Tryz.underlying9 h0
    obtain ⟨z1, e1, _⟩ := DataW.trod_int Tryz.underlying3 h1
    obtain ⟨z2, e2, _⟩ := DataW.trod_int Tryz.underlying3 h2
    obtain ⟨z3, e3, _⟩ := DataW.trod_int Tryz.underlying3 h3
    simp at e0 e1 e2 e3
    subst e0 e1 e2 e3
    exact ⟨⟨z0, z1, z2, z3⟩, rfl, trivial⟩
set_option maxRecDepth 100000 in
theorem open_tr {fuel : Nat} {cs : List Value} {x : DataW H × List MemPlace} (h : DataW.trod enc Tryz.prog w base spare held fuel 76 cs = some x) : ∃ p : Tr, cs = p.cells ∧ True := by
  obtain ⟨xs, n, _, _, hl, hxl, hf⟩ := DataW.trod_struct Tryz.underlying76 h
  rw [show Tryz.prog.cellsOf 76 = 5 by kernel_rfl] at hl
  match cs, hl with
  | [c0, c1, c2, c3, c4], _ =>
    have h0 : DataW.trod enc Tryz.prog w base spare held n 3 (([c0, c1, c2, c3, c4].drop 0).take (Tryz.prog.cellsOf 3)) = xs[0]? := hf 0 _ rfl
    have h1 : DataW.trod enc Tryz.prog w base spare held n 3 (([c0, c1, c2, c3, c4].drop 1).take (Tryz.prog.cellsOf 3)) = xs[1]? := hf 1 _ rfl
    have h2 : DataW.trod enc Tryz.prog w base spare held n 3 (([c0, c1, c2, c3, c4].drop 2).take (Tryz.prog.cellsOf 3)) = xs[2]? := hf 2 _ rfl
    have h3 : DataW.trod enc Tryz.prog w base spare held n 4 (([c0, c1, c2, c3, c4].drop 3).take (Tryz.prog.cellsOf 4)) = xs[3]? := hf 3 _ rfl
    have h4 : DataW.trod enc Tryz.prog w base spare held n 9 (([c0, c1, c2, c3, c4].drop 4).take (Tryz.prog.cellsOf 9)) = xs[4]? := hf 4 _ rfl
    have hx : ∀ i, i < 5 → i < xs.length := fun i hi => by rw [hxl]; exact hi
    rw [List.getElem?_eq_getElem (hx 0 (by omega)), show Tryz.prog.cellsOf 3 = 1 by kernel_rfl] at h0
    rw [List.getElem?_eq_getElem (hx 1 (by omega)), show Tryz.prog.cellsOf 3 = 1 by kernel_rfl] at h1
    rw [List.getElem?_eq_getElem (hx 2 (by omega)), show Tryz.prog.cellsOf 3 = 1 by kernel_rfl] at h2
    rw [List.getElem?_eq_getElem (hx 3 (by omega)), show Tryz.prog.cellsOf 4 = 1 by kernel_rfl] at h3
    rw [List.getElem?_eq_getElem (hx 4 (by omega)), show Tryz.prog.cellsOf 9 = 1 by kernel_rfl] at h4
    obtain ⟨z0, e0, _⟩ := DataW.trod_int Tryz.underlying3 h0
    obtain ⟨z1, e1, _⟩ := DataW.trod_int Tryz.underlying3 h1
    obtain ⟨z2, e2, _⟩ := DataW.trod_int Tryz.underlying3 h2
    obtain ⟨z3, e3, _⟩ := DataW.trod_bool Tryz.underlying4 h3
    obtain ⟨z4, e4, _⟩ := DataW.trod_string Tryz.underlying9 h4
    simp at e0 e1 e2 e3 e4
    subst e0 e1 e2 e3 e4
    exact ⟨⟨z0, z1, z2, z3, z4⟩, rfl, trivial⟩
theorem open_flsl {fuel : Nat} {cs : List Value} {x : DataW H × List MemPlace} (h : DataW.trod enc Tryz.prog w base spare held fuel 37 cs = some x) : ∃ o n c l, cs = [.slice o n c] ∧ Src w 4 (.slice o n c) n (fls l) ∧ ∀ B : Nat, (∀ k ∈ x.1.weights Tryz.prog 37, k ≤ B) → n * Tryz.prog.bytesOf 74 ≤ B := by
  obtain ⟨o, n, c, l, h1, h2, _, _, h4⟩ := open_els Fl.cells (fun _ => True) 4 (by omega) (fun _ => rfl) (fun s u hu => by simp [Fl.cells] at hu; rcases hu with rfl | rfl | rfl | rfl <;> rfl) Tryz.underlying37 (by kernel_rfl) (fun _ _ _ h => open_fl h) h
  exact ⟨o, n, c, l, h1, h2, h4⟩
theorem open_trsl {fuel : Nat} {cs : List Value} {x : DataW H × List MemPlace} (h : DataW.trod enc Tryz.prog w base spare held fuel 38 cs = some x) : ∃ o n c l, cs = [.slice o n c] ∧ Src w 5 (.slice o n c) n (trs l) ∧ ∀ B : Nat, (∀ k ∈ x.1.weights Tryz.prog 38, k ≤ B) → n * Tryz.prog.bytesOf 76 ≤ B := by
  obtain ⟨o, n, c, l, h1, h2, _, _, h4⟩ := open_els Tr.cells (fun _ => True) 5 (by omega) (fun _ => rfl) (fun s u hu => by simp [Tr.cells] at hu; rcases hu with rfl | rfl | rfl | rfl | rfl <;> rfl) Tryz.underlying38 (by kernel_rfl) (fun _ _ _ h => open_tr h) h
  exact ⟨o, n, c, l, h1, h2, h4⟩
set_option maxRecDepth 100000 in
theorem open_sta {fuel : Nat} {cs : List Value} {x : DataW H × List MemPlace} (h : DataW.trod enc Tryz.prog w base spare held fuel 40 cs = some x) (hB : ∀ k ∈ x.1.weights Tryz.prog 40, k ≤ reachBytes) :
    ∃ (s : Sta) (fa : Option Addr) (fn fc : Nat) (ta : Option Addr) (tn tc : Nat), cs = (staC s fa fn fc ta tn tc).toList ∧ StIn w s fa fn fc ta tn tc := by
  obtain ⟨xs, n, _, hxe, hl, hxl, hf⟩ := DataW.trod_struct Tryz.underlying40 h
  subst hxe
  rw [show Tryz.prog.cellsOf 40 = 8 by kernel_rfl] at hl
  match cs, hl with
  | [c0, c1, c2, c3, c4, c5, c6, c7], _ =>
    have h0 : DataW.trod enc Tryz.prog w base spare held n 3 (([c0, c1, c2, c3, c4, c5, c6, c7].drop 0).take (Tryz.prog.cellsOf 3)) = xs[0]? := hf 0 _ rfl
    have h1 : DataW.trod enc Tryz.prog w base spare held n 3 (([c0, c1, c2, c3, c4, c5, c6, c7].drop 1).take (Tryz.prog.cellsOf 3)) = xs[1]? := hf 1 _ rfl
    have h2 : DataW.trod enc Tryz.prog w base spare held n 3 (([c0, c1, c2, c3, c4, c5, c6, c7].drop 2).take (Tryz.prog.cellsOf 3)) = xs[2]? := hf 2 _ rfl
    have h3 : DataW.trod enc Tryz.prog w base spare held n 36 (([c0, c1, c2, c3, c4, c5, c6, c7].drop 3).take (Tryz.prog.cellsOf 36)) = xs[3]? := hf 3 _ rfl
    have h4 : DataW.trod enc Tryz.prog w base spare held n 37 (([c0, c1, c2, c3, c4, c5, c6, c7].drop 6).take (Tryz.prog.cellsOf 37)) = xs[4]? := hf 4 _ rfl
    have h5 : DataW.trod enc Tryz.prog w base spare held n 38 (([c0, c1, c2, c3, c4, c5, c6, c7].drop 7).take (Tryz.prog.cellsOf 38)) = xs[5]? := hf 5 _ rfl
    have hx : ∀ i, i < 6 → i < xs.length := fun i hi => by rw [hxl]; exact hi
    rw [List.getElem?_eq_getElem (hx 0 (by omega)), show Tryz.prog.cellsOf 3 = 1 by kernel_rfl] at h0
    rw [List.getElem?_eq_getElem (hx 1 (by omega)), show Tryz.prog.cellsOf 3 = 1 by kernel_rfl] at h1
    rw [List.getElem?_eq_getElem (hx 2 (by omega)), show Tryz.prog.cellsOf 3 = 1 by kernel_rfl] at h2
    rw [List.getElem?_eq_getElem (hx 3 (by omega)), show Tryz.prog.cellsOf 36 = 3 by kernel_rfl] at h3
    rw [List.getElem?_eq_getElem (hx 4 (by omega)), show Tryz.prog.cellsOf 37 = 1 by kernel_rfl] at h4
    rw [List.getElem?_eq_getElem (hx 5 (by omega)), show Tryz.prog.cellsOf 38 = 1 by kernel_rfl] at h5
    obtain ⟨z0, e0, _⟩ := DataW.trod_int Tryz.underlying3 h0
    obtain ⟨z1, e1, _⟩ := DataW.trod_int Tryz.underlying3 h1
    obtain ⟨z2, e2, _⟩ := DataW.trod_int Tryz.underlying3 h2
    obtain ⟨m, e3, hm⟩ := open_mk h3
    obtain ⟨fa, fn, fc, fl, e4, hfl, hfn⟩ := open_flsl h4
    obtain ⟨ta, tn, tc, ti, e5, hti, htn⟩ := open_trsl h5
    simp at e0 e1 e2 e3 e4 e5
    obtain ⟨e3, e3', e3''⟩ := e3
    subst e0 e1 e2 e3 e3' e3'' e4 e5
    have hr := reachBytes_lt
    have hF := hfn reachBytes (fun k hk => hB k (by
      simp only [DataW.weights, Tryz.underlying40]
      exact DataW.weights_mem_each (j := 4) rfl (by rw [List.getElem?_map, List.getElem?_eq_getElem (hx 4 (by omega))]; rfl) k hk))
    have hT := htn reachBytes (fun k hk => hB k (by
      simp only [DataW.weights, Tryz.underlying40]
      exact DataW.weights_mem_each (j := 5) rfl (by rw [List.getElem?_map, List.getElem?_eq_getElem (hx 5 (by omega))]; rfl) k hk))
    rw [show Tryz.prog.bytesOf 74 = 40 by kernel_rfl] at hF
    rw [show Tryz.prog.bytesOf 76 = 48 by kernel_rfl] at hT
    exact ⟨⟨z0, z1, z2, m, fl, ti⟩, fa, fn, fc, ta, tn, tc, rfl, ⟨hfl, hti, hm, by omega, by omega⟩⟩
end
end Go.Proofs.YtgdgjnecgelalaaGreatDoor

/-! Opening a slice of states of the manifest. -/

namespace Go.Proofs.YtgdgjnecgelalaaGreatDoor
open Go.RowKit Go.Sort Go.Lib Go.ChangeShapes Go.WideShapes Go.Deep

section
variable {H : Type} {enc : TypeId × Value → H} {P : Program} {w : World} {base : Nat} {spare : Nat → Bool} {held : Bool}
theorem mem_weightsIn {e : TypeId} {ds : List (DataW H)} {d : DataW H} (h : d ∈ ds) : ∀ k ∈ d.weights P e, k ∈ DataW.weightsAll P e ds := by
  induction ds with
  | nil => cases h
  | cons x ds ih =>
    intro k hk
    simp only [DataW.weightsAll, List.mem_append]
    rcases List.mem_cons.1 h with rfl | h
    · exact .inl hk
    · exact .inr (ih h k hk)
/-- A slice of elements, each of them within the reach. -/
theorem open_elsB {α : Type} [Inhabited α] (cells : α → List Value) (Ok : α → Prop) (size : Nat) (hs0 : 0 < size) (hsz : ∀ p, (cells p).length = size) (hone : ∀ p, ∀ u ∈ cells p, u.oneCell' = true) {t e : TypeId} {fuel : Nat} {cs : List Value} {x : DataW H × List MemPlace} (B : Nat)
    (ht : P.underlying t = some (.slice e)) (hC : P.cellsOf e = size) (hop : ∀ (fuel : Nat) (cs : List Value) (x : DataW H × List MemPlace), DataW.trod enc P w base spare held fuel e cs = some x → (∀ k ∈ x.1.weights P e, k ≤ B) → ∃ p, cs = cells p ∧ Ok p) (h : DataW.trod enc P w base spare held fuel t cs = some x) (hB : ∀ k ∈ x.1.weights P t, k ≤ B) :
    ∃ (o : Option Addr) (n c : Nat) (l : List α), cs = [.slice o n c] ∧ Src w size (.slice o n c) n (l.flatMap cells) ∧ (∀ p ∈ l, Ok p) ∧ n ≤ c ∧ n * P.bytesOf e ≤ B := by
  rcases open_slice ht h with ⟨rfl, rfl⟩ | ⟨a, len, cap, m, n, D, Pl, rfl, hb, hl, hm, hmm, rfl, hel⟩
  · exact ⟨none, 0, 0, [], rfl, .inl ⟨rfl, rfl, rfl⟩, by simp, Nat.le_refl _, by simp⟩
  · rw [hC] at hel
    have hlm : len ≤ m := by rw [hmm]; split <;> omega
    have hpt : ∀ i, i < len → ∃ p : α, Ok p ∧ ∀ j u, (cells p)[j]? = some u → w.cell? (a.add (i * size + j)) = some u := by
      intro i hil
      obtain ⟨cs', hc, htr⟩ := hel i (by omega)
      obtain ⟨p, rfl, hok⟩ := hop _ _ _ htr (fun q hq => hB q (by
        simp only [DataW.weights, ht, List.mem_cons, List.mem_append]
        exact .inr (.inl (mem_weightsIn (List.mem_map.2 ⟨i, List.mem_range.2 hil, rfl⟩) q hq))))
      refine ⟨p, hok, fun j u hj => ?_⟩
      obtain ⟨_, _, hat⟩ := World.cells?_some hc
      have hj3 : j < size := by have := (List.getElem?_eq_some_iff.1 hj).1; rw [hsz] at this; exact this
      have := hat j hj3
      rw [Go.Deep.add_add] at this
      rw [this]; exact hj
    obtain ⟨F, hF⟩ := choose_lt hpt
    refine ⟨some a, len, cap, (List.range len).map F, rfl, .inr ⟨a, cap, rfl, by rw [flat_len cells size hsz]; simp, fun j u hj => ?_, fun u hu => ?_⟩, fun p hp => ?_, hl, ?_⟩
    · have hj' : j < len * size := by have := (List.getElem?_eq_some_iff.1 hj).1; rw [flat_len cells size hsz] at this; simpa using this
      have hj3 : j / size < len := Nat.div_lt_of_lt_mul (by rw [Nat.mul_comm]; exact hj')
      have hq : ((List.range len).map F)[j / size]? = some (F (j / size)) := by simp [List.getElem?_map, List.getElem?_range hj3]
      have hmod := Nat.mod_lt j hs0
      have hsplit : j = j / size * size + j % size := by rw [Nat.mul_comm]; exact (Nat.div_add_mod j size).symm
      have e0 := flat_at cells size hsz _ _ (j % size) _ hq hmod
      rw [← hsplit, hj] at e0
      have := (hF (j / size) hj3).2 (j % size) u e0.symm
      rw [← hsplit] at this
      exact this
    · obtain ⟨p, _, hu⟩ := List.mem_flatMap.1 hu
      exact hone p u hu
    · obtain ⟨i, hi, rfl⟩ := List.mem_map.1 hp
      exact (hF i (List.mem_range.1 hi)).1
    · have := hB ((((List.range len).map D).length + ((List.range (m - len)).map fun j => D (len + j)).length) * P.bytesOf e) (by simp [DataW.weights, ht])
      simp at this
      exact Nat.le_trans (Nat.mul_le_mul_right _ (by omega)) this
end

/-- A state in memory: an element of a slice. -/
structure Sx where
  s : Sta
  fa : Option Addr
  fn : Nat
  fc : Nat
  ta : Option Addr
  tn : Nat
  tc : Nat
def Sx.cells (p : Sx) : List Value := [.int .i64 p.s.x, .int .i64 p.s.r, .int .i64 p.s.q, .bool p.s.km.s, .int .i64 p.s.km.t, .int .i64 p.s.km.g, .slice p.fa p.fn p.fc, .slice p.ta p.tn p.tc]
theorem Sx.cells_sta (p : Sx) : p.cells = (staC p.s p.fa p.fn p.fc p.ta p.tn p.tc).toList := rfl
abbrev Sx.Ok (w : World) (p : Sx) : Prop := StIn w p.s p.fa p.fn p.fc p.ta p.tn p.tc
instance : Inhabited Sx := ⟨⟨⟨0, 0, 0, ⟨false, 0, 0⟩, [], []⟩, none, 0, 0, none, 0, 0⟩⟩
def sxs (l : List Sx) : List Value := l.flatMap Sx.cells
theorem sxs_src {w : World} {a : Option Addr} {n c : Nat} {l : List Sx} (h : Src w 8 (.slice a n c) n (sxs l)) {k : Nat} (hk : k < n) :
    ∃ b off p, a = some ⟨b, off, none⟩ ∧ l[k]? = some p ∧ ∀ j u, p.cells[j]? = some u → w.cell? ⟨b, off + (k * 8 + j), none⟩ = some u := by
  rcases h with ⟨_, h, _⟩ | ⟨ad, c', h, hl, h2, _⟩
  · omega
  · simp at h
    obtain ⟨rfl, rfl⟩ := h
    have hl5 : (sxs l).length = l.length * 8 := flat_len Sx.cells 8 (fun _ => rfl) l
    rw [hl5] at hl
    have hkl : k < l.length := by omega
    have key : ∀ (k : Nat) (hkl : k < l.length) j u, (l[k]).cells[j]? = some u → w.cell? (ad.add (k * 8 + j)) = some u := fun k hkl j u hj => h2 _ _ (by
      have hj5 : j < 8 := by have := (List.getElem?_eq_some_iff.1 hj).1; simpa [Sx.cells] using this
      have := flat_at Sx.cells 8 (fun _ => rfl) l k j _ (List.getElem?_eq_getElem hkl) hj5
      unfold sxs
      rw [this]; exact hj)
    obtain ⟨b, off, spot⟩ := ad
    have hz := key 0 (by omega) 0 _ rfl
    have hspot : spot = none := by simpa [Addr.add] using World.cell?_spot hz
    subst hspot
    refine ⟨b, off, l[k], rfl, List.getElem?_eq_getElem hkl, fun j u hj => ?_⟩
    rw [← Go.WideShapes.add_plain]; exact key k hkl j u hj
section
variable {H : Type} {enc : TypeId × Value → H} {w : World} {base : Nat} {spare : Nat → Bool} {held : Bool}
theorem open_sxs {fuel : Nat} {cs : List Value} {x : DataW H × List MemPlace} (h : DataW.trod enc Tryz.prog w base spare held fuel 22 cs = some x) (hB : ∀ k ∈ x.1.weights Tryz.prog 22, k ≤ reachBytes) :
    ∃ (o : Option Addr) (n c : Nat) (l : List Sx), cs = [.slice o n c] ∧ Src w 8 (.slice o n c) n (sxs l) ∧ (∀ p ∈ l, p.Ok w) ∧ n ≤ c ∧ n * Tryz.prog.bytesOf 40 ≤ reachBytes :=
  open_elsB Sx.cells (fun p => p.Ok w) 8 (by omega) (fun _ => rfl) (fun s u hu => by simp [Sx.cells] at hu; rcases hu with rfl | rfl | rfl | rfl | rfl | rfl | rfl | rfl <;> rfl) reachBytes Tryz.underlying22 (by kernel_rfl)
    (fun _ _ _ h hB => by
      obtain ⟨s, fa, fn, fc, ta, tn, tc, e, hin⟩ := open_sta h hB
      exact ⟨⟨s, fa, fn, fc, ta, tn, tc⟩, e, hin⟩) h hB
end
end Go.Proofs.YtgdgjnecgelalaaGreatDoor
