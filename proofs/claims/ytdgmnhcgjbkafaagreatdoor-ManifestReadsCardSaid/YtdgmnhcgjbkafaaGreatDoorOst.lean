/- Opening a state of the manifest. -/
import Derived.Test.YtdgmnhcgjbkafaaGreatDoorOpg
import Derived.Test.YtdgmnhcgjbkafaaGreatDoorMfd
import Derived.SizedLaws
import Derived.Test.YtdgmnhcgjbkafaaGreatDoorProg
namespace Go.Proofs.YtdgmnhcgjbkafaaGreatDoor
open Go.RowKit Go.Sort Go.Lib Go.ChangeShapes Go.WideShapes Go.Deep

section
variable {H : Type} {enc : TypeId × Value → H} {w : World} {base : Nat} {spare : Nat → Bool} {held : Bool}

instance : Inhabited Fl := ⟨⟨⟨#[]⟩, 0, 0, 0⟩⟩
instance : Inhabited Tr := ⟨⟨0, 0, 0, false, ⟨#[]⟩⟩⟩
theorem i64_bounds {z : Int} (h : (Lit.int IntKind.i64 z).wf = true) : -9223372036854775808 ≤ z ∧ z ≤ 9223372036854775807 := by
  simpa [Lit.wf, IntKind.min, IntKind.max, IntKind.signed, IntKind.bits] using h
set_option maxRecDepth 100000 in
theorem open_mk {fuel : Nat} {cs : List Value} {x : DataW H × List MemPlace} (h : DataW.trod enc Tryz.prog w base spare held fuel 23 cs = some x) : ∃ m : Mk, cs = [.bool m.s, .int .i64 m.t, .int .i64 m.g] ∧ m.ok := by
  obtain ⟨xs, n, _, _, hl, hxl, hf⟩ := DataW.trod_struct Tryz.underlying23 h
  rw [show Tryz.prog.cellsOf 23 = 3 by kernel_rfl] at hl
  match cs, hl with
  | [c0, c1, c2], _ =>
    have h0 : DataW.trod enc Tryz.prog w base spare held n 4 (([c0, c1, c2].drop 0).take (Tryz.prog.cellsOf 4)) = xs[0]? := hf 0 _ rfl
    have h1 : DataW.trod enc Tryz.prog w base spare held n 3 (([c0, c1, c2].drop 1).take (Tryz.prog.cellsOf 3)) = xs[1]? := hf 1 _ rfl
    have h2 : DataW.trod enc Tryz.prog w base spare held n 3 (([c0, c1, c2].drop 2).take (Tryz.prog.cellsOf 3)) = xs[2]? := hf 2 _ rfl
    have hx : ∀ i, i < 3 → i < xs.length := fun i hi => by rw [hxl]; exact hi
    rw [List.getElem?_eq_getElem (hx 0 (by omega)), show Tryz.prog.cellsOf 4 = 1 by kernel_rfl] at h0
    rw [List.getElem?_eq_getElem (hx 1 (by omega)), show Tryz.prog.cellsOf 3 = 1 by kernel_rfl] at h1
    rw [List.getElem?_eq_getElem (hx 2 (by omega)), show Tryz.prog.cellsOf 3 = 1 by kernel_rfl] at h2
    obtain ⟨z0, e0, _⟩ := DataW.trod_bool Tryz.underlying4 h0
    obtain ⟨z1, e1, _, w1⟩ := DataW.trod_int Tryz.underlying3 h1
    obtain ⟨z2, e2, _, w2⟩ := DataW.trod_int Tryz.underlying3 h2
    simp at e0 e1 e2
    have b1 := i64_bounds w1
    have b2 := i64_bounds w2
    subst e0 e1 e2
    exact ⟨⟨z0, z1, z2⟩, rfl, ⟨b1.1, b1.2, b2.1, b2.2⟩⟩
set_option maxRecDepth 100000 in
theorem open_fl {fuel : Nat} {cs : List Value} {x : DataW H × List MemPlace} (h : DataW.trod enc Tryz.prog w base spare held fuel 48 cs = some x) : ∃ p : Fl, cs = p.cells ∧ True := by
  obtain ⟨xs, n, _, _, hl, hxl, hf⟩ := DataW.trod_struct Tryz.underlying48 h
  rw [show Tryz.prog.cellsOf 48 = 4 by kernel_rfl] at hl
  match cs, hl with
  | [c0, c1, c2, c3], _ =>
    have h0 : DataW.trod enc Tryz.prog w base spare held n 9 (([c0, c1, c2, c3].drop 0).take (Tryz.prog.cellsOf 9)) = xs[0]? := hf 0 _ rfl
    have h1 : DataW.trod enc Tryz.prog w base spare held n 3 (([c0, c1, c2, c3].drop 1).take (Tryz.prog.cellsOf 3)) = xs[1]? := hf 1 _ rfl
    have h2 : DataW.trod enc Tryz.prog w base spare held n 3 (([c0, c1, c2, c3].drop 2).take (Tryz.prog.cellsOf 3)) = xs[2]? := hf 2 _ rfl
    have h3 : DataW.trod enc Tryz.prog w base spare held n 3 (([c0, c1, c2, c3].drop 3).take (Tryz.prog.cellsOf 3)) = xs[3]? := hf 3 _ rfl
    have hx : ∀ i, i < 4 → i < xs.length := fun i hi => by rw [hxl]; exact hi
    rw [List.getElem?_eq_getElem (hx 0 (by omega)), show Tryz.prog.cellsOf 9 = 1 by kernel_rfl] at h0
    rw [List.getElem?_eq_getElem (hx 1 (by omega)), show Tryz.prog.cellsOf 3 = 1 by kernel_rfl] at h1
    rw [List.getElem?_eq_getElem (hx 2 (by omega)), show Tryz.prog.cellsOf 3 = 1 by kernel_rfl] at h2
    rw [List.getElem?_eq_getElem (hx 3 (by omega)), show Tryz.prog.cellsOf 3 = 1 by kernel_rfl] at h3
    obtain ⟨z0, e0, _⟩ := DataW.trod_string Tryz.underlying9 h0
    obtain ⟨z1, e1, _⟩ := DataW.trod_int Tryz.underlying3 h1
    obtain ⟨z2, e2, _⟩ := DataW.trod_int Tryz.underlying3 h2
    obtain ⟨z3, e3, _⟩ := DataW.trod_int Tryz.underlying3 h3
    simp at e0 e1 e2 e3
    subst e0 e1 e2 e3
    exact ⟨⟨z0, z1, z2, z3⟩, rfl, trivial⟩
set_option maxRecDepth 100000 in
theorem open_tr {fuel : Nat} {cs : List Value} {x : DataW H × List MemPlace} (h : DataW.trod enc Tryz.prog w base spare held fuel 50 cs = some x) : ∃ p : Tr, cs = p.cells ∧ True := by
  obtain ⟨xs, n, _, _, hl, hxl, hf⟩ := DataW.trod_struct Tryz.underlying50 h
  rw [show Tryz.prog.cellsOf 50 = 5 by kernel_rfl] at hl
  match cs, hl with
  | [c0, c1, c2, c3, c4], _ =>
    have h0 : DataW.trod enc Tryz.prog w base spare held n 3 (([c0, c1, c2, c3, c4].drop 0).take (Tryz.prog.cellsOf 3)) = xs[0]? := hf 0 _ rfl
    have h1 : DataW.trod enc Tryz.prog w base spare held n 3 (([c0, c1, c2, c3, c4].drop 1).take (Tryz.prog.cellsOf 3)) = xs[1]? := hf 1 _ rfl
    have h2 : DataW.trod enc Tryz.prog w base spare held n 3 (([c0, c1, c2, c3, c4].drop 2).take (Tryz.prog.cellsOf 3)) = xs[2]? := hf 2 _ rfl
    have h3 : DataW.trod enc Tryz.prog w base spare held n 4 (([c0, c1, c2, c3, c4].drop 3).take (Tryz.prog.cellsOf 4)) = xs[3]? := hf 3 _ rfl
    have h4 : DataW.trod enc Tryz.prog w base spare held n 9 (([c0, c1, c2, c3, c4].drop 4).take (Tryz.prog.cellsOf 9)) = xs[4]? := hf 4 _ rfl
    have hx : ∀ i, i < 5 → i < xs.length := fun i hi => by rw [hxl]; exact hi
    rw [List.getElem?_eq_getElem (hx 0 (by omega)), show Tryz.prog.cellsOf 3 = 1 by kernel_rfl] at h0
    rw [List.getElem?_eq_getElem (hx 1 (by omega)), show Tryz.prog.cellsOf 3 = 1 by kernel_rfl] at h1
    rw [List.getElem?_eq_getElem (hx 2 (by omega)), show Tryz.prog.cellsOf 3 = 1 by kernel_rfl] at h2
    rw [List.getElem?_eq_getElem (hx 3 (by omega)), show Tryz.prog.cellsOf 4 = 1 by kernel_rfl] at h3
    rw [List.getElem?_eq_getElem (hx 4 (by omega)), show Tryz.prog.cellsOf 9 = 1 by kernel_rfl] at h4
    obtain ⟨z0, e0, _⟩ := DataW.trod_int Tryz.underlying3 h0
    obtain ⟨z1, e1, _⟩ := DataW.trod_int Tryz.underlying3 h1
    obtain ⟨z2, e2, _⟩ := DataW.trod_int Tryz.underlying3 h2
    obtain ⟨z3, e3, _⟩ := DataW.trod_bool Tryz.underlying4 h3
    obtain ⟨z4, e4, _⟩ := DataW.trod_string Tryz.underlying9 h4
    simp at e0 e1 e2 e3 e4
    subst e0 e1 e2 e3 e4
    exact ⟨⟨z0, z1, z2, z3, z4⟩, rfl, trivial⟩
theorem open_flsl {fuel : Nat} {cs : List Value} {x : DataW H × List MemPlace} (h : DataW.trod enc Tryz.prog w base spare held fuel 24 cs = some x) : ∃ o n c l, cs = [.slice o n c] ∧ Src w 4 (.slice o n c) n (fls l) ∧ ∀ B : Nat, (∀ k ∈ x.1.weights Tryz.prog 24, k ≤ B) → n * Tryz.prog.bytesOf 48 ≤ B := by
  obtain ⟨o, n, c, l, h1, h2, _, _, h4⟩ := open_els Fl.cells (fun _ => True) 4 (by omega) (fun _ => rfl) (fun s u hu => by simp [Fl.cells] at hu; rcases hu with rfl | rfl | rfl | rfl <;> rfl) Tryz.underlying24 (by kernel_rfl) (fun _ _ _ h => open_fl h) h
  exact ⟨o, n, c, l, h1, h2, h4⟩
theorem open_trsl {fuel : Nat} {cs : List Value} {x : DataW H × List MemPlace} (h : DataW.trod enc Tryz.prog w base spare held fuel 25 cs = some x) : ∃ o n c l, cs = [.slice o n c] ∧ Src w 5 (.slice o n c) n (trs l) ∧ ∀ B : Nat, (∀ k ∈ x.1.weights Tryz.prog 25, k ≤ B) → n * Tryz.prog.bytesOf 50 ≤ B := by
  obtain ⟨o, n, c, l, h1, h2, _, _, h4⟩ := open_els Tr.cells (fun _ => True) 5 (by omega) (fun _ => rfl) (fun s u hu => by simp [Tr.cells] at hu; rcases hu with rfl | rfl | rfl | rfl | rfl <;> rfl) Tryz.underlying25 (by kernel_rfl) (fun _ _ _ h => open_tr h) h
  exact ⟨o, n, c, l, h1, h2, h4⟩
set_option maxRecDepth 100000 in
theorem open_sta {fuel : Nat} {cs : List Value} {x : DataW H × List MemPlace} (h : DataW.trod enc Tryz.prog w base spare held fuel 27 cs = some x) (hB : ∀ k ∈ x.1.weights Tryz.prog 27, k ≤ reachBytes) :
    ∃ (s : Sta) (fa : Option Addr) (fn fc : Nat) (ta : Option Addr) (tn tc : Nat), cs = (staC s fa fn fc ta tn tc).toList ∧ StIn w s fa fn fc ta tn tc := by
  obtain ⟨xs, n, _, hxe, hl, hxl, hf⟩ := DataW.trod_struct Tryz.underlying27 h
  subst hxe
  rw [show Tryz.prog.cellsOf 27 = 8 by kernel_rfl] at hl
  match cs, hl with
  | [c0, c1, c2, c3, c4, c5, c6, c7], _ =>
    have h0 : DataW.trod enc Tryz.prog w base spare held n 3 (([c0, c1, c2, c3, c4, c5, c6, c7].drop 0).take (Tryz.prog.cellsOf 3)) = xs[0]? := hf 0 _ rfl
    have h1 : DataW.trod enc Tryz.prog w base spare held n 3 (([c0, c1, c2, c3, c4, c5, c6, c7].drop 1).take (Tryz.prog.cellsOf 3)) = xs[1]? := hf 1 _ rfl
    have h2 : DataW.trod enc Tryz.prog w base spare held n 3 (([c0, c1, c2, c3, c4, c5, c6, c7].drop 2).take (Tryz.prog.cellsOf 3)) = xs[2]? := hf 2 _ rfl
    have h3 : DataW.trod enc Tryz.prog w base spare held n 23 (([c0, c1, c2, c3, c4, c5, c6, c7].drop 3).take (Tryz.prog.cellsOf 23)) = xs[3]? := hf 3 _ rfl
    have h4 : DataW.trod enc Tryz.prog w base spare held n 24 (([c0, c1, c2, c3, c4, c5, c6, c7].drop 6).take (Tryz.prog.cellsOf 24)) = xs[4]? := hf 4 _ rfl
    have h5 : DataW.trod enc Tryz.prog w base spare held n 25 (([c0, c1, c2, c3, c4, c5, c6, c7].drop 7).take (Tryz.prog.cellsOf 25)) = xs[5]? := hf 5 _ rfl
    have hx : ∀ i, i < 6 → i < xs.length := fun i hi => by rw [hxl]; exact hi
    rw [List.getElem?_eq_getElem (hx 0 (by omega)), show Tryz.prog.cellsOf 3 = 1 by kernel_rfl] at h0
    rw [List.getElem?_eq_getElem (hx 1 (by omega)), show Tryz.prog.cellsOf 3 = 1 by kernel_rfl] at h1
    rw [List.getElem?_eq_getElem (hx 2 (by omega)), show Tryz.prog.cellsOf 3 = 1 by kernel_rfl] at h2
    rw [List.getElem?_eq_getElem (hx 3 (by omega)), show Tryz.prog.cellsOf 23 = 3 by kernel_rfl] at h3
    rw [List.getElem?_eq_getElem (hx 4 (by omega)), show Tryz.prog.cellsOf 24 = 1 by kernel_rfl] at h4
    rw [List.getElem?_eq_getElem (hx 5 (by omega)), show Tryz.prog.cellsOf 25 = 1 by kernel_rfl] at h5
    obtain ⟨z0, e0, _⟩ := DataW.trod_int Tryz.underlying3 h0
    obtain ⟨z1, e1, _⟩ := DataW.trod_int Tryz.underlying3 h1
    obtain ⟨z2, e2, _⟩ := DataW.trod_int Tryz.underlying3 h2
    obtain ⟨m, e3, hm⟩ := open_mk h3
    obtain ⟨fa, fn, fc, fl, e4, hfl, hfn⟩ := open_flsl h4
    obtain ⟨ta, tn, tc, ti, e5, hti, htn⟩ := open_trsl h5
    simp at e0 e1 e2 e3 e4 e5
    obtain ⟨e3, e3', e3''⟩ := e3
    subst e0 e1 e2 e3 e3' e3'' e4 e5
    have hr := reachBytes_lt
    have hF := hfn reachBytes (fun k hk => hB k (by
      simp only [DataW.weights, Tryz.underlying27]
      exact DataW.weights_mem_each (j := 4) rfl (by rw [List.getElem?_map, List.getElem?_eq_getElem (hx 4 (by omega))]; rfl) k hk))
    have hT := htn reachBytes (fun k hk => hB k (by
      simp only [DataW.weights, Tryz.underlying27]
      exact DataW.weights_mem_each (j := 5) rfl (by rw [List.getElem?_map, List.getElem?_eq_getElem (hx 5 (by omega))]; rfl) k hk))
    rw [show Tryz.prog.bytesOf 48 = 40 by kernel_rfl] at hF
    rw [show Tryz.prog.bytesOf 50 = 48 by kernel_rfl] at hT
    exact ⟨⟨z0, z1, z2, m, fl, ti⟩, fa, fn, fc, ta, tn, tc, rfl, ⟨hfl, hti, hm, by omega, by omega⟩⟩
end
end Go.Proofs.YtdgmnhcgjbkafaaGreatDoor
