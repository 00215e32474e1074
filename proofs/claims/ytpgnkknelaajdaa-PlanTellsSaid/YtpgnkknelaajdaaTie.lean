/- Tiers in memory; tidemilllaw26.own, tidemillref18.Right, tidemilllaw26.fine. -/
import Derived.Test.YtpgnkknelaajdaaApp
namespace Go.Proofs.Ytpgnkknelaajdaa
open Go.RowKit Go.Sort Go.Lib

structure Ti where
  w : Int
  o : Int
  u : Int
  m : Bool
  f : ByteArray
def Ti.cells (p : Ti) : List Value := [.int .i64 p.w, .int .i64 p.o, .int .i64 p.u, .bool p.m, .string p.f]
abbrev Ti.val (p : Ti) : Value := .agg #[.int .i64 p.w, .int .i64 p.o, .int .i64 p.u, .bool p.m, .string p.f]
def tis (l : List Ti) : List Value := l.flatMap Ti.cells
theorem tis_len (l : List Ti) : (tis l).length = l.length * 5 := by
  induction l with
  | nil => rfl
  | cons p l ih => simp [tis, Ti.cells] at ih ⊢; omega
theorem tis_one (l : List Ti) : ∀ u ∈ tis l, u.oneCell' = true := by
  intro u hu
  simp only [tis, List.mem_flatMap, Ti.cells] at hu
  obtain ⟨p, _, hu⟩ := hu
  simp at hu
  rcases hu with rfl | rfl | rfl | rfl | rfl <;> rfl
theorem tis_append (a b : List Ti) : tis (a ++ b) = tis a ++ tis b := by simp [tis]
theorem tis_at (l : List Ti) (k : Nat) (p : Ti) (h : l[k]? = some p) : (tis l)[k * 5]? = some (.int .i64 p.w) ∧ (tis l)[k * 5 + 1]? = some (.int .i64 p.o) ∧ (tis l)[k * 5 + 2]? = some (.int .i64 p.u) ∧ (tis l)[k * 5 + 3]? = some (.bool p.m) ∧ (tis l)[k * 5 + 4]? = some (.string p.f) := by
  induction l generalizing k with
  | nil => simp at h
  | cons q l ih =>
    cases k with
    | zero => simp at h; subst h; simp [tis, Ti.cells]
    | succ k =>
      simp at h
      have := ih k h
      rw [show (k + 1) * 5 = k * 5 + 5 by omega]
      simpa [tis, Ti.cells] using this
theorem tis_src {w : World} {a : Option Addr} {n c : Nat} {l : List Ti} (h : Src w 5 (.slice a n c) n (tis l)) {k : Nat} (hk : k < n) :
    ∃ b off p, a = some ⟨b, off, none⟩ ∧ l[k]? = some p ∧ w.cell? ⟨b, off + k * 5, none⟩ = some (.int .i64 p.w) ∧ w.cell? ⟨b, off + k * 5 + 1, none⟩ = some (.int .i64 p.o) ∧ w.cell? ⟨b, off + k * 5 + 2, none⟩ = some (.int .i64 p.u) ∧ w.cell? ⟨b, off + k * 5 + 3, none⟩ = some (.bool p.m) ∧ w.cell? ⟨b, off + k * 5 + 4, none⟩ = some (.string p.f) := by
  rcases h with ⟨_, h, _⟩ | ⟨ad, c', h, hl, h2, _⟩
  · omega
  · simp at h
    obtain ⟨rfl, rfl⟩ := h
    rw [tis_len] at hl
    have hkl : k < l.length := by omega
    obtain ⟨e0, e1, e2, e3, e4⟩ := tis_at l k l[k] (List.getElem?_eq_getElem hkl)
    have c0 := h2 _ _ e0
    have c1 := h2 _ _ e1
    have c2 := h2 _ _ e2
    have c3 := h2 _ _ e3
    have c4 := h2 _ _ e4
    obtain ⟨b, off, spot⟩ := ad
    have hz := h2 0 _ (tis_at l 0 _ (List.getElem?_eq_getElem (show 0 < l.length by omega))).1
    have hspot : spot = none := by simpa [Addr.add] using World.cell?_spot hz
    subst hspot
    rw [Go.WideShapes.add_plain] at c0 c1 c2 c3 c4
    exact ⟨b, off, l[k], rfl, List.getElem?_eq_getElem hkl, c0, c1, c2, c3, c4⟩
theorem tis_src_len {w : World} {v : Value} {n : Nat} {l : List Ti} (h : Src w 5 v n (tis l)) : l.length = n := by
  rcases h with ⟨_, rfl, h⟩ | ⟨_, _, _, h, _⟩
  · have := tis_len l; rw [h] at this; simp at this; omega
  · rw [tis_len] at h; omega
theorem src_ti' {W : World} {b : Nat} {p : Ti} {t : TypeId} {fr : Nat × Nat} (h : W.heap[b]? = some (.cells #[.int .i64 p.w, .int .i64 p.o, .int .i64 p.u, .bool p.m, .string p.f] t fr)) : Src W 5 (.slice (some ⟨b, 0, none⟩) 1 1) 1 (tis [p]) := by
  refine .inr ⟨_, _, rfl, rfl, fun j u hj => ?_, tis_one _⟩
  rw [Go.WideShapes.add_plain, Nat.zero_add, cell_of_block h]
  simpa [tis, Ti.cells] using hj
theorem take_snoc5 {α : Type} {l : List α} {j : Nat} {q : α} (h : l[j]? = some q) : l.take (j + 1) = l.take j ++ [q] := by
  rw [List.take_add_one, h]; rfl

theorem elem_ti : ElemOk Try.prog 33 60 5 48 :=
  ⟨Try.underlying33, by
    obtain ⟨i0, hi, hz0, hz1, hz2⟩ := info_parts (show (Try.prog.info? 60).map (fun i => (i.zero, i.size, i.bytes)) = some (some (.agg #[.int .i64 0, .int .i64 0, .int .i64 0, .bool false, .string ByteArray.empty]), 5, 48) from by kernel_rfl)
    exact ⟨i0, _, hi, hz0, hz1, hz2, rfl⟩, by decide⟩

structure TiTo (w : World) (out : List Ti) (v : Value) (w' : World) : Prop where
  row : Row w' 60 5 v out.length (tis out)
  own : ∀ g, v.ownBlock = some g → w.heap.size ≤ g
  ext : Ext w w'
theorem TiTo.snoc {w W w3 : World} {out : List Ti} {v v' : Value} {p : Ti} (h : TiTo w out v W) {W' : World} (hx : Ext W W') (ha : Appended W' 60 5 v (out.length + 1) (tis out ++ tis [p]) v' w3) : TiTo w (out ++ [p]) v' w3 := by
  have hs := h.ext.size
  have hs2 := hx.size
  refine ⟨by rw [List.length_append, tis_append]; exact ha.row, fun g hg => ?_, Chg.ext ((Chg.of_ext (h.ext.trans hx)).trans ha.chg (fun _ _ h => h)) (fun i hi e => ?_)⟩
  · rcases ha.loc with e | e
    · exact h.own g (e ▸ hg)
    · rw [e] at hg; cases hg; omega
  · have := h.own i e; omega
theorem TiTo.nil (w : World) : TiTo w [] (.slice none 0 0) w := ⟨Row.nil _ _ _, fun g hg => by simp [Value.ownBlock] at hg, Ext.refl _⟩

set_option maxHeartbeats 4000000 in
set_option maxRecDepth 100000 in
theorem own_any (w : World) (a : Option Addr) (n c : Nat) (l : List Ti) (hs : Src w 5 (.slice a n c) n (tis l)) (hn : n ≤ 1099511627776) :
    Calls Try.prog 8 #[.slice a n c] w fun e w' => ∃ oa oc, e = .returned (.slice oa n oc) ∧ Src w' 5 (.slice oa n oc) n (tis l) ∧ Ext w w' := by
  have HS := Lib.hid hs
  have Ln := Lib.hid (tis_src_len hs)
  clear hs
  go_enter Try.func8, Try.ntmps8
  go_wp2_with fail
  go_loopw [4, 3] (fun i s wr => ∃ (j : Nat) (oa : Option Addr) (oc : Nat), j ≤ n ∧ i = .int .i64 j ∧ s = .slice oa j oc ∧ Hid (TiTo w (l.take j) (.slice oa j oc) wr)) (fun i _ _ => n - (RowKit.intOf i).toNat)
  case atStart => exact ⟨0, none, 0, by omega, rfl, rfl, Lib.hid (by simpa using TiTo.nil w)⟩
  case round =>
    obtain ⟨j, oa, oc, hj, rfl, rfl, I⟩ := hrel
    have HLEN : Hid ((l.take j).length = j) := Lib.hid (by rw [List.length_take, Nat.min_eq_left (by rw [Ln.out]; exact hj)])
    have HR : Hid (Row wr 60 5 (.slice oa j oc) j (tis (l.take j))) := Lib.hid (by have h1 := I.out.row; rw [HLEN.out] at h1; exact h1)
    by_cases hlt : j < n
    · obtain ⟨qb, qo, q, rfl, hq, q0, q1, q2, q3, q4⟩ := tis_src (HS.out.ext I.out.ext) hlt
      have HTK := Lib.hid (take_snoc5 hq)
      clear hq
      go_wp2_with (at_builtin; go_must (refine wpList_append_to (m := 1) elem_ti rfl _ _ rfl (v := .slice _ _ _) rfl rfl (HR.out.alloc _) (src_ti' (p := q) (heap_alloc_new _ _)) (by unfold maxLen; omega) (by omega) ?_; intro v' w3 happ); have K := Lib.hid (I.out.snoc ((Ext.refl _).alloc _) (p := q) (by rw [HLEN.out]; exact happ)); obtain ⟨oa', oc', rfl⟩ := happ.row.shape; clear happ)
      go_roundw
      case rel => exact ⟨j + 1, oa', oc', by omega, by go_num, rfl, Lib.hid (by rw [HTK.out]; exact K.out)⟩
      case measure => simp [RowKit.intOf]; omega
    · obtain rfl : j = n := by omega
      have HT : Hid (l.take j = l) := Lib.hid (List.take_of_length_le (by have := Ln.out; omega))
      have HRS : Hid (Src wr 5 (.slice oa j oc) j (tis l)) := Lib.hid (by have h1 := HR.out; rw [HT.out] at h1; exact h1.src (tis_one _))
      have HE := Lib.hid I.out.ext
      clear HR I
      go_wp2_with fail
      go_ret
      exact ⟨oa, oc, rfl, HRS.out, HE.out⟩

end Go.Proofs.Ytpgnkknelaajdaa
