/- manifest.Read: plainly; its head: three numbers and a mark. -/
import Derived.Test.YtgdgjnecgelalaaGreatDoorMrf
import Derived.Test.YtgdgjnecgelalaaGreatDoorFro
import Derived.Test.YtgdgjnecgelalaaGreatDoorMgb
import Derived.Test.YtgdgjnecgelalaaGreatDoorCrb
import Derived.Test.YtgdgjnecgelalaaGreatDoorMka
namespace Go.Proofs.YtgdgjnecgelalaaGreatDoor
open Go.RowKit Go.Sort Go.Lib

def flStp (L : List Fl) (r : Rd) : List Fl × Rd := (L ++ [(rdFl r).1], (rdFl r).2)
def trStp (L : List Tr) (r : Rd) : List Tr × Rd := (L ++ [(rdTr r).1], (rdTr r).2)
/-- A state is read, with its files and tiers. -/
def staTail (x y z : Int) (m : Mk) (r : Rd) : Sta × Rd :=
  (⟨x, y, z, m, (manyR flStp 512 ([], r)).1, (manyR trStp 4 ([], (manyR flStp 512 ([], r)).2)).1⟩, (manyR trStp 4 ([], (manyR flStp 512 ([], r)).2)).2)
def staFrom (r : Rd) : Sta × Rd :=
  staTail (rdNum r).1 (rdNum (rdNum r).2).1 (rdNum (rdNum (rdNum r).2).2).1 (rdMark (rdNum (rdNum (rdNum r).2).2).2).1 (rdMark (rdNum (rdNum (rdNum r).2).2).2).2
def staOk (t : Sta × Rd) : Option Sta := if t.2.bad = true ∨ t.2.l ≠ [] ∨ staR t.1 = false then none else some t.1
/-- What bytes tell: a state, or none. -/
def staRd (l : List UInt8) : Option Sta := if (openR l).2.2 ≠ 0 ∨ (openR l).1 ≠ 7 then none else staOk (staFrom ⟨(openR l).2.1, false⟩)
def staZ : Sta := ⟨0, 0, 0, ⟨false, 0, 0⟩, [], []⟩
/-- What Read leaves. -/
def StaPost (w : World) (o : Option Sta) (e : Ending) (w' : World) : Prop :=
  ∃ fa fn fc ta tn tc, e = .returned (.tuple #[.agg (staC (o.getD staZ) fa fn fc ta tn tc), .int .i64 (if o.isSome = true then 0 else 24)]) ∧ Ext w w' ∧ StIn w' (o.getD staZ) fa fn fc ta tn tc
theorem markR_ok (l : List UInt8) : (markR l).1.ok := by
  have hz : ∀ l, -9223372036854775808 ≤ zag (varR l).1 ∧ zag (varR l).1 ≤ 9223372036854775807 := fun l => by
    have := (varR_bounds l).1
    unfold zag
    split <;> omega
  have hi : ∀ u, -9223372036854775808 ≤ i64n u ∧ i64n u ≤ 9223372036854775807 := fun u => by
    unfold i64n wrap64
    omega
  have h0 : Mk.zero.ok := ⟨by decide, by decide, by decide, by decide⟩
  have hE : ∀ x, (markE x).1.ok := fun x => h0
  have hF : ∀ m k, m.ok → (markIf m k).1.ok := fun m k hm => by
    unfold markIf
    split
    · exact hm
    · exact hE _
  unfold markR
  split
  · exact hE _
  unfold markC
  split
  · exact hE _
  split
  · exact hF _ _ ⟨by simp, by simp, (hi _).1, (hi _).2⟩
  split
  · unfold markD
    split
    · exact hE _
    · exact hF _ _ ⟨(hz _).1, (hz _).2, (hi _).1, (hi _).2⟩
  · exact hE _
theorem sta_info : (Tryz.prog.info? 40).map (·.size) = some 8 := by kernel_rfl

/-- What stands in memory while a state's head is read. -/
structure RH (w5 w0 : World) (p : Nat) (tr ts : TypeId) (r : Rd) (qo : Option Nat) (w : World) : Prop where
  rd : RdAt tr w0 p r w
  chg : Chg (· = p) w5 w
  box : ∀ q, qo = some q → w5.heap.size ≤ q ∧ w.heap[q]? = some (.cells #[.int .i64 0, .int .i64 0, .int .i64 0, .bool false, .int .i64 0, .int .i64 0, .slice none 0 0, .slice none 0 0] ts (0, 0))
  lt : p < w5.heap.size
section
variable {w5 w0 w w1 : World} {p : Nat} {tr ts : TypeId} {r r' : Rd} {qo : Option Nat}
theorem RH.read (h : RH w5 w0 p tr ts r qo w) (hr : RdAt tr w0 p r' w1) (hc : Chg (· = p) w w1) : RH w5 w0 p tr ts r' qo w1 :=
  ⟨hr, h.chg.trans hc (fun _ _ e => e), fun q e => ⟨(h.box q e).1, (hc.block q (block_lt (h.box q e).2) (fun e2 => by have := (h.box q e).1; have := h.lt; omega)).trans (h.box q e).2⟩, h.lt⟩
theorem RH.alloc (h : RH w5 w0 p tr ts r none w) : RH w5 w0 p tr ts r (some w.heap.size) (w.alloc (.cells #[.int .i64 0, .int .i64 0, .int .i64 0, .bool false, .int .i64 0, .int .i64 0, .slice none 0 0, .slice none 0 0] ts (0, 0))) :=
  ⟨h.rd.ext' ((Ext.refl w).alloc _), h.chg.alloc _, fun q e => by
    simp at e
    subst e
    exact ⟨h.chg.size, heap_alloc_new w _⟩, h.lt⟩
end
theorem RH.turned {w5 w0 w : World} {p : Nat} {tr ts : TypeId} {r : Rd} {qo : Option Nat} (h : RH w5 w0 p tr ts r qo w) : ∃ z : Turned, w = turned w5 (fun k => k == p) z.d z.f z.os :=
  turned_of_chg (h.chg.mono (fun _ _ e => by simpa using e))

end Go.Proofs.YtgdgjnecgelalaaGreatDoor

/-! Plain: a sealed frame is opened; one of which bits are turned is none. -/

namespace Go.Proofs.YtgdgjnecgelalaaGreatDoor
open Go.RowKit Go.Sort Go.Lib

theorem openR_seal (k : UInt8) (l : List UInt8) (hl : l.length ≤ 1048576) : openR (sealL k l) = (k, l, 0) := by
  have h1 : lenL (sealL k l) = l.length := by
    unfold lenL sealL headL
    simp only [List.cons_append, List.drop_succ_cons, List.drop_zero, List.append_assoc]
    rw [List.take_left' (le4_len _), leN_le4 (by omega)]
  have h2 := sealL_len k l
  have h3 : (sealL k l).drop ((sealL k l).length - 4) = le4 (csum (headL k l)) := by
    rw [h2]
    unfold sealL
    exact List.drop_left' (by rw [headL_len]; omega)
  have h4 : (sealL k l).take ((sealL k l).length - 4) = headL k l := by
    rw [h2]
    unfold sealL
    exact List.take_left' (by rw [headL_len]; omega)
  unfold openR
  rw [if_neg (by omega), h1, if_neg (by omega), if_neg (by omega), if_neg (by omega), h3, h4, leN_le4 (csum_lt _), if_neg (by simp)]
  have h5 : ((sealL k l).drop 5).take ((sealL k l).length - 9) = l := by
    rw [h2]
    unfold sealL headL
    rw [List.cons_append, List.append_assoc, List.drop_succ_cons, List.drop_left' (le4_len _)]
    exact List.take_left' (by omega)
  rw [h5]
  rfl
/-- Bits that are turned make no frame. -/
theorem openR_turned {k : UInt8} {l : List UInt8} {b p : Nat} (hp : p ≤ 8 * (sealL k l).length) (hb : turnsAny b p (8 * (sealL k l).length)) : (openR (flipL b p (sealL k l))).2.2 ≠ 0 := by
  have hlen := flipL_len b p (sealL k l)
  have h2 := sealL_len k l
  have hs : leN ((flipL b p (sealL k l)).drop ((flipL b p (sealL k l)).length - 4)) ≠ csum ((flipL b p (sealL k l)).take ((flipL b p (sealL k l)).length - 4)) := by
    refine sum_turned (l := headL k l) (t := le4 (csum (headL k l))) (b := b) (p := p) (le4_len _) ?_ (leN_le4 (csum_lt _)) hp hb ?_
    · rw [List.length_drop, hlen, h2]; omega
    · rw [List.take_append_drop]
      rfl
  unfold openR
  split
  · simp
  split
  · simp
  split
  · simp
  split
  · simp
  simp
end Go.Proofs.YtgdgjnecgelalaaGreatDoor

/-! Plain: a state's bytes are read as that state; bytes of which bits are turned are no frame. -/

namespace Go.Proofs.YtgdgjnecgelalaaGreatDoor
open Go.RowKit Go.Sort Go.Lib

theorem rdNum_put {z : Int} (h0 : 0 ≤ z) (h1 : z ≤ 1152921504606846976) (rest : List UInt8) : rdNum ⟨varP (u64n z) ++ rest, false⟩ = (z, ⟨rest, false⟩) := by
  have e := u64n_pos h0 (by omega)
  have hv := varR_put (u64n_lt z) rest
  have hd : decide (1152921504606846976 < u64n z) = false := by simp only [decide_eq_false_iff_not]; omega
  unfold rdNum
  simp only [hv, hd, List.drop_left]
  simp only [bne_self_eq_false, Bool.or_self, Bool.false_eq_true, if_false]
  rw [e, Int.toNat_of_nonneg h0]
theorem rdInt_put {z : Int} (h0 : -9223372036854775808 ≤ z) (h1 : z ≤ 9223372036854775807) (rest : List UInt8) : rdInt ⟨varP (zig z) ++ rest, false⟩ = (z, ⟨rest, false⟩) := by
  have hv := varR_put (i64_zig h0 h1) rest
  unfold rdInt
  simp only [hv, List.drop_left, zag_zig]
  simp
theorem txtR_back {s : ByteArray} (hs : s.size ≤ 64) (rest : List UInt8) : txtR (txtP s ++ rest) 64 = (s.data.toList, (txtP s).length, 0) := by
  have hv : varR (txtP s ++ rest) = (s.size, (varP s.size).length, 0) := by
    unfold txtP
    rw [List.append_assoc]
    exact varR_put (by omega) _
  have hn : s.data.toList.length = s.size := by simp
  unfold txtR
  rw [hv]
  simp only
  rw [if_neg (by simp), if_neg (by omega), if_neg (by simp [txtP])]
  unfold txtP
  rw [List.append_assoc, List.drop_left, ← hn, List.take_left]
  simp
theorem rdText_put {s : ByteArray} (hs : s.size ≤ 64) (rest : List UInt8) : rdText ⟨txtP s ++ rest, false⟩ = (s, ⟨rest, false⟩) := by
  unfold rdText
  simp only [txtR_back hs rest, List.drop_left]
  simp
theorem rdMark_put {m : Mk} (hm : m.ok) (hr : mkR m = true) (rest : List UInt8) : rdMark ⟨markP m ++ rest, false⟩ = (m, ⟨rest, false⟩) := by
  have key : markR (markP m ++ rest) = (m, (markP m).length, 0) := by
    obtain ⟨s, t, g⟩ := m
    have hg := i64n_u64n hm.g0 hm.g1
    have hz := i64_zig hm.t0 hm.t1
    simp only at hg hz
    cases s
    · have e1 : markR (markP ⟨false, t, g⟩ ++ rest) = markIf ⟨false, 0, g⟩ ((varP (u64n g)).length + (varP 0).length) := by
        unfold markR markP
        simp only [Bool.false_eq_true, if_false, List.append_assoc]
        rw [varR_put (u64n_lt g)]
        simp only [ne_eq, not_true, if_false, hg]
        unfold markC
        simp only [List.drop_left']
        rw [varR_put (by decide)]
        simp
      have ht : t = 0 := by simp [mkR] at hr; exact hr.2
      subst ht
      rw [e1]
      unfold markIf
      rw [if_pos hr]
      simp [markP]
    · have e1 : markR (markP ⟨true, t, g⟩ ++ rest) = markIf ⟨true, t, g⟩ ((varP (u64n g)).length + (varP 1).length + (varP (zig t)).length) := by
        unfold markR markP
        simp only [if_true, List.append_assoc]
        rw [varR_put (u64n_lt g)]
        simp only [ne_eq, not_true, if_false, hg]
        unfold markC
        simp only [List.drop_left']
        rw [varR_put (by decide)]
        simp only [ne_eq, not_true, if_false, if_true, Nat.one_ne_zero]
        unfold markD
        rw [← List.append_assoc, List.drop_left' (by rw [List.length_append]), varR_put hz]
        simp only [ne_eq, not_true, if_false, zag_zig]
      rw [e1]
      unfold markIf
      rw [if_pos hr]
      simp [markP]
      omega
  unfold rdMark
  simp only [key, List.drop_left]
  simp
theorem rdFl_put {p : Fl} (h : flR p = true) (rest : List UInt8) : rdFl ⟨filP p ++ rest, false⟩ = (p, ⟨rest, false⟩) := by
  obtain ⟨h1, ⟨h2, h3⟩, ⟨h4, h5⟩, h6, h7⟩ := flR_parts h
  obtain ⟨nm, a, b, k⟩ := p
  simp only at h1 h2 h3 h4 h5 h6 h7
  unfold filP rdFl
  simp only [List.append_assoc]
  rw [rdText_put h1, rdInt_put (by omega) (by omega), rdInt_put (by omega) (by omega), rdNum_put (by omega) (by omega)]
theorem trR_zero {p : Tr} (h : trR p = true) (hm : p.m = false) : p.u = 0 ∧ p.f = ⟨#[]⟩ := by
  obtain ⟨d, q, u, m, f⟩ := p
  simp only at hm
  subst hm
  simp [trR] at h
  have hf : f = ⟨#[]⟩ := by
    apply ByteArray.ext
    have : f.data.size = 0 := by simp_all
    exact Array.eq_empty_of_size_eq_zero this
  exact ⟨h.2.1, hf⟩
theorem rdTr_put {p : Tr} (h : trR p = true) (rest : List UInt8) : rdTr ⟨tirP p ++ rest, false⟩ = (p, ⟨rest, false⟩) := by
  obtain ⟨h1, h2, h3, h4, h5⟩ := trR_parts h
  have hz := trR_zero h
  obtain ⟨d, q, u, m, f⟩ := p
  simp only at h1 h2 h3 h4 h5 hz
  unfold tirP rdTr
  simp only [List.append_assoc]
  rw [rdNum_put (by omega) (by omega), rdNum_put (by omega) (by omega)]
  cases m
  · obtain ⟨rfl, rfl⟩ := hz rfl
    simp only [Bool.false_eq_true, if_false]
    rw [rdNum_put (by omega) (by omega)]
    simp [rdTrM, rdOver]
  · obtain ⟨h6, h7, h8⟩ := h5 rfl
    simp only [if_true, List.append_assoc]
    rw [rdNum_put (by omega) (by omega)]
    simp only [rdTrM, rdOver, if_true]
    rw [show (false || decide ((1 : Int) < 1)) = false by decide, rdInt_put (by omega) (by omega), rdText_put h6]
theorem loopF_put (L : List Fl) (hL : ∀ p ∈ L, flR p = true) (rest : List UInt8) : ∀ k, k ≤ L.length → loopR flStp k ([], ⟨L.flatMap filP ++ rest, false⟩) = (L.take k, ⟨(L.drop k).flatMap filP ++ rest, false⟩)
  | 0, _ => by simp [loopR]
  | k + 1, hk => by
    have ih := loopF_put L hL rest k (by omega)
    have hk' : k < L.length := by omega
    show (if _ then _ else _) = _
    rw [ih, if_neg (by simp)]
    simp only [flStp]
    rw [List.drop_eq_getElem_cons hk', List.flatMap_cons, List.append_assoc, rdFl_put (hL _ (List.getElem_mem hk')), List.take_add_one, List.getElem?_eq_getElem hk']
    rfl
theorem loopT_put (L : List Tr) (hL : ∀ p ∈ L, trR p = true) (rest : List UInt8) : ∀ k, k ≤ L.length → loopR trStp k ([], ⟨L.flatMap tirP ++ rest, false⟩) = (L.take k, ⟨(L.drop k).flatMap tirP ++ rest, false⟩)
  | 0, _ => by simp [loopR]
  | k + 1, hk => by
    have ih := loopT_put L hL rest k (by omega)
    have hk' : k < L.length := by omega
    show (if _ then _ else _) = _
    rw [ih, if_neg (by simp)]
    simp only [trStp]
    rw [List.drop_eq_getElem_cons hk', List.flatMap_cons, List.append_assoc, rdTr_put (hL _ (List.getElem_mem hk')), List.take_add_one, List.getElem?_eq_getElem hk']
    rfl
theorem manyF_put (L : List Fl) (hL : ∀ p ∈ L, flR p = true) (hn : L.length ≤ 512) (rest : List UInt8) : manyR flStp 512 ([], ⟨varP (u64n (L.length : Int)) ++ (L.flatMap filP ++ rest), false⟩) = (L, ⟨rest, false⟩) := by
  unfold manyR
  simp only
  rw [rdNum_put (by omega) (by omega)]
  simp only
  rw [show (false || decide (((512 : Nat) : Int) < (L.length : Int))) = false by simp; omega, Int.toNat_natCast, loopF_put L hL rest L.length (Nat.le_refl _)]
  simp
theorem manyT_put (L : List Tr) (hL : ∀ p ∈ L, trR p = true) (hn : L.length ≤ 4) (rest : List UInt8) : manyR trStp 4 ([], ⟨varP (u64n (L.length : Int)) ++ (L.flatMap tirP ++ rest), false⟩) = (L, ⟨rest, false⟩) := by
  unfold manyR
  simp only
  rw [rdNum_put (by omega) (by omega)]
  simp only
  rw [show (false || decide (((4 : Nat) : Int) < (L.length : Int))) = false by simp; omega, Int.toNat_natCast, loopT_put L hL rest L.length (Nat.le_refl _)]
  simp
theorem staFrom_put {s : Sta} (h : staR s = true) (hm : s.km.ok) : staFrom ⟨staP s, false⟩ = (s, ⟨[], false⟩) := by
  have hp := staR_parts h
  have hb : mkR s.km = true ∧ (0 ≤ s.x ∧ s.x ≤ 1152921504606846976) ∧ (0 ≤ s.r ∧ s.r ≤ 1152921504606846976) ∧ (0 ≤ s.q ∧ s.q ≤ 1152921504606846976) := by
    simp only [staR, staB, Bool.and_eq_true] at h
    have h1 := h.1.1.1.1
    simp only [z60, inB, Bool.and_eq_true, decide_eq_true_eq] at h1
    exact ⟨h1.1, h1.2.1, h1.2.2.1, h1.2.2.2⟩
  obtain ⟨x, r, q, km, fl, ti⟩ := s
  obtain ⟨hk, hx, hr, hq⟩ := hb
  obtain ⟨hf, ht, hfl, hti⟩ := hp
  simp only at *
  unfold staFrom staP
  simp only [List.append_assoc]
  rw [rdNum_put hx.1 hx.2, rdNum_put hr.1 hr.2, rdNum_put hq.1 hq.2, rdMark_put hm hk]
  unfold staTail
  simp only
  rw [manyF_put fl hfl hf]
  simp only
  have := manyT_put ti hti ht []
  rw [List.append_nil] at this
  rw [this]
/-- A right state's bytes are read as that state. -/
theorem staRd_seal {s : Sta} (h : staR s = true) (hm : s.km.ok) (hl : (staP s).length ≤ 1048576) : staRd (sealL 7 (staP s)) = some s := by
  unfold staRd
  rw [openR_seal 7 _ hl]
  simp only [ne_eq, not_true, or_self, if_false]
  rw [staFrom_put h hm]
  simp [staOk, h]
theorem staP_len {s : Sta} (h : staR s = true) (hm : s.km.ok) : (staP s).length ≤ 60000 := by
  obtain ⟨hf, ht, hfl, hti⟩ := staR_parts h
  have hF : ∀ (L : List Fl), (∀ p ∈ L, flR p = true) → (L.flatMap filP).length ≤ 104 * L.length := by
    intro L
    induction L with
    | nil => simp
    | cons p L ih =>
      intro h
      have h1 := filP_len (h p (by simp))
      have h2 := ih (fun q hq => h q (by simp [hq]))
      simp only [List.flatMap_cons, List.length_append, List.length_cons]
      omega
  have hT : ∀ (L : List Tr), (∀ p ∈ L, trR p = true) → (L.flatMap tirP).length ≤ 114 * L.length := by
    intro L
    induction L with
    | nil => simp
    | cons p L ih =>
      intro h
      have h1 := tirP_len (h p (by simp))
      have h2 := ih (fun q hq => h q (by simp [hq]))
      simp only [List.flatMap_cons, List.length_append, List.length_cons]
      omega
  have h1 := hF s.fl hfl
  have h2 := hT s.ti hti
  have h3 := varP_10 (u64n_lt s.x)
  have h4 := varP_10 (u64n_lt s.r)
  have h5 := varP_10 (u64n_lt s.q)
  have h6 := markP_len hm
  have h7 := varP_10 (u64n_lt (s.fl.length : Int))
  have h8 := varP_10 (u64n_lt (s.ti.length : Int))
  unfold staP
  simp only [List.length_append]
  omega
end Go.Proofs.YtgdgjnecgelalaaGreatDoor
