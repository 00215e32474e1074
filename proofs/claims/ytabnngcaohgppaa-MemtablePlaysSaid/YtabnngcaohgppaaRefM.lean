/- tidemillref15.Merge. -/
import Derived.Test.YtabnngcaohgppaaRef15
namespace Go.Proofs.Ytabnngcaohgppaa
open Go.RowKit Go.Sort Go.Lib

/-- What the document's Merge leaves. -/
def RefMerged (w : World) (ls : List (List Pt)) (e : Ending) (w' : World) : Prop :=
  Ext w w' ∧ (((∀ l ∈ ls, Rises l) ∧ ∃ (va : Option Addr) (vc : Nat) (out : List Pt), e = .returned (.tuple #[.slice va out.length vc, .int .i64 0]) ∧ CutTo w out (.slice va out.length vc) w' ∧ IsMerge ls out ∧ out.length ≤ (ls.map List.length).sum) ∨
    ((¬ ∀ l ∈ ls, Rises l) ∧ e = .returned (.tuple #[.slice none 0 0, .int .i64 2])))

def RefRel (w : World) (n : Nat) (ls : List Sl) (s4 s5 : Value) (wr : World) : Prop := ∃ (k on : Nat) (oa : Option Addr) (oc : Nat) (out : List Pt), s4 = .slice oa on oc ∧ s5 = .int .i64 k ∧ k ≤ n ∧ on ≤ totS ls ∧
  Hid (on = out.length ∧ CutTo w out (.slice oa on oc) wr ∧ IsMerge ((ls.take k).map Sl.l) out ∧ (∀ x ∈ ls.take k, Rises x.l) ∧ out.length ≤ totS (ls.take k))

def TwoSaid (w : World) (l k : List Pt) (N : Nat) (e : Ending) (w' : World) : Prop := ∃ v out, e = .returned v ∧ CutTo w out v w' ∧ IsMerge [l, k] out ∧ out.length ≤ N

set_option maxHeartbeats 4000000 in
set_option maxRecDepth 100000 in
theorem refMerge_any (w : World) (a : Option Addr) (n c : Nat) (ls : List Sl) (hs : Src w 1 (.slice a n c) n (ls.map Sl.v)) (hok : ∀ x ∈ ls, x.Ok w) (hN : n + totS ls < 4000) :
    Calls Try.prog 32 #[.slice a n c] w (RefMerged w (ls.map Sl.l)) := by
  have HS := Lib.hid hs
  have HO := Lib.hid hok
  have HLn := Lib.hid (lists_len hs)
  clear hs hok
  go_enter Try.func32, Try.ntmps32
  go_wp2_with fail
  go_loopw [4, 5] (fun s4 s5 wr => RefRel w n ls s4 s5 wr) (fun _ s5 _ => n - (intOf s5).toNat)
  case atStart => exact ⟨0, 0, none, 0, [], rfl, rfl, by omega, by omega, Lib.hid ⟨rfl, CutTo.nil _, by simpa using IsMerge.nil, by simp, by simp⟩⟩
  case round =>
    obtain ⟨k, on, oa, oc, out, rfl, rfl, hk, hon, I⟩ := hrel
    by_cases hlt : k < n
    · obtain ⟨lb, lo, x, rfl, hxi, l0⟩ := lists_src (HS.out.ext I.out.2.1.ext) hlt
      have XI := Lib.hid hxi
      have HT := Lib.hid (take_snoc' hxi)
      have XO := Lib.hid ((HO.out x (List.mem_of_getElem? hxi)).ext I.out.2.1.ext)
      have HXL := Lib.hid (src_len XO.out.1)
      have hxn : x.n < 4000 := by
        have h1 := le_totS (List.mem_of_getElem? hxi)
        have h2 := HXL.out
        omega
      have lw := World.block_lt_of_cell? wr _ l0
      clear hxi
      go_wp2_with fail
      refine (rrising_any wr x.a x.n x.c x.l XO.out.1 (by omega)).mono ?_
      rintro e w1 ⟨rfl, hx1⟩
      have HX1 := Lib.hid hx1; clear hx1
      cases hr : risesB x.l
      · have HR : Hid (¬ ∀ l ∈ ls.map Sl.l, Rises l) := Lib.hid (fun h => by
          have := h x.l (List.mem_map.2 ⟨x, List.mem_of_getElem? XI.out, rfl⟩)
          rw [← rises_iff, hr] at this; cases this)
        clear hr
        go_wp2_with fail
        go_ret2
        exact ⟨I.out.2.1.ext.trans HX1.out, .inr ⟨HR.out, rfl⟩⟩
      · have HR : Hid (Rises x.l) := Lib.hid ((rises_iff _).1 hr)
        clear hr
        replace l0 := (HX1.out.cell (p := ⟨lb, lo + k, none⟩) lw).trans l0
        go_wp2_with fail
        have hsr := row_src (I.out.2.1.row.ext HX1.out)
        rw [← I.out.1] at hsr
        refine (two_any w1 oa x.a on oc x.n x.c out x.l hsr (XO.out.1.ext HX1.out) (by omega) I.out.2.2.1.rises HR.out).mono ?_
        rintro e w2 h2
        replace h2 : TwoSaid w1 out x.l (on + x.n) e w2 := h2
        obtain ⟨v2, o2, rfl, hc2, hm2, hl2⟩ := h2
        obtain ⟨va, vc, rfl⟩ := hc2.row.shape
        have K : Hid (CutTo w o2 (.slice va o2.length vc) w2) := Lib.hid ⟨hc2.row, fun g hg => Nat.le_trans (I.out.2.1.ext.trans HX1.out).size (hc2.own g hg), (I.out.2.1.ext.trans HX1.out).trans hc2.ext⟩
        have M2 := Lib.hid hm2; have L2 := Lib.hid hl2
        clear hc2 hm2 hl2 hsr l0
        go_wp2_with fail
        go_roundw
        case rel =>
          have e1 : ls.take (k + 1) = ls.take k ++ [x] := HT.out
          have hlen : o2.length ≤ totS (ls.take (k + 1)) := by
            have h1 := L2.out; have h2 := I.out.1; have h3 := I.out.2.2.2.2; have h4 := HXL.out
            rw [e1, totS_append]; simp [totS] at h3 ⊢; omega
          refine ⟨k + 1, o2.length, va, vc, o2, rfl, by go_num, by omega, by have := totS_take_le ls (k + 1); omega, Lib.hid ⟨rfl, K.out, ?_, ?_, hlen⟩⟩
          · rw [e1, List.map_append]
            exact IsMerge.append I.out.2.2.1 (IsMerge.single HR.out) M2.out
          · rw [e1]; intro y hy
            rcases List.mem_append.1 hy with hy | hy
            · exact I.out.2.2.2.1 y hy
            · simp at hy; subst hy; exact HR.out
        case measure => simp [intOf]; omega
    · obtain rfl : k = n := by omega
      have hall : ls.take k = ls := List.take_of_length_le (by rw [HLn.out]; exact Nat.le_refl _)
      have HA := Lib.hid hall; clear hall
      go_wp2_with fail
      go_ret2
      obtain ⟨h1, h2, h3, h4, h5⟩ := I.out
      rw [HA.out] at h3 h4 h5
      subst h1
      exact ⟨h2.ext, .inl ⟨fun l hl => by obtain ⟨x, hx, rfl⟩ := List.mem_map.1 hl; exact h4 x hx, oa, oc, out, rfl, h2, h3, by rw [totS_map]; exact h5⟩⟩

end Go.Proofs.Ytabnngcaohgppaa
