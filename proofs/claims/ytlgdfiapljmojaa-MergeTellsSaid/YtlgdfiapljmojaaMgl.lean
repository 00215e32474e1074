/- Slices of slices of points, read; and tidemilllaw15.few. -/
import Derived.Test.YtlgdfiapljmojaaMg5
import Derived.Test.YtlgdfiapljmojaaPtc
import Derived.Test.YtlgdfiapljmojaaOpl
namespace Go.Proofs.Ytlgdfiapljmojaa
open Go.RowKit Go.Sort Go.Lib Go.ChangeShapes Go.WideShapes Go.Deep

def FewSaid (w : World) (N : Nat) (e : Ending) (w' : World) : Prop := ∃ b, e = .returned (.bool b) ∧ w = w' ∧ (b = true → N < 2000)

set_option maxHeartbeats 2000000 in
set_option maxRecDepth 100000 in
theorem few_any (w : World) (a : Option Addr) (n c : Nat) (ls : List Sl) (hs : Src w 1 (.slice a n c) n (ls.map Sl.v)) (hok : ∀ x ∈ ls, x.Ok w ∧ x.n ≤ 1099511627776000) (hn : n ≤ 1099511627776000) :
    Calls Try.prog 7 #[.slice a n c] w (FewSaid w (n + totS ls)) := by
  have HS := Lib.hid hs
  have HO := Lib.hid hok
  have HLn := Lib.hid (lists_len hs)
  clear hs hok
  go_enter Try.func7, Try.ntmps7
  go_wp2_with fail
  go_loop [3, 4] (fun s3 s4 => ∃ (k z : Nat), s3 = .int .i64 z ∧ s4 = .int .i64 k ∧ k ≤ n ∧ z ≤ 2199023255554000 ∧ Hid (z = n + totS (ls.take k) ∨ 2000 ≤ z)) (fun _ s4 => n - (intOf s4).toNat)
  case atStart => exact ⟨0, n, rfl, rfl, by omega, by omega, Lib.hid (.inl (by simp [totS]))⟩
  case round =>
    obtain ⟨k, z, rfl, rfl, hk, hz, I⟩ := hrel
    by_cases hlt : k < n
    · by_cases hz2 : z < 2000
      · obtain ⟨b, off, x, rfl, hx, hc⟩ := lists_src HS.out hlt
        have HT := Lib.hid (take_snoc' hx)
        have hxn : x.n ≤ 1099511627776000 := (HO.out x (List.mem_of_getElem? hx)).2
        have HXL := Lib.hid (src_len (HO.out x (List.mem_of_getElem? hx)).1.1)
        clear hx
        go_wp2_with fail
        go_round
        case rel =>
          refine ⟨k + 1, z + x.n, by go_num, by go_num, by omega, by omega, Lib.hid (.inl ?_)⟩
          rcases I.out with h | h
          · rw [HT.out, totS_append, h]
            have := HXL.out
            simp [totS]; omega
          · omega
        case measure => simp [intOf]; omega
      · go_wp2_with fail
        go_ret
        refine ⟨_, rfl, rfl, fun h => ?_⟩
        simp at h; omega
    · have HF : Hid (ls.take k = ls) := Lib.hid (List.take_of_length_le (by rw [HLn.out]; omega))
      go_wp2_with fail
      go_ret
      refine ⟨_, rfl, rfl, fun h => ?_⟩
      have h' : z < 2000 := by simp at h; omega
      have hI := I.out
      rw [HF.out] at hI
      omega

/-- Merge's answer in parts. -/
theorem Merged.parts {w w' : World} {ls : List (List Pt)} {e : Ending} (h : Merged w ls e w') : Ext w w' ∧ ∃ (va : Option Addr) (vn vc : Nat) (ve : Int), e = .returned (.tuple #[.slice va vn vc, .int .i64 ve]) ∧
    ((ve = 0 ∧ (∀ l ∈ ls, Rises l) ∧ ∃ out : List Pt, vn = out.length ∧ Row w' 26 3 (.slice va out.length vc) out.length (pts out) ∧ (∀ g, (Value.slice va out.length vc).ownBlock = some g → w.heap.size ≤ g) ∧ IsMerge ls out ∧ out.length ≤ (ls.map List.length).sum) ∨ (ve = 2 ∧ vn = 0 ∧ va = none ∧ vc = 0 ∧ ¬ ∀ l ∈ ls, Rises l)) := by
  obtain ⟨hx, ⟨h1, v, out, he, hrow, h2, h3, h4⟩ | ⟨hn, he⟩⟩ := h
  · obtain ⟨a, c, rfl⟩ := hrow.shape
    exact ⟨hx, a, _, c, 0, he, .inl ⟨rfl, h1, out, rfl, hrow, h2, h3, h4⟩⟩
  · exact ⟨hx, none, 0, 0, 2, he, .inr ⟨rfl, rfl, rfl, rfl, hn⟩⟩

/-- One list alone. -/
theorem merged_one {w w' : World} {l : List Pt} (hr : Rises l) {e : Ending} (h : Merged w [l] e w') : Ext w w' ∧ ∃ a c, e = .returned (.tuple #[.slice a l.length c, .int .i64 0]) ∧ Row w' 26 3 (.slice a l.length c) l.length (pts l) := by
  obtain ⟨hx, ⟨_, v, out, he, hrow, _, hm, _⟩ | ⟨hn, _⟩⟩ := h
  · have : out = l := hm.unique (by simpa using hr) (IsMerge.single hr)
    subst this
    obtain ⟨a, c, rfl⟩ := hrow.shape
    exact ⟨hx, a, c, he, hrow⟩
  · exact absurd (by simpa using hr) hn

end Go.Proofs.Ytlgdfiapljmojaa
