/- The document's answers: tidemillref12.Find, Put. -/
import Derived.Test.YtafaagkhgdggbaaDoorRfn
import Derived.Test.YtafaagkhgdggbaaDoorTxt
import Derived.Test.YtafaagkhgdggbaaDoorApp
namespace Go.Proofs.YtafaagkhgdggbaaDoor
open Go.RowKit Go.Sort Go.Lib

/-- A name's number, or -1. -/
def findZ (l : List ByteArray) (s : ByteArray) : Int := if s ∈ l then (l.idxOf s : Nat) else -1
theorem findZ_at {l : List ByteArray} {s : ByteArray} {k : Nat} (h : l[k]? = some s) (hn : s ∉ l.take k) : findZ l s = (k : Int) := by
  have hm : s ∈ l := List.mem_of_getElem? h
  rw [findZ, if_pos hm]
  have h1 : l = l.take k ++ s :: l.drop (k + 1) := by
    obtain ⟨hk, rfl⟩ := List.getElem?_eq_some_iff.1 h
    rw [List.getElem_cons_drop, List.take_append_drop]
  have h2 : l.idxOf s = k := by
    rw [h1, List.idxOf_append, if_neg hn, List.idxOf_cons_self, List.length_take]
    have := (List.getElem?_eq_some_iff.1 h).1
    omega
  rw [h2]
theorem findZ_no {l : List ByteArray} {s : ByteArray} (h : s ∉ l) : findZ l s = -1 := by rw [findZ, if_neg h]

set_option maxHeartbeats 2000000 in
theorem refFind_any (w : World) (a : Option Addr) (n c : Nat) (l : List ByteArray) (s : ByteArray) (hs : Src w 1 (.slice a n c) n (strs l)) (hn : n ≤ 8796093022208) :
    Calls Tryd.prog 22 #[.slice a n c, .string s] w fun e w' => e = .returned (.int .i64 (findZ l s)) ∧ w = w' := by
  have HS := Lib.hid hs
  have LN := Lib.hid (strs_src_len hs)
  clear hs
  go_enter Tryd.func22, Tryd.ntmps22
  go_wp2_with fail
  go_loop [5] (fun i => ∃ k : Nat, k ≤ n ∧ i = .int .i64 k ∧ Hid (s ∉ l.take k)) (fun i => n - (RowKit.intOf i).toNat)
  case atStart => exact ⟨0, by omega, rfl, Lib.hid (by simp)⟩
  case round =>
    obtain ⟨k, hk, rfl, HI⟩ := hrel
    by_cases hlt : k < n
    · obtain ⟨b1, o1, x, rfl, hx, c1⟩ := strs_src HS.out hlt
      by_cases hxs : x = s
      · subst hxs
        have HF := Lib.hid (findZ_at hx HI.out)
        have he : (x.toList == x.toList) = true := by rw [same_eq]; simp
        clear hx
        go_wp2_with fail
        go_ret
        rw [HF.out]
        exact ⟨rfl, rfl⟩
      · have HF : Hid (s ∉ l.take (k + 1)) := Lib.hid (by
          rw [List.take_add_one, hx]
          simp only [List.mem_append, Option.toList_some, List.mem_singleton, not_or]
          exact ⟨HI.out, fun e => hxs e.symm⟩)
        have he : (x.toList == s.toList) = false := by rw [same_eq]; simpa using hxs
        clear hx hxs
        go_wp2_with fail
        go_round
        case rel => exact ⟨k + 1, by omega, by go_num, HF⟩
        case measure => simp [RowKit.intOf]; omega
    · have HF : Hid (findZ l s = -1) := Lib.hid (findZ_no (by have h := HI.out; rwa [List.take_of_length_le (by have := LN.out; omega)] at h))
      go_wp2_with fail
      go_ret
      rw [HF.out]
      exact ⟨rfl, rfl⟩

/-- A slice of strings behind a call: as it was, or made by the call. -/
structure Texts (w : World) (l : List ByteArray) (v0 v : Value) (w' : World) : Prop where
  src : Src w' 1 v l.length (strs l)
  own : v = v0 ∨ ∀ g, v.ownBlock = some g → w.heap.size ≤ g
  ext : Ext w w'

theorem put_parts (l : List ByteArray) (s : ByteArray) :
    (validL (bl s) = false ∧ putTells l s = (0, 2) ∧ putNames l s = l) ∨ (validL (bl s) = true ∧ s ∈ l ∧ putTells l s = (findZ l s, 0) ∧ putNames l s = l ∧ 0 ≤ findZ l s) ∨
    (validL (bl s) = true ∧ s ∉ l ∧ findZ l s = -1 ∧ ((1024 ≤ l.length ∧ putTells l s = (0, 15) ∧ putNames l s = l) ∨ (l.length < 1024 ∧ putTells l s = ((l.length : Int), 0) ∧ putNames l s = l ++ [s]))) := by
  have e : validL s.data.toList = validL (bl s) := rfl
  cases hv : validL (bl s)
  · exact .inl ⟨rfl, by simp [putTells, e, hv], by simp [putNames, e, hv]⟩
  · by_cases hm : s ∈ l
    · exact .inr (.inl ⟨rfl, hm, by simp [putTells, findZ, e, hv, hm], by simp [putNames, hm], by rw [findZ, if_pos hm]; omega⟩)
    · refine .inr (.inr ⟨rfl, hm, findZ_no hm, ?_⟩)
      by_cases hf : 1024 ≤ l.length
      · exact .inl ⟨hf, by simp [putTells, e, hv, hm, hf], by simp [putNames, hf]⟩
      · exact .inr ⟨by omega, by simp [putTells, e, hv, hm, hf], by simp [putNames, e, hv, hm]; omega⟩

set_option maxHeartbeats 4000000 in
set_option maxRecDepth 100000 in
theorem refPut_any (w : World) (a : Option Addr) (n c : Nat) (l : List ByteArray) (s : ByteArray) (hs : Src w 1 (.slice a n c) n (strs l)) (hn : n ≤ 8796093022208) (hz : s.size ≤ maxLen) :
    Calls Tryd.prog 11 #[.slice a n c, .string s] w fun e w' => ∃ v, e = .returned (.tuple #[v, .int .i64 (putTells l s).1, .int .i64 (putTells l s).2]) ∧ Texts w (putNames l s) (.slice a n c) v w' := by
  have HS := Lib.hid hs
  have LN := Lib.hid (strs_src_len hs)
  have HT : Hid (Texts w l (.slice a n c) (.slice a n c) w) := Lib.hid ⟨by rw [strs_src_len hs]; exact hs, .inl rfl, Ext.refl w⟩
  clear hs
  rcases put_parts l s with ⟨hv, ht, hp⟩ | ⟨hv, hm, ht, hp, hf⟩ | ⟨hv, hm, hf, ⟨hl, ht, hp⟩ | ⟨hl, ht, hp⟩⟩
  · rw [ht, hp]
    have HV := Lib.hid hv
    clear ht hp hv
    go_enter Tryd.func11, Tryd.ntmps11
    go_wp2_with fail
    refine (refName_any s _ hz).mono ?_
    rintro e w' ⟨rfl, rfl⟩
    rw [show validL s.data.toList = false from HV.out]
    go_wp2_with fail
    go_ret3
    exact ⟨_, rfl, HT.out⟩
  · rw [ht, hp]
    have HV := Lib.hid hv
    clear ht hp hv hm
    go_enter Tryd.func11, Tryd.ntmps11
    go_wp2_with fail
    refine (refName_any s _ hz).mono ?_
    rintro e w' ⟨rfl, rfl⟩
    rw [show validL s.data.toList = true from HV.out]
    go_wp2_with fail
    refine (refFind_any _ _ _ _ _ _ HS.out hn).mono ?_
    rintro e w' ⟨rfl, rfl⟩
    go_wp2_with fail
    go_ret3
    exact ⟨_, rfl, HT.out⟩
  · rw [ht, hp]
    have HV := Lib.hid hv
    have HF := Lib.hid hf
    have hl' : 1024 ≤ (n : Int) := by have := LN.out; omega
    clear ht hp hv hm hf
    go_enter Tryd.func11, Tryd.ntmps11
    go_wp2_with fail
    refine (refName_any s _ hz).mono ?_
    rintro e w' ⟨rfl, rfl⟩
    rw [show validL s.data.toList = true from HV.out]
    go_wp2_with fail
    refine (refFind_any _ _ _ _ _ _ HS.out hn).mono ?_
    rintro e w' ⟨rfl, rfl⟩
    rw [HF.out]
    go_wp2_with fail
    go_ret3
    exact ⟨_, rfl, HT.out⟩
  · rw [ht, hp]
    have HV := Lib.hid hv
    have HF := Lib.hid hf
    have hl' : ¬ 1024 ≤ (n : Int) := by have := LN.out; omega
    clear ht hp hv hm hf
    go_enter Tryd.func11, Tryd.ntmps11
    go_wp2_with fail
    refine (refName_any s _ hz).mono ?_
    rintro e w' ⟨rfl, rfl⟩
    rw [show validL s.data.toList = true from HV.out]
    go_wp2_with fail
    refine (refFind_any _ _ _ _ _ _ HS.out hn).mono ?_
    rintro e w' ⟨rfl, rfl⟩
    rw [HF.out]
    have hlen : n ≤ 1023 := by have := LN.out; omega
    have tok1 : True := trivial
    go_wp2_with (first
      | (at_builtin; have _t := tok1; refine wpList_append_to (n := 0) (m := n) elem_str rfl _ _ rfl (v := .slice _ _ _) rfl rfl (row_made (heap_alloc_new _ _) 1) (HS.out.ext ((Ext.refl _).alloc _)) (by unfold maxLen; omega) (by omega) ?_; intro v1 w2 happ; clear tok1 _t; rw [Nat.zero_add, List.nil_append] at happ; obtain ⟨a1, c1, rfl⟩ := happ.row.shape; have A1 := Lib.hid happ; clear happ)
      | (at_builtin; go_must (refine wpList_append_to (n := n) (m := 1) elem_str rfl _ _ rfl (v := .slice _ _ _) rfl rfl (A1.out.row.alloc _) (src_str' (heap_alloc_new _ _)) (by unfold maxLen; omega) (by omega) ?_; intro v2 w3 happ; have A2 := Lib.hid happ; clear happ)))
    go_ret3
    have hx1 : Ext w w2 := Chg.ext ((Chg.of_ext ((Ext.refl w).alloc _)).trans A1.out.chg (fun _ _ h => h)) (fun i hi e => by simp [Value.ownBlock] at e; omega)
    have ho1 : ∀ g, (Value.slice a1 n c1).ownBlock = some g → w.heap.size ≤ g := fun g hg => by
      rcases A1.out.loc with e | e
      · rw [e] at hg; simp [Value.ownBlock] at hg; omega
      · rw [e] at hg; simp at hg; omega
    have hx2 : Ext w w3 := Chg.ext ((Chg.of_ext (hx1.alloc _)).trans A2.out.chg (fun _ _ h => h)) (fun i hi e => by have := ho1 i e; omega)
    refine ⟨v2, by rw [LN.out]; rfl, ?_, .inr (fun g hg => ?_), hx2⟩
    · have := A2.out.row.src (fun u hu => by simp [strs] at hu; rcases hu with ⟨s, _, rfl⟩ | rfl <;> rfl)
      rw [List.length_append, LN.out, List.length_singleton]
      simpa [strs] using this
    · rcases A2.out.loc with e | e
      · rw [e] at hg; exact ho1 g hg
      · rw [e] at hg; have := hx1.size; simp at hg; omega
end Go.Proofs.YtafaagkhgdggbaaDoor
