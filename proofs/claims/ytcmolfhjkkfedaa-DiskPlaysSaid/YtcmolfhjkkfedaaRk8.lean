/- The document's disk: New, Read, List. -/
import Derived.Test.YtcmolfhjkkfedaaRk7
namespace Go.Proofs.Ytcmolfhjkkfedaa
open Go.RowKit Go.Sort Go.Lib

theorem rk_new {room : Int} (h0 : 0 ≤ room) (h1 : room ≤ 1073741824) (w : World) :
    Calls Try.prog 5 #[.int .i64 room] w fun e w' => e = .returned (.tuple #[.pointer (some ⟨w.heap.size, 0, none⟩), .int .i64 0]) ∧ RkAt w' w.heap.size (newDisk room) [w.heap.size] ∧ Ext w w' := by
  have g0 : ¬ room < 0 := by omega
  have g1 : ¬ 1073741824 < room := by omega
  go_enter Try.func5, Try.ntmps5
  go_wp2
  go_ret2
  refine ⟨by simp, ⟨[], none, 0, ⟨?_, Row.nil _ _ _, by simp, fun g hg => by simp [Value.ownBlock] at hg⟩, ⟨List.Perm.refl _, List.Pairwise.nil⟩, rfl, rfl⟩, (Ext.refl _).alloc _⟩
  exact heap_alloc_new w _
theorem rk_new_bad {room : Int} (h : room < 0 ∨ 1073741824 < room) (w : World) :
    Calls Try.prog 5 #[.int .i64 room] w fun e w' => e = .returned (.tuple #[.pointer none, .int .i64 2]) ∧ w = w' := by
  by_cases g : room < 0
  · go_enter Try.func5, Try.ntmps5
    go_wp2
    go_ret2
    exact ⟨rfl, rfl⟩
  · have g1 : 1073741824 < room := by omega
    clear h
    go_enter Try.func5, Try.ntmps5
    go_wp2
    go_ret2
    exact ⟨rfl, rfl⟩

def RkReadPost (w : World) (F : Fs) (name : ByteArray) (e : Ending) (w' : World) : Prop := match aget F name with
  | none => e = .returned (.tuple #[.slice none 0 0, .int .i64 13]) ∧ w = w'
  | some f => ReadPost w f.bytes e w'

set_option maxHeartbeats 4000000 in
set_option maxRecDepth 100000 in
theorem rk_read {w : World} {rd : Nat} {S : DiskS} {B : List Nat} (ok : S.Ok) (h : RkAt w rd S B) (name : ByteArray) :
    Calls Try.prog 24 #[.pointer (some ⟨rd, 0, none⟩), .string name] w (RkReadPost w S.files name) := by
  obtain ⟨F, room, used, left, ops⟩ := S
  obtain ⟨L, la, lc, h1, h2, h3, rfl⟩ := h
  simp only at h1 h2 h3 ⊢
  have hlen : L.length ≤ 512 := by have : F.length ≤ 512 := ok.few; have := h2.len; rw [rdata_len] at this; omega
  have HSM : Hid (∀ x ∈ L, x.bs.length ≤ 1048576) := Lib.hid (fun x hx => by
    have hm : (x.nm, x.fs) ∈ F := h2.perm.subset (List.mem_map.2 ⟨x, hx, rfl⟩)
    exact ok.small _ hm)
  have H := Lib.hid h1
  have HF := Lib.hid h2
  clear h1 h2 h3 ok
  go_enter Try.func24, Try.ntmps24
  go_wp2_with fail
  refine (rk_find H.out (by omega) name).mono ?_
  rintro e w' ⟨kk, rfl, hf, rfl⟩
  rcases hf with ⟨rfl, hno⟩ | ⟨k, x, rfl, hq, hqn⟩
  · have hn : aget F name = none := HF.out.none (fun p hp => by
      obtain ⟨f, hf, rfl⟩ := List.mem_map.1 hp
      exact hno f hf)
    have HN := Lib.hid hn
    clear hno hn
    go_wp2_with fail
    go_ret2
    unfold RkReadPost
    rw [HN.out]
    exact ⟨rfl, rfl⟩
  · subst hqn
    have hkl : k < L.length := (List.getElem?_eq_some_iff.1 hq).1
    have hget : aget F x.nm = some x.fs := HF.out.at (rdata_at hq)
    have hmem : x ∈ L := List.mem_of_getElem? hq
    have hxn : x.bs.length = x.n := u8s_src_len (H.out.ok x hmem).src
    have hxs : x.n ≤ 1048576 := by have := HSM.out x hmem; omega
    obtain ⟨g, rfl⟩ : ∃ g, la = some ⟨g, 0, none⟩ := by
      obtain ⟨g, _, e, _⟩ := file_cells H.out.row hkl
      exact ⟨g, e⟩
    have HGET := Lib.hid hget
    have HXN := Lib.hid hxn
    have HMEM := Lib.hid hmem
    have hr0 : ¬ (k : Int) < 0 := by omega
    have c3 : ∀ o, (w.alloc o).cell? ⟨rd, 3, none⟩ = some (.slice (some ⟨g, 0, none⟩) L.length lc) := fun o => (H.out.ext ((Ext.refl w).alloc o)).lcell.1
    have cx1 : ∀ o, (w.alloc o).cell? ⟨g, k * 4 + 1, none⟩ = some (.slice x.a x.n x.c) := fun o => ((H.out.ext ((Ext.refl w).alloc o)).cells hq).2.1
    have c3 := c3 (.cells #[] 5 (0, 0))
    have cx1 := cx1 (.cells #[] 5 (0, 0))
    clear hq hget hmem hxn
    go_wp2_with (at_builtin; go_must (refine wpList_append_to (n := 0) (m := x.n) byt_elem rfl _ _ rfl (v := .slice _ _ _) rfl rfl (row_made (heap_alloc_new _ _) 1) ((H.out.ok x HMEM.out).src.ext ((Ext.refl _).alloc _)) (by unfold maxLen; omega) (by omega) ?_; intro v2 w3 happ); simp only [Nat.zero_add, List.nil_append] at happ ⊢; obtain ⟨va2, vc2, rfl⟩ := happ.row.shape; have HAP := Lib.hid happ; clear happ)
    go_ret2
    unfold RkReadPost
    rw [HGET.out]
    refine ⟨_, rfl, ?_, fun b hb => ?_, ((Chg.of_ext (S := fun _ => False) ((Ext.refl w).alloc (.cells #[] 5 (0, 0)))).trans HAP.out.chg (fun i hi e => by
      have e2 : w.heap.size = i := Option.some.inj e
      omega)).ext (fun _ _ => id)⟩
    · have := HAP.out.row
      show Row w3 5 1 (.slice va2 x.n vc2) x.bs.length (u8s x.bs)
      rw [HXN.out]; exact this
    · have hb2 : (Value.slice va2 x.n vc2).ownBlock = some b := hb
      rcases HAP.out.loc with e | e
      · rw [e] at hb2; have e2 : w.heap.size = b := Option.some.inj hb2; omega
      · rw [e] at hb2; simp at hb2; omega

theorem pre_eq {s p : ByteArray} (h : p.size ≤ s.size) : ((s.extract 0 p.size).toList == p.toList) = Lib.hasPrefix (bl s) (bl p) := by
  rw [← hasPrefix_of_take]
  have e1 : (s.extract 0 p.size).toList = (bl s).take (bl p).length := by
    rw [ByteArray.toList_eq, ByteArray.data_extract]
    show (s.data.extract 0 p.size).toList = _
    rw [Array.toList_extract]
    simp [bl, List.extract]
  have e2 : p.toList = bl p := ByteArray.toList_eq p
  rw [e1, e2]
  have : (bl p).length ≤ (bl s).length := h
  simp [this]
theorem pre_no {s p : ByteArray} (h : ¬ p.size ≤ s.size) : Lib.hasPrefix (bl s) (bl p) = false := by
  rw [← hasPrefix_of_take]
  have : ¬ (bl p).length ≤ (bl s).length := h
  simp [this]
/-- The names that begin so, of the first files. -/
def lnames (L : List RF) (p : ByteArray) : List ByteArray := (L.map (·.nm)).filter fun s => Lib.hasPrefix (bl s) (bl p)

set_option maxHeartbeats 4000000 in
set_option maxRecDepth 100000 in
theorem rk_list {w : World} {rd : Nat} {S : DiskS} {B : List Nat} (ok : S.Ok) (h : RkAt w rd S B) (p : ByteArray) (hp : p.size ≤ maxLen) (hnm : ∀ f ∈ S.files, f.1.size ≤ maxLen) :
    Calls Try.prog 22 #[.pointer (some ⟨rd, 0, none⟩), .string p] w fun e w' => ∃ v, e = .returned v ∧ StrsTo w (S.list p) v w' := by
  obtain ⟨L, la, lc, h1, h2, h3, rfl⟩ := h
  have HLI : Hid (lnames L p = S.list p) := Lib.hid (by rw [← h2.list p]; unfold lnames rdata; rw [List.map_map]; rfl)
  have hlen : L.length ≤ 512 := by have := ok.few; have := h2.len; rw [rdata_len] at this; omega
  have HNM : Hid (∀ x ∈ L, x.nm.size ≤ maxLen) := Lib.hid (fun x hx => hnm (x.nm, x.fs) (h2.perm.subset (List.mem_map.2 ⟨x, hx, rfl⟩)))
  have H := Lib.hid h1
  clear h1 h2 h3 ok hnm
  go_enter Try.func22, Try.ntmps22
  go_wp2_with fail
  go_loopw [5, 6, 7] (fun s5 s6 s7 wr => ∃ (k : Nat) (N : List ByteArray) (va : Option Addr) (vc : Nat), k ≤ L.length ∧ s6 = .int .i64 k ∧ s5 = .slice va N.length vc ∧ N.length ≤ k ∧ Hid (lnames (L.take k) p = N ∧ StrsTo w N (.slice va N.length vc) wr)) (fun _ s6 _ _ => L.length - (RowKit.intOf s6).toNat)
  case atStart => exact ⟨0, [], none, 0, by omega, rfl, rfl, by simp, Lib.hid ⟨by simp [lnames], ⟨Row.nil _ _ _, fun g hg => by simp [Value.ownBlock] at hg, Ext.refl _⟩⟩⟩
  case round =>
    obtain ⟨k, N, va, vc, hk, rfl, rfl, hNk, HN⟩ := hrel
    have HD := Lib.hid (H.out.ext HN.out.2.ext)
    have c3 := HD.out.lcell.1
    by_cases hkl : k < L.length
    · obtain ⟨x, hq⟩ : ∃ x, L[k]? = some x := ⟨_, List.getElem?_eq_getElem hkl⟩
      obtain ⟨g, rfl⟩ : ∃ g, la = some ⟨g, 0, none⟩ := by
        obtain ⟨g, _, e, _⟩ := file_cells HD.out.row hkl
        exact ⟨g, e⟩
      have cx0 := (HD.out.cells hq).1
      have hxm := HNM.out x (List.mem_of_getElem? hq)
      have HST : Hid (lnames (L.take (k + 1)) p = N ++ [x.nm].filter fun s => Lib.hasPrefix (bl s) (bl p)) := Lib.hid (by
        have := HN.out.1
        unfold lnames at this ⊢
        rw [List.take_add_one, hq, List.map_append, List.filter_append, this]
        rfl)
      unfold maxLen at hp hxm
      clear hq
      by_cases hle : p.size ≤ x.nm.size
      · obtain ⟨hb, hhb⟩ : ∃ hb, hb = Lib.hasPrefix (bl x.nm) (bl p) := ⟨_, rfl⟩
        have he : ((x.nm.extract 0 p.size).toList == p.toList) = hb := by rw [hhb]; exact pre_eq hle
        cases hb
        · have HN2 : Hid (lnames (L.take (k + 1)) p = N) := Lib.hid (by rw [HST.out]; simp [← hhb])
          clear hhb
          go_wp2_with fail
          go_roundw
          case rel => exact ⟨k + 1, N, va, vc, by omega, by go_num, rfl, by omega, Lib.hid ⟨HN2.out, HN.out.2⟩⟩
          case measure => simp [RowKit.intOf]; omega
        · have HN2 : Hid (lnames (L.take (k + 1)) p = N ++ [x.nm]) := Lib.hid (by rw [HST.out]; simp [← hhb])
          clear hhb
          go_wp2_with (at_builtin; go_must (refine wpList_append_to (n := N.length) (m := 1) elem_str rfl _ _ rfl (v := .slice _ _ _) rfl rfl (HN.out.2.row.alloc _) (src_str' (heap_alloc_new _ _)) (by unfold maxLen; omega) (by omega) ?_; intro v2 w4 happ); have K := Lib.hid (HN.out.2.snoc ((Ext.refl _).alloc _) happ rfl); obtain ⟨va2, vc2, rfl⟩ := happ.row.shape; clear happ)
          go_roundw
          case rel => exact ⟨k + 1, N ++ [x.nm], va2, vc2, by omega, by go_num, by simp, by simp; omega, Lib.hid ⟨HN2.out, by simpa using K.out⟩⟩
          case measure => simp [RowKit.intOf]; omega
      · have HN2 : Hid (lnames (L.take (k + 1)) p = N) := Lib.hid (by rw [HST.out]; simp [pre_no hle])
        go_wp2_with fail
        go_roundw
        case rel => exact ⟨k + 1, N, va, vc, by omega, by go_num, rfl, by omega, Lib.hid ⟨HN2.out, HN.out.2⟩⟩
        case measure => simp [RowKit.intOf]; omega
    · have HE : Hid (N = S.list p) := Lib.hid (by rw [← HLI.out, ← HN.out.1, List.take_of_length_le (by omega)])
      go_wp2_with fail
      go_ret
      exact ⟨_, rfl, by rw [← HE.out]; exact HN.out.2⟩
end Go.Proofs.Ytcmolfhjkkfedaa
