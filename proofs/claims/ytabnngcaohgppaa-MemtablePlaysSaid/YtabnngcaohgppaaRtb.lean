/- The document's table (tidemillref16) in memory: Len, find, has. -/
import Derived.Test.YtabnngcaohgppaaTabT
import Derived.Sort.Walk0
import Derived.IntWalk
namespace Go.Proofs.Ytabnngcaohgppaa
open Go.RowKit Go.Sort Go.Lib

/-- The document's table: its series, each with its points. -/
structure RTab (w : World) (rd : Nat) (most : Int) (L : List (ByteArray × Sl)) (la : Option Addr) (lc : Nat) : Prop where
  blk : w.heap[rd]? = some (.cells #[.int .i64 most, .slice la L.length lc] 63 (0, 0))
  row : Row w 77 2 (.slice la L.length lc) L.length (prs L)
  ok : ∀ p ∈ L, p.2.Ok w ∧ Rises p.2.l
  own : ∀ g, (Value.slice la L.length lc).ownBlock = some g → g ≠ rd
  owns : ∀ p ∈ L, ∀ g, p.2.v.ownBlock = some g → g ≠ rd ∧ (Value.slice la L.length lc).ownBlock ≠ some g ∧ g < w.heap.size

theorem RTab.chg {S : Nat → Prop} {w w' : World} {rd : Nat} {most : Int} {L : List (ByteArray × Sl)} {la : Option Addr} {lc : Nat} (h : RTab w rd most L la lc) (hc : Chg S w w') (hd : ¬ S rd) (hr : ∀ g, (Value.slice la L.length lc).ownBlock = some g → ¬ S g) (hs : ∀ p ∈ L, ∀ g, p.2.v.ownBlock = some g → ¬ S g) : RTab w' rd most L la lc :=
  ⟨(hc.block rd (block_lt h.blk) hd).trans h.blk, h.row.chg hc hr, fun p hp => ⟨⟨(h.ok p hp).1.1.chg hc (hs p hp), (h.ok p hp).1.2⟩, (h.ok p hp).2⟩, h.own, fun p hp g hg => ⟨(h.owns p hp g hg).1, (h.owns p hp g hg).2.1, Nat.lt_of_lt_of_le (h.owns p hp g hg).2.2 hc.size⟩⟩
theorem RTab.ext {w w' : World} {rd : Nat} {most : Int} {L : List (ByteArray × Sl)} {la : Option Addr} {lc : Nat} (h : RTab w rd most L la lc) (hc : Ext w w') : RTab w' rd most L la lc :=
  h.chg (Chg.of_ext (S := fun _ => False) hc) id (fun _ _ => id) (fun _ _ _ _ => id)

theorem prs_at (L : List (ByteArray × Sl)) (r : Nat) (x : ByteArray × Sl) (h : L[r]? = some x) : (prs L)[r * 2]? = some (.string x.1) ∧ (prs L)[r * 2 + 1]? = some x.2.v := by
  induction L generalizing r with
  | nil => simp at h
  | cons e L ih =>
    cases r with
    | zero => simp at h; subst h; simp [prs]
    | succ r =>
      have := ih r (by simpa using h)
      rw [show (r + 1) * 2 = r * 2 + 2 by omega]
      simpa [prs] using this
theorem part_cells {w : World} {t : TypeId} {a : Option Addr} {c r : Nat} {L : List (ByteArray × Sl)} (h : Row w t 2 (.slice a L.length c) L.length (prs L)) (hr : r < L.length) :
    ∃ g x, a = some ⟨g, 0, none⟩ ∧ L[r]? = some x ∧ w.cell? ⟨g, r * 2, none⟩ = some (.string x.1) ∧ w.cell? ⟨g, r * 2 + 1, none⟩ = some (.slice x.2.a x.2.n x.2.c) := by
  obtain ⟨_, ⟨e, h0⟩ | ⟨g, cap, cur, e, _, hb, h1, h2, h3, h4⟩⟩ := h
  · omega
  · simp only [Value.slice.injEq] at e
    obtain ⟨rfl, _, rfl⟩ := e
    have hx : L[r]? = some L[r] := List.getElem?_eq_getElem hr
    obtain ⟨e0, e1⟩ := prs_at L r _ hx
    rw [← h4, List.getElem?_take, if_pos (by omega)] at e0 e1
    exact ⟨g, L[r], rfl, hx, by rw [cell_of_block hb]; simpa using e0, by rw [cell_of_block hb]; simpa [Sl.v] using e1⟩

theorem sum_le_take (l : List Nat) (r : Nat) : (l.take r).sum ≤ l.sum := by
  have := congrArg List.sum (List.take_append_drop r l)
  rw [List.sum_append] at this
  omega
theorem str_eq (a b : ByteArray) : (a.toList == b.toList) = decide (a = b) := by
  rw [← beq_toListBytes, bytes_beq]

set_option maxHeartbeats 2000000 in
theorem rt_len {w : World} {rd : Nat} {most : Int} {L : List (ByteArray × Sl)} {la : Option Addr} {lc : Nat} (h : RTab w rd most L la lc) (hs : (L.map fun p => p.2.l.length).sum ≤ 1000000) (hL : L.length ≤ 1000000) :
    Calls Try.prog 18 #[.pointer (some ⟨rd, 0, none⟩)] w fun e w' => e = .returned (.int .i64 ((L.map fun p => p.2.l.length).sum : Nat)) ∧ w = w' := by
  have c1 : w.cell? ⟨rd, 1, none⟩ = some (.slice la L.length lc) := by have := cell_of_block h.blk 1; simpa using this
  have H := Lib.hid h
  have HSUM := Lib.hid hs
  clear h hs
  go_enter Try.func18, Try.ntmps18
  go_wp2_with fail
  go_loop [3, 4] (fun s3 s4 => ∃ (r q : Nat), r ≤ L.length ∧ s4 = .int .i64 r ∧ s3 = .int .i64 q ∧ Hid (q = ((L.take r).map fun p => p.2.l.length).sum)) (fun _ j => L.length - (RowKit.intOf j).toNat)
  case atStart => exact ⟨0, 0, by omega, rfl, rfl, Lib.hid (by simp)⟩
  case round =>
    obtain ⟨r, q, hr, rfl, rfl, HQ⟩ := hrel
    by_cases hrl : r < L.length
    · obtain ⟨g, x, rfl, hx, _, cx⟩ := part_cells H.out.row hrl
      have HQ2 : Hid (q + x.2.l.length = ((L.take (r + 1)).map fun p => p.2.l.length).sum) := Lib.hid (by rw [List.take_add_one, hx, HQ.out]; simp)
      have HXN := Lib.hid (src_len (H.out.ok x (List.mem_of_getElem? hx)).1.1)
      have hq : q + x.2.n ≤ 1000000 := by
        have h1 := HQ2.out
        have h2 := HSUM.out
        have h3 := sum_le_take (L.map fun p => p.2.l.length) (r + 1)
        have h4 := HXN.out
        rw [← List.map_take] at h3
        omega
      clear hx
      go_wp2_with fail
      go_round
      case rel => exact ⟨r + 1, q + x.2.n, by omega, by go_num, by go_num, Lib.hid (by rw [← HXN.out]; exact HQ2.out)⟩
      case measure => simp [RowKit.intOf]; omega
    · have HE : Hid ((L.map fun p => p.2.l.length).sum = q) := Lib.hid (by rw [HQ.out, List.take_of_length_le (by omega)])
      go_wp2_with fail
      go_ret
      rw [HE.out]
      exact ⟨rfl, rfl⟩

/-- Where a series is. -/
def SerAt (L : List (ByteArray × Sl)) (name : ByteArray) (kk : Int) : Prop := (kk = -1 ∧ ∀ p ∈ L, p.1 ≠ name) ∨ ∃ (r : Nat) (p : ByteArray × Sl), kk = (r : Int) ∧ L[r]? = some p ∧ p.1 = name

set_option maxHeartbeats 2000000 in
theorem rt_find {w : World} {rd : Nat} {most : Int} {L : List (ByteArray × Sl)} {la : Option Addr} {lc : Nat} (h : RTab w rd most L la lc) (hL : L.length ≤ 1000000) (name : ByteArray) :
    Calls Try.prog 31 #[.pointer (some ⟨rd, 0, none⟩), .string name] w fun e w' => ∃ kk : Int, e = .returned (.int .i64 kk) ∧ SerAt L name kk ∧ w = w' := by
  have c1 : w.cell? ⟨rd, 1, none⟩ = some (.slice la L.length lc) := by have := cell_of_block h.blk 1; simpa using this
  have H := Lib.hid h
  clear h
  go_enter Try.func31, Try.ntmps31
  go_wp2_with fail
  go_loop [5] (fun i => ∃ k : Nat, k ≤ L.length ∧ i = .int .i64 k ∧ Hid (∀ p ∈ L.take k, p.1 ≠ name)) (fun i => L.length - (RowKit.intOf i).toNat)
  case atStart => exact ⟨0, by omega, rfl, Lib.hid (by simp)⟩
  case round =>
    obtain ⟨k, hk, rfl, HI⟩ := hrel
    by_cases hlt : k < L.length
    · obtain ⟨g, x, rfl, hx, cx, _⟩ := part_cells H.out.row hlt
      have HX := Lib.hid hx
      clear hx
      by_cases hxs : x.1 = name
      · have HF : Hid (SerAt L name (k : Int)) := Lib.hid (.inr ⟨k, x, rfl, HX.out, hxs⟩)
        have he : (x.1.toList == name.toList) = true := by rw [str_eq]; simpa using hxs
        clear hxs
        go_wp2_with fail
        go_ret
        exact ⟨_, rfl, HF.out, rfl⟩
      · have HF : Hid (∀ p ∈ L.take (k + 1), p.1 ≠ name) := Lib.hid (fun p hp => by
          rw [List.take_add_one, HX.out] at hp
          rcases List.mem_append.1 hp with hp | hp
          · exact HI.out p hp
          · simp at hp; subst hp; exact hxs)
        have he : (x.1.toList == name.toList) = false := by rw [str_eq]; simpa using hxs
        clear hxs
        go_wp2_with fail
        go_round
        case rel => exact ⟨k + 1, by omega, by go_num, HF⟩
        case measure => simp [RowKit.intOf]; omega
    · have HF : Hid (SerAt L name (-1)) := Lib.hid (.inl ⟨rfl, by have h := HI.out; rwa [List.take_of_length_le (by omega)] at h⟩)
      go_wp2_with fail
      go_ret
      exact ⟨_, rfl, HF.out, rfl⟩

/-- A series' points. -/
def rtPts (L : List (ByteArray × Sl)) (name : ByteArray) : List Pt := tabPts L name
theorem rtPts_at {L : List (ByteArray × Sl)} (hn : (L.map (·.1)).Nodup) {r : Nat} {p : ByteArray × Sl} (h : L[r]? = some p) : tabPts L p.1 = p.2.l := by
  simp [tabPts, tabSl, aget_of_mem hn (List.mem_of_getElem? h)]
theorem rtPts_no {L : List (ByteArray × Sl)} {name : ByteArray} (h : ∀ p ∈ L, p.1 ≠ name) : tabPts L name = [] := by
  have : aget L name = none := by
    rw [aget_none_iff]
    intro hm
    obtain ⟨p, hp, e⟩ := List.mem_map.1 hm
    exact h p hp e
  simp [tabPts, tabSl, this]

set_option maxHeartbeats 4000000 in
theorem rt_has {w : World} {rd : Nat} {most : Int} {L : List (ByteArray × Sl)} {la : Option Addr} {lc : Nat} (h : RTab w rd most L la lc) (hL : L.length ≤ 1000000) (hn : (L.map (·.1)).Nodup) (hb : ∀ p ∈ L, p.2.l.length ≤ 1000000) (name : ByteArray) (t : Int) :
    Calls Try.prog 30 #[.pointer (some ⟨rd, 0, none⟩), .string name, .int .i64 t] w fun e w' => e = .returned (.bool (hasL (tabPts L name) t)) ∧ w = w' := by
  have c1 : w.cell? ⟨rd, 1, none⟩ = some (.slice la L.length lc) := by have := cell_of_block h.blk 1; simpa using this
  have H := Lib.hid h
  have HN := Lib.hid hn
  have HB := Lib.hid hb
  clear h hn hb
  go_enter Try.func30, Try.ntmps30
  go_wp2_with fail
  refine (rt_find H.out hL name).mono ?_
  rintro e w' ⟨kk, rfl, hf, rfl⟩
  rcases hf with ⟨rfl, hno⟩ | ⟨r, p, rfl, hp, hpn⟩
  · have HR : Hid (hasL (tabPts L name) t = false) := Lib.hid (by rw [rtPts_no hno]; rfl)
    clear hno
    go_wp2_with fail
    go_loop [8] (fun i => i = .int .i64 0) (fun i => 1 - (RowKit.intOf i).toNat)
    case atStart => rfl
    case round =>
      subst hrel
      go_wp2_with fail
      go_ret
      rw [HR.out]
      exact ⟨rfl, rfl⟩
  · have hrl := (List.getElem?_eq_some_iff.1 hp).1
    obtain ⟨g, x, rfl, hx, _, cx⟩ := part_cells H.out.row hrl
    rw [hp] at hx
    cases hx
    have HP : Hid (tabPts L name = p.2.l) := Lib.hid (by rw [← hpn]; exact rtPts_at HN.out hp)
    have HOK := Lib.hid (H.out.ok p (List.mem_of_getElem? hp)).1.1
    have HLN := Lib.hid (src_len HOK.out)
    have hpb : p.2.n ≤ 1000000 := by have h1 := HB.out p (List.mem_of_getElem? hp); have h2 := HLN.out; omega
    have hr0 : 0 ≤ (r : Int) := by omega
    clear hp hpn
    go_wp2_with fail
    go_loop [8] (fun i => ∃ k : Nat, k ≤ p.2.n ∧ i = .int .i64 k ∧ Hid (∀ q ∈ p.2.l.take k, q.t ≠ t)) (fun i => p.2.n - (RowKit.intOf i).toNat)
    case atStart => exact ⟨0, by omega, rfl, Lib.hid (by simp)⟩
    case round =>
      obtain ⟨k, hk, rfl, HI⟩ := hrel
      by_cases hlt : k < p.2.n
      · obtain ⟨b5, o5, q, hav, hq, z0, z1, z2⟩ := pts_src HOK.out hlt
        rw [hav] at cx
        have HQ := Lib.hid hq
        clear hq z1 z2
        by_cases hqt : q.t = t
        · have HF : Hid (hasL (tabPts L name) t = true) := Lib.hid (by rw [HP.out]; exact hasL_iff.2 (List.mem_map.2 ⟨q, List.mem_of_getElem? HQ.out, hqt⟩))
          have he : (q.t == t) = true := beq_iff_eq.2 hqt
          clear hqt
          go_wp2_with fail
          go_ret
          rw [HF.out]
          exact ⟨rfl, rfl⟩
        · have HF : Hid (∀ q ∈ p.2.l.take (k + 1), q.t ≠ t) := Lib.hid (fun y hy => by
            rw [List.take_add_one, HQ.out] at hy
            rcases List.mem_append.1 hy with hy | hy
            · exact HI.out y hy
            · simp at hy; subst hy; exact hqt)
          have he : (q.t == t) = false := beq_eq_false_iff_ne.2 hqt
          clear hqt
          go_wp2_with fail
          go_round
          case rel => exact ⟨k + 1, by omega, by go_num, HF⟩
          case measure => simp [RowKit.intOf]; omega
      · have HF : Hid (hasL (tabPts L name) t = false) := Lib.hid (by
          rw [HP.out]
          have h := HI.out
          rw [List.take_of_length_le (by have := HLN.out; omega)] at h
          rw [hasL, List.any_eq_false]
          intro q hq
          simpa using h q hq)
        go_wp2_with fail
        go_ret
        rw [HF.out]
        exact ⟨rfl, rfl⟩
end Go.Proofs.Ytabnngcaohgppaa
