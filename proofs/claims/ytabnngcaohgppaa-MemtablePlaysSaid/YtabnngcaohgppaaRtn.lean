/- The document's table (tidemillref16): New, Points. -/
import Derived.Test.YtabnngcaohgppaaRtb
import Derived.Test.YtabnngcaohgppaaRefC
namespace Go.Proofs.Ytabnngcaohgppaa
open Go.RowKit Go.Sort Go.Lib

set_option maxHeartbeats 1000000 in
theorem rt_new (w : World) (m : Int) (h1 : 1 ≤ m) (h2 : m ≤ 65536) :
    Calls Try.prog 15 #[.int .i64 m] w fun e w' => e = .returned (.tuple #[.pointer (some ⟨w.heap.size, 0, none⟩), .int .i64 0]) ∧ RTab w' w.heap.size m [] none 0 ∧ Ext w w' := by
  have g1 : ¬ m < 1 := by omega
  have g2 : ¬ 65536 < m := by omega
  go_enter Try.func15, Try.ntmps15
  go_wp2
  go_ret2
  refine ⟨rfl, ⟨?_, Row.nil _ _ _, by simp, by simp [Value.ownBlock], by simp⟩, (Ext.refl _).alloc _⟩
  have := heap_alloc_new w (.cells #[.int .i64 m, .slice none 0 0] 63 (0, 0))
  simpa using this
set_option maxHeartbeats 1000000 in
theorem rt_new_bad (w : World) (m : Int) (h : m < 1 ∨ 65536 < m) :
    Calls Try.prog 15 #[.int .i64 m] w fun e w' => e = .returned (.tuple #[.pointer none, .int .i64 2]) ∧ w = w' := by
  by_cases g1 : m < 1
  · clear h
    go_enter Try.func15, Try.ntmps15
    go_wp2
    go_ret2
    exact ⟨rfl, rfl⟩
  · have g2 : 65536 < m := by omega
    clear h
    go_enter Try.func15, Try.ntmps15
    go_wp2
    go_ret2
    exact ⟨rfl, rfl⟩

set_option maxHeartbeats 4000000 in
theorem rt_points {w : World} {rd : Nat} {most : Int} {L : List (ByteArray × Sl)} {la : Option Addr} {lc : Nat} (h : RTab w rd most L la lc) (hL : L.length ≤ 1000000) (hn : (L.map (·.1)).Nodup) (hb : ∀ p ∈ L, p.2.l.length ≤ 1000000) (name : ByteArray) (f t : Int) :
    Calls Try.prog 20 #[.pointer (some ⟨rd, 0, none⟩), .string name, .int .i64 f, .int .i64 t] w fun e w' => ∃ v, e = .returned v ∧ CutTo w (cutL f t (tabPts L name)) v w' := by
  have c1 : w.cell? ⟨rd, 1, none⟩ = some (.slice la L.length lc) := by have := cell_of_block h.blk 1; simpa using this
  have H := Lib.hid h
  have HN := Lib.hid hn
  have HB := Lib.hid hb
  clear h hn hb
  go_enter Try.func20, Try.ntmps20
  go_wp2_with fail
  refine (rt_find H.out hL name).mono ?_
  rintro e w' ⟨kk, rfl, hf, rfl⟩
  rcases hf with ⟨rfl, hno⟩ | ⟨r, p, rfl, hp, hpn⟩
  · have HR : Hid (cutL f t (tabPts L name) = []) := Lib.hid (by rw [rtPts_no hno]; rfl)
    clear hno
    go_wp2_with fail
    go_ret
    rw [HR.out]
    exact ⟨_, rfl, CutTo.nil _⟩
  · have hrl := (List.getElem?_eq_some_iff.1 hp).1
    obtain ⟨g, x, rfl, hx, _, cx⟩ := part_cells H.out.row hrl
    rw [hp] at hx
    cases hx
    have HP : Hid (tabPts L name = p.2.l) := Lib.hid (by rw [← hpn]; exact rtPts_at HN.out hp)
    have HOK := Lib.hid (H.out.ok p (List.mem_of_getElem? hp)).1.1
    have HLN := Lib.hid (src_len HOK.out)
    have hpb : p.2.n ≤ 1000000 := by have h1 := HB.out p (List.mem_of_getElem? hp); have h2 := HLN.out; omega
    have hr0 : 0 ≤ (r : Int) := by omega
    clear hp hpn
    go_wp2_with fail
    refine (refCut_any w p.2.a p.2.n p.2.c f t p.2.l HOK.out (by omega)).mono ?_
    rintro e w1 ⟨v, rfl, hc1⟩
    have C1 := Lib.hid hc1
    clear hc1
    go_wp2_with fail
    go_ret
    rw [HP.out]
    exact ⟨_, rfl, C1.out⟩
end Go.Proofs.Ytabnngcaohgppaa
