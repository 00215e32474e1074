/- A query's words: the maps fns and fills, and wordOf. -/
import Derived.Test.YtfndeocebpoeeaaDoorQbp
import Derived.Test.YtfndeocebpoeeaaDoorRng
import Derived.Test.YtfndeocebpoeeaaDoorRow
import Derived.WalkSpells
namespace Go.Proofs.YtfndeocebpoeeaaDoor
open Go.RowKit Go.Sort Go.Lib

def mapV (m : List (ByteArray × Int)) : List (ByteArray × Value) := m.map fun p => (p.1, Value.int .i64 p.2)
/-- A map of words. -/
def WordsAt (w : World) (b : Nat) (m : List (ByteArray × Int)) : Prop := MapIs (fun s : ByteArray => Value.string s) w b (mapV m)
theorem fns_is : aput (aput (aput (aput (aput (aput (aput ([] : List (ByteArray × Value)) ⟨#[99, 111, 117, 110, 116]⟩ (.int .i64 0)) ⟨#[115, 117, 109]⟩ (.int .i64 1)) ⟨#[109, 105, 110]⟩ (.int .i64 2)) ⟨#[109, 97, 120]⟩ (.int .i64 3)) ⟨#[102, 105, 114, 115, 116]⟩ (.int .i64 4)) ⟨#[108, 97, 115, 116]⟩ (.int .i64 5)) ⟨#[109, 101, 97, 110]⟩ (.int .i64 6) = mapV fnS := by kernel_rfl
theorem fills_is : aput (aput (aput (aput ([] : List (ByteArray × Value)) ⟨#[110, 111, 110, 101]⟩ (.int .i64 0)) ⟨#[110, 117, 108, 108]⟩ (.int .i64 1)) ⟨#[112, 114, 101, 118, 105, 111, 117, 115]⟩ (.int .i64 2)) ⟨#[108, 105, 110, 101, 97, 114]⟩ (.int .i64 3) = mapV fillS := by kernel_rfl

set_option maxHeartbeats 4000000 in
set_option maxRecDepth 100000 in
theorem fns_any (w : World) : Calls Tryd.prog 10 #[] w fun e w' => ∃ b, e = .returned (.map (some b)) ∧ WordsAt w' b fnS ∧ Ext w w' ∧ w.heap.size ≤ b := by
  have K := string_kind Tryd.underlying9
  have hu := Tryd.underlying36
  obtain ⟨b, hb⟩ : ∃ b, b = w.heap.size := ⟨_, rfl⟩
  have m0 : MapIs (fun s : ByteArray => Value.string s) (w.alloc (.map #[] 0)) b [] := by rw [hb]; exact MapIs.new w
  obtain ⟨w1, r1, m1, c1⟩ := m0.update K hu ⟨#[99, 111, 117, 110, 116]⟩ (.int .i64 0)
  obtain ⟨w2, r2, m2, c2⟩ := m1.update K hu ⟨#[115, 117, 109]⟩ (.int .i64 1)
  obtain ⟨w3, r3, m3, c3⟩ := m2.update K hu ⟨#[109, 105, 110]⟩ (.int .i64 2)
  obtain ⟨w4, r4, m4, c4⟩ := m3.update K hu ⟨#[109, 97, 120]⟩ (.int .i64 3)
  obtain ⟨w5, r5, m5, c5⟩ := m4.update K hu ⟨#[102, 105, 114, 115, 116]⟩ (.int .i64 4)
  obtain ⟨w6, r6, m6, c6⟩ := m5.update K hu ⟨#[108, 97, 115, 116]⟩ (.int .i64 5)
  obtain ⟨w7, r7, m7, c7⟩ := m6.update K hu ⟨#[109, 101, 97, 110]⟩ (.int .i64 6)
  rw [fns_is] at m7
  have M := Lib.hid m7
  have C : Hid (Ext w w7) := Lib.hid (((((((((Chg.of_ext ((Ext.refl w).alloc (.map #[] 0))).trans c1 (fun _ _ e => e)).trans c2 (fun _ _ e => e)).trans c3 (fun _ _ e => e)).trans c4 (fun _ _ e => e)).trans c5 (fun _ _ e => e)).trans c6 (fun _ _ e => e)).trans c7 (fun _ _ e => e)).ext (fun i hi e => by have := hb; omega))
  clear m0 m1 m2 m3 m4 m5 m6 m7 c1 c2 c3 c4 c5 c6 c7 K hu
  have HB := Lib.hid hb
  rw [hb] at r1 r2 r3 r4 r5 r6 r7
  clear hb
  have hmm := @run_makeMap Tryd.prog
  go_enter Tryd.func10, Tryd.ntmps10
  go_wp2_with fail
  go_ret
  exact ⟨b, by rw [HB.out]; rfl, M.out, C.out, by rw [HB.out]; exact Nat.le_refl _⟩
set_option maxHeartbeats 4000000 in
set_option maxRecDepth 100000 in
theorem fills_any (w : World) : Calls Tryd.prog 11 #[] w fun e w' => ∃ b, e = .returned (.map (some b)) ∧ WordsAt w' b fillS ∧ Ext w w' ∧ w.heap.size ≤ b := by
  have K := string_kind Tryd.underlying9
  have hu := Tryd.underlying36
  obtain ⟨b, hb⟩ : ∃ b, b = w.heap.size := ⟨_, rfl⟩
  have m0 : MapIs (fun s : ByteArray => Value.string s) (w.alloc (.map #[] 0)) b [] := by rw [hb]; exact MapIs.new w
  obtain ⟨w1, r1, m1, c1⟩ := m0.update K hu ⟨#[110, 111, 110, 101]⟩ (.int .i64 0)
  obtain ⟨w2, r2, m2, c2⟩ := m1.update K hu ⟨#[110, 117, 108, 108]⟩ (.int .i64 1)
  obtain ⟨w3, r3, m3, c3⟩ := m2.update K hu ⟨#[112, 114, 101, 118, 105, 111, 117, 115]⟩ (.int .i64 2)
  obtain ⟨w4, r4, m4, c4⟩ := m3.update K hu ⟨#[108, 105, 110, 101, 97, 114]⟩ (.int .i64 3)
  rw [fills_is] at m4
  have M := Lib.hid m4
  have C : Hid (Ext w w4) := Lib.hid ((((((Chg.of_ext ((Ext.refl w).alloc (.map #[] 0))).trans c1 (fun _ _ e => e)).trans c2 (fun _ _ e => e)).trans c3 (fun _ _ e => e)).trans c4 (fun _ _ e => e)).ext (fun i hi e => by have := hb; omega))
  clear m0 m1 m2 m3 m4 c1 c2 c3 c4 K hu
  have HB := Lib.hid hb
  rw [hb] at r1 r2 r3 r4
  clear hb
  have hmm := @run_makeMap Tryd.prog
  go_enter Tryd.func11, Tryd.ntmps11
  go_wp2_with fail
  go_ret
  exact ⟨b, by rw [HB.out]; rfl, M.out, C.out, by rw [HB.out]; exact Nat.le_refl _⟩

/-- Values that are there once. -/
def Once (m : List (ByteArray × Int)) : Prop := ∀ p ∈ m, wordIn m p.2 = p.1
theorem fnS_once : Once fnS := by unfold Once; decide +kernel
theorem fillS_once : Once fillS := by unfold Once; decide +kernel
structure WordR (w : World) (b r : Nat) (m : List (ByteArray × Int)) (n : Int) (left : List (ByteArray × Value)) (wr : World) : Prop where
  iter : Iter (fun s : ByteArray => Value.string s) wr b r (mapV m) left
  seen : ∀ p ∈ m, p.2 = n → (p.1, Value.int .i64 p.2) ∈ left
  sub : ∀ p ∈ left, p ∈ mapV m
  new : w.heap.size ≤ r
  ext : Ext w wr
theorem WordR.step {w wr w1 : World} {b r : Nat} {m : List (ByteArray × Int)} {n : Int} {l1 l2 : List (ByteArray × Value)} {s : ByteArray} {v : Int} (h : WordR w b r m n (l1 ++ (s, .int .i64 v) :: l2) wr) (hv : v ≠ n) (hi : Iter (fun s : ByteArray => Value.string s) w1 b r (mapV m) (l1 ++ l2)) (hc : Chg (· = r) wr w1) : WordR w b r m n (l1 ++ l2) w1 := by
  refine ⟨hi, fun p hp hn => ?_, fun p hp => h.sub p (by simp only [List.mem_append, List.mem_cons] at hp ⊢; exact hp.imp id (fun e => .inr e)), h.new, ((Chg.of_ext (S := (· = r)) h.ext).trans hc (fun _ _ e => e)).ext (fun i hi e => by have := h.new; omega)⟩
  have := h.seen p hp hn
  simp only [List.mem_append, List.mem_cons, Prod.mk.injEq] at this ⊢
  rcases this with e | ⟨_, e⟩ | e
  · exact .inl e
  · simp at e; omega
  · exact .inr e

set_option maxHeartbeats 4000000 in
theorem wordOf_any {w : World} {b : Nat} {m : List (ByteArray × Int)} (h : WordsAt w b m) (ho : Once m) (n : Int) :
    Calls Tryd.prog 9 #[.map (some b), .int .i64 n] w fun e w' => e = .returned (.string (wordIn m n)) ∧ Ext w w' := by
  obtain ⟨it, hrg, hit⟩ := iter_range (P := Tryd.prog) h Tryd.underlying36
  have HR : Hid (WordR w b w.heap.size m n (mapV m) (w.alloc it)) := Lib.hid ⟨hit, fun p hp _ => List.mem_map.2 ⟨p, hp, rfl⟩, fun _ h => h, Nat.le_refl _, (Ext.refl _).alloc _⟩
  have HO := Lib.hid ho
  clear h hit ho
  go_enter Tryd.func9, Tryd.ntmps9
  go_wp2_with fail
  clear hrg
  obtain ⟨r, hr⟩ : ∃ r : Nat, r = w.heap.size := ⟨_, rfl⟩
  rw [← hr] at HR
  rw [← hr]
  clear hr
  go_loopw [5, 6] (fun _ _ wr => ∃ left, Hid (WordR w b r m n left wr)) (fun _ _ wr => iterLeft wr b r)
  case atStart => exact ⟨_, HR⟩
  case round =>
    clear HR
    obtain ⟨left, HR⟩ := hrel
    rcases iter_next (P := Tryd.prog) HR.out.iter with ⟨rfl, hnx⟩ | ⟨l1, s, v, l2, w2, hl, hnx, hen, hi, hch, hsz⟩
    · have hw : wordIn m n = ⟨#[]⟩ := by
        have hf : m.find? (fun p => p.2 == n) = none := List.find?_eq_none.2 (fun p hp => by
          intro e
          have := HR.out.seen p hp (by simpa using e)
          simp at this)
        unfold wordIn
        rw [hf]; rfl
      have HW := Lib.hid hw
      clear hw
      go_wp2_with fail
      go_ret
      exact ⟨by rw [HW.out]; rfl, HR.out.ext⟩
    · obtain ⟨⟨s', z⟩, hp, hpe⟩ := List.mem_map.1 (HR.out.sub (s, v) (by rw [hl]; simp))
      simp only [Prod.mk.injEq] at hpe
      obtain ⟨rfl, rfl⟩ := hpe
      have HP := Lib.hid hp
      have hE : Hid (Ext w w2) := Lib.hid (((Chg.of_ext (S := (· = r)) HR.out.ext).trans hch (fun _ _ e => e)).ext (fun i hi e => by have := HR.out.new; omega))
      have HC := Lib.hid (And.intro hl (And.intro hi hch))
      clear hp hl hi hch hsz
      rcases Classical.em (z = n) with hz | hz
      · subst hz
        go_wp2_with fail
        go_ret
        exact ⟨by rw [HO.out _ HP.out]; rfl, hE.out⟩
      · have hzb : (z == n) = false := by simpa using hz
        have HS : Hid (WordR w b r m n (l1 ++ l2) w2) := Lib.hid ((HC.out.1 ▸ HR.out).step hz HC.out.2.1 HC.out.2.2)
        have Hm : Hid (iterLeft w2 b r < iterLeft wr b r) := Lib.hid (by
          rw [HS.out.iter.count, HR.out.iter.count, HC.out.1]; simp)
        have HZ := Lib.hid hz
        clear hz
        go_wp2_with fail
        go_roundw
        case rel => exact ⟨_, HS⟩
        case measure => exact Hm.out
end Go.Proofs.YtfndeocebpoeeaaDoor
