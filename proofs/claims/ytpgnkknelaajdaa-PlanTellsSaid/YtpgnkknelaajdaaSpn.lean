/- plan.span. -/
import Derived.Test.YtpgnkknelaajdaaPln
namespace Go.Proofs.Ytpgnkknelaajdaa
open Go.RowKit Go.Sort Go.Lib

def spanA (fr low : Int) (t : Ti) : Int := max fr low + (t.o - max fr low) % t.w
def spanB (to : Int) (t : Ti) : Int := min to t.u - (min to t.u - t.o) % t.w

set_option maxHeartbeats 4000000 in
set_option maxRecDepth 100000 in
theorem span_any (op fn : Int) (ser oth : ByteArray) (fr to wd st off gap tol fill : Int) (t : Ti) (low : Int) (w : World) (h1 : 1 ≤ t.w) (h2 : t.w ≤ 1099511627776) (h3 : 0 ≤ t.o) (h4 : t.o < t.w)
    (f1 : -1152921504606846976 ≤ fr) (f2 : fr ≤ 1152921504606846976) (g1 : -1152921504606846976 ≤ to) (g2 : to ≤ 1152921504606846976) (l1 : -1152921504606846976 ≤ low) (l2 : low ≤ 1152921504606846976) (u1 : -1152921504606846976 ≤ t.u) (u2 : t.u ≤ 1152921504606846976) :
    Calls Try.prog 16 #[qV op fn ser oth fr to wd st off gap tol fill, t.val, .int .i64 low] w fun e w' => e = .returned (.tuple #[.int .i64 (spanA fr low t), .int .i64 (spanB to t)]) ∧ Ext w w' := by
  unfold qV Ti.val
  obtain ⟨tw, to', tu, tm, tf⟩ := t
  simp only at *
  have HA : Hid (spanA fr low ⟨tw, to', tu, tm, tf⟩ = max fr low + (to' - max fr low) % tw) := rfl
  have HB : Hid (spanB to ⟨tw, to', tu, tm, tf⟩ = min to tu - (min to tu - to') % tw) := rfl
  obtain ⟨a, ha⟩ : ∃ a, max fr low = a := ⟨_, rfl⟩
  obtain ⟨b, hb⟩ : ∃ b, min to tu = b := ⟨_, rfl⟩
  rw [ha] at HA
  rw [hb] at HB
  have a1 : -1152921504606846976 ≤ a := by omega
  have a2 : a ≤ 1152921504606846976 := by omega
  have b1 : -1152921504606846976 ≤ b := by omega
  have b2 : b ≤ 1152921504606846976 := by omega
  have r1 := Int.emod_nonneg (to' - a) (show tw ≠ 0 by omega)
  have r2 := Int.emod_lt_of_pos (to' - a) (show 0 < tw by omega)
  have s1 := Int.emod_nonneg (b - to') (show tw ≠ 0 by omega)
  have s2 := Int.emod_lt_of_pos (b - to') (show 0 < tw by omega)
  obtain ⟨r, hr⟩ : ∃ r, (to' - a) % tw = r := ⟨_, rfl⟩
  obtain ⟨s, hs⟩ : ∃ s, (b - to') % tw = s := ⟨_, rfl⟩
  rw [hr] at HA r1 r2
  rw [hs] at HB s1 s2
  have HR := Lib.hid hr
  have HS := Lib.hid hs
  clear hr hs
  go_enter Try.func16, Try.ntmps16
  clear f1 f2 g1 g2 l1 l2 u1 u2
  go_wp2_with fail
  generalize hW : World.alloc _ _ = W
  have HX : Hid (Ext w W) := Lib.hid (by subst hW; exact ((Ext.refl w).alloc _).alloc _)
  have c5 : W.cell? ⟨w.heap.size, 5, none⟩ = some (.int .i64 to) := by subst hW; simp [go_sem]
  have t0 : W.cell? ⟨w.heap.size + 1, 0, none⟩ = some (.int .i64 tw) := by subst hW; simp [go_sem]
  have t1 : W.cell? ⟨w.heap.size + 1, 1, none⟩ = some (.int .i64 to') := by subst hW; simp [go_sem]
  have t2 : W.cell? ⟨w.heap.size + 1, 2, none⟩ = some (.int .i64 tu) := by subst hW; simp [go_sem]
  clear hW
  refine (mod_any (to' - a) tw _ h1 h2 (by omega) (by omega)).mono ?_
  rw [HR.out]
  rintro e w' ⟨rfl, rfl⟩
  go_wp2_with fail
  clear c5 t0 t1 t2
  refine (mod_any (b - to') tw _ h1 h2 (by omega) (by omega)).mono ?_
  rw [HS.out]
  rintro e w' ⟨rfl, rfl⟩
  go_wp2_with fail
  go_ret2
  rw [HA.out, HB.out]
  exact ⟨rfl, HX.out⟩

end Go.Proofs.Ytpgnkknelaajdaa
