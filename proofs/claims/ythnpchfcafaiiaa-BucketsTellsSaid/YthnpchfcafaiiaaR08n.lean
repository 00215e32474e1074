/- The document's aggr: Merge, where the first one has no points. -/
import Derived.Test.YthnpchfcafaiiaaR08
namespace Go.Proofs.Ythnpchfcafaiiaa
open Go.RowKit Go.Lib Go.Sort

set_option maxHeartbeats 1000000 in
set_option maxRecDepth 100000 in
theorem rMerge_none (a b : Ag) (w : World) (ha : a.n = 0) (hb : 1 ≤ b.n) :
    Calls Try.prog 25 #[.agg (agR a), .agg (agR b)] w fun e w' => e = .returned (.tuple #[.agg (agR b), .int .i64 0]) ∧ Ext w w' := by
  obtain ⟨an, asu, amn, amx, ⟨aft, afv, afs⟩, ⟨alt, alv, als⟩⟩ := a
  obtain ⟨bn, bsu, bmn, bmx, ⟨bft, bfv, bfs⟩, ⟨blt, blv, bls⟩⟩ := b
  unfold agR
  simp only at ha hb ⊢
  subst ha
  obtain ⟨a0, ha0⟩ : ∃ x, x = asu % 65536 := ⟨_, rfl⟩
  obtain ⟨a1, ha1⟩ : ∃ x, x = asu / 65536 % 65536 := ⟨_, rfl⟩
  obtain ⟨a2, ha2⟩ : ∃ x, x = asu / 4294967296 % 65536 := ⟨_, rfl⟩
  obtain ⟨a3, ha3⟩ : ∃ x, x = asu / 281474976710656 % 65536 := ⟨_, rfl⟩
  obtain ⟨a4, ha4⟩ : ∃ x, x = asu / 18446744073709551616 % 65536 := ⟨_, rfl⟩
  obtain ⟨a5, ha5⟩ : ∃ x, x = asu / 1208925819614629174706176 % 65536 := ⟨_, rfl⟩
  obtain ⟨a6, ha6⟩ : ∃ x, x = asu / 79228162514264337593543950336 % 65536 := ⟨_, rfl⟩
  obtain ⟨a7, ha7⟩ : ∃ x, x = asu / 5192296858534827628530496329220096 % 65536 := ⟨_, rfl⟩
  obtain ⟨b0, hb0⟩ : ∃ x, x = bsu % 65536 := ⟨_, rfl⟩
  obtain ⟨b1, hb1⟩ : ∃ x, x = bsu / 65536 % 65536 := ⟨_, rfl⟩
  obtain ⟨b2, hb2⟩ : ∃ x, x = bsu / 4294967296 % 65536 := ⟨_, rfl⟩
  obtain ⟨b3, hb3⟩ : ∃ x, x = bsu / 281474976710656 % 65536 := ⟨_, rfl⟩
  obtain ⟨b4, hb4⟩ : ∃ x, x = bsu / 18446744073709551616 % 65536 := ⟨_, rfl⟩
  obtain ⟨b5, hb5⟩ : ∃ x, x = bsu / 1208925819614629174706176 % 65536 := ⟨_, rfl⟩
  obtain ⟨b6, hb6⟩ : ∃ x, x = bsu / 79228162514264337593543950336 % 65536 := ⟨_, rfl⟩
  obtain ⟨b7, hb7⟩ : ∃ x, x = bsu / 5192296858534827628530496329220096 % 65536 := ⟨_, rfl⟩
  rw [← ha0, ← ha1, ← ha2, ← ha3, ← ha4, ← ha5, ← ha6, ← ha7, ← hb0, ← hb1, ← hb2, ← hb3, ← hb4, ← hb5, ← hb6, ← hb7]
  clear ha0 ha1 ha2 ha3 ha4 ha5 ha6 ha7 hb0 hb1 hb2 hb3 hb4 hb5 hb6 hb7
  have h1 : ¬ bn < 0 := by omega
  have h2 : ¬ bn = 0 := by omega
  go_enter Try.func25, Try.ntmps25
  go_wp2_with fail
  exact bodyPost_ret (results_box_tmp Try.results25 _ _ rfl (heap_alloc3 w _ _ _) Try.underlying66 rfl (by kernel_rfl)) rfl ⟨rfl, (((Ext.refl w).alloc _).alloc _).alloc _⟩

end Go.Proofs.Ythnpchfcafaiiaa
