/- slices.swapRangeCmpFunc, rotateCmpFunc at buckets. -/
import Derived.Test.YtokllgdbmnmieaaGreatSyp
import Derived.Test.YtokllgdbmnmieaaGreatPtc
import Derived.Shelf.SlSortCmp.KitK
import Derived.Sort.WalkB2
import Derived.Sort.WalkB12
import Derived.Deep.LoopGhost
namespace Go.Proofs.YtokllgdbmnmieaaGreat
open Go.RowKit Go.Lib Go.Sort

set_option maxHeartbeats 4000000 in
set_option maxRecDepth 1000000 in
theorem swapRange_any {α : Type} [Inhabited α] (k : Nat) (aE : ∀ w, (isAgg 77).run Tryz.prog w = .ok true w) (zE : ∀ w, (Go.sizeOf 77).run Tryz.prog w = .ok k w) (enc : α → List Value) (fv : Value) (blk off cap a b n : Nat) (d0 d : Array α) (w0 w : World)
    (R : RowK enc k w0 blk off d0) (hs : d0.size = d.size) (S : SWK enc k w0 blk off d w) (h1 : a + n ≤ b) (h2 : b + n ≤ d.size) (hsz : d.size < 4611686018427387904) :
    Calls Tryz.prog 122 #[.slice (some ⟨blk, off, none⟩) d.size cap, .int .i64 a, .int .i64 b, .int .i64 n, fv] w fun e w' => e = .returned (.tuple #[]) ∧ SWK enc k w0 blk off (swpR a b d n) w' := by
  have S0 := Lib.hid S
  clear S
  go_enter Tryz.func122, Tryz.ntmps122
  go_wp2_with fail
  go_loopw [10] (fun s10 wr => ∃ i : Nat, i ≤ n ∧ s10 = .int .i64 i ∧ Hid (SWK enc k w0 blk off (swpR a b d i) wr)) (fun s _ => n - (RowKit.intOf s).toNat)
  case atStart => exact ⟨0, by omega, rfl, S0⟩
  case round =>
    clear S0
    obtain ⟨i, hi, rfl, S1⟩ := hrel
    by_cases hlt : i < n
    · obtain ⟨dk, hdk⟩ : ∃ x, x = swpR a b d i := ⟨_, rfl⟩
      have hds : dk.size = d.size := by rw [hdk]; exact swpR_size a b d i
      have HD := Lib.hid hdk
      rw [← hdk] at S1
      clear hdk
      obtain ⟨ai, hai⟩ : ∃ x, x = a + i := ⟨_, rfl⟩
      obtain ⟨bi, hbi⟩ : ∃ x, x = b + i := ⟨_, rfl⟩
      have HST : Hid (swpR a b d (i + 1) = swp dk ai bi) := Lib.hid (by rw [HD.out, hai, hbi]; rfl)
      have wa : IntKind.i64.wrap ((a : Int) + (i : Int)) = (ai : Int) := by rw [IntWalk.i64_in _ (by omega)]; omega
      have wb : IntKind.i64.wrap ((b : Int) + (i : Int)) = (bi : Int) := by rw [IntWalk.i64_in _ (by omega)]; omega
      have wi : IntKind.i64.wrap ((i : Int) + 1) = ((i + 1 : Nat) : Int) := by rw [IntWalk.i64_in _ (by omega)]; omega
      have ea : ((ai : Nat) : Int).toNat = ai := by omega
      have eb : ((bi : Nat) : Int).toNat = bi := by omega
      have pa : (0 : Int) ≤ (ai : Int) := by omega
      have pb : (0 : Int) ≤ (bi : Int) := by omega
      have ba : (ai : Int) < (d.size : Int) := by omega
      have bb : (bi : Int) < (d.size : Int) := by omega
      have hai' : ai < dk.size := by omega
      have hbi' : bi < dk.size := by omega
      have S2 := Lib.hid (S1.out.swapped R ai bi hai' hbi')
      have la := S1.out.ld1 R (by omega) Tryz.prog ai hai'
      have lb := S1.out.ld1 R (by omega) Tryz.prog bi hbi'
      have sa := S1.out.st1 R (by omega) Tryz.prog ai hai' dk[bi]!
      have sb := S1.out.st2 R (by omega) Tryz.prog ai bi hai' hbi' dk[bi]! dk[ai]!
      have na : (enc dk[ai]!).length = k := R.hk _
      have nb : (enc dk[bi]!).length = k := R.hk _
      generalize enc dk[ai]! = cA at S2 la sb na
      generalize enc dk[bi]! = cB at S2 lb sa sb nb
      clear S1 hai hbi hai' hbi'
      go_wp2_with fail
      have mixed : Tryz.prog.follows Departure.mixedOrders = true := by kernel_rfl
      go_big_region_o
      clear la lb sa sb
      generalize (wr.drew.setCells blk (off + ai * k) cB).setCells blk (off + bi * k) cA = w2 at S2 ⊢
      go_wp2_with fail
      exact ⟨⟨i + 1, by omega, by go_num, Lib.hid (by rw [HST.out]; exact S2.out)⟩, by simp [RowKit.intOf]; omega⟩
    · obtain rfl : i = n := by omega
      go_wp2_with fail
      go_end0
      exact ⟨rfl, S1.out⟩

theorem i64_sub {x y : Nat} (h : y ≤ x) (hx : x < 9223372036854775808) : IntKind.i64.wrap ((x : Int) - (y : Int)) = ((x - y : Nat) : Int) := by rw [IntWalk.i64_in _ (by omega)]; omega
theorem i64_add {x y : Nat} (h : x + y < 9223372036854775808) : IntKind.i64.wrap ((x : Int) + (y : Int)) = ((x + y : Nat) : Int) := by rw [IntWalk.i64_in _ (by omega)]; omega

set_option maxHeartbeats 1000000 in
set_option maxRecDepth 100000 in
theorem rotate_any {α : Type} [Inhabited α] (k : Nat) (aE : ∀ w, (isAgg 77).run Tryz.prog w = .ok true w) (zE : ∀ w, (Go.sizeOf 77).run Tryz.prog w = .ok k w) (enc : α → List Value) (fv : Value) (blk off cap a m b : Nat) (d0 d : Array α) (w0 w : World)
    (R : RowK enc k w0 blk off d0) (hs : d0.size = d.size) (S : SWK enc k w0 blk off d w) (h1 : a < m) (h2 : m < b) (hb : b ≤ d.size) (hsz : d.size < 4611686018427387904) :
    Calls Tryz.prog 105 #[.slice (some ⟨blk, off, none⟩) d.size cap, .int .i64 a, .int .i64 m, .int .i64 b, fv] w fun e w' => e = .returned (.tuple #[]) ∧ ∃ d', Rot a m b d d' ∧ SWK enc k w0 blk off d' w' := by
  have S0 := Lib.hid S
  clear S
  have HSW : Hid (∀ (x y n : Nat) (dk : Array α) (W : World), dk.size = d.size → SWK enc k w0 blk off dk W → x + n ≤ y → y + n ≤ d.size → Calls Tryz.prog 122 #[.slice (some ⟨blk, off, none⟩) d.size cap, .int .i64 x, .int .i64 y, .int .i64 n, fv] W fun e w' => e = .returned (.tuple #[]) ∧ SWK enc k w0 blk off (swpR x y dk n) w') := Lib.hid (fun x y n dk W e SK g1 g2 => by
    have := swapRange_any k aE zE enc fv blk off cap x y n d0 dk w0 W R (hs.trans e.symm) SK g1 (by rw [e]; exact g2) (by rw [e]; exact hsz)
    rw [e] at this
    exact this)
  clear aE zE R hs
  go_enter Tryz.func105, Tryz.ntmps105
  go_wp2_with fail
  go_loopw [10, 11] (fun s10 s11 wr => ∃ (i j : Nat) (dk : Array α), s10 = .int .i64 i ∧ s11 = .int .i64 j ∧ 1 ≤ i ∧ 1 ≤ j ∧ a + i ≤ m ∧ m + j ≤ b ∧ Hid (dk.size = d.size) ∧ Hid (SWK enc k w0 blk off dk wr) ∧ Hid (∀ d', Rot (m - i) m (m + j) dk d' → Rot a m b d d')) (fun s t _ => (RowKit.intOf s).toNat + (RowKit.intOf t).toNat)
  case atStart => exact ⟨m - a, b - m, d, congrArg (Value.int .i64) (by omega), congrArg (Value.int .i64) (by omega), by omega, by omega, by omega, by omega, Lib.hid rfl, S0, Lib.hid (fun d' h => by rw [show m - (m - a) = a by omega, show m + (b - m) = b by omega] at h; exact h)⟩
  case round =>
    clear S0
    obtain ⟨i, j, dk, rfl, rfl, i1, j1, ai, jb, HS, S1, HR⟩ := hrel
    obtain ⟨mi, hmi, HMI⟩ : ∃ x : Nat, (m : Int) - (i : Int) = (x : Int) ∧ Hid (x = m - i) := ⟨m - i, by omega, Lib.hid rfl⟩
    rcases Nat.lt_trichotomy i j with h | h | h
    · obtain ⟨y, hy, HY⟩ : ∃ x : Nat, (m : Int) + (j : Int) - (i : Int) = (x : Int) ∧ Hid (x = m + j - i) := ⟨m + j - i, by omega, Lib.hid rfl⟩
      have HMI2 := Lib.hid hmi
      have HY2 := Lib.hid hy
      clear hmi hy
      have hbq : ((i : Int) != (j : Int)) = true := bne_iff_ne.2 (by omega)
      go_wp2_with fail
      rw [HMI2.out, HY2.out]
      refine (HSW.out mi y i dk wr HS.out S1.out (by have := HMI.out; have := HY.out; omega) (by have := HMI.out; have := HY.out; omega)).mono ?_
      rintro e w3 ⟨rfl, hs3⟩
      have S3 := Lib.hid hs3
      clear hs3
      go_wp2_with fail
      refine ⟨⟨i, j - i, swpR mi y dk i, rfl, congrArg (Value.int .i64) (by omega), i1, by omega, ai, by omega, Lib.hid (by rw [swpR_size]; exact HS.out), S3, Lib.hid (fun d' h' => HR.out d' ?_)⟩, by simp [RowKit.intOf]; omega⟩
      rw [HMI.out, HY.out] at h'
      exact rot_more_right h (by omega) (by have := HS.out; omega) h'
    · subst h
      have HMI2 := Lib.hid hmi
      clear hmi
      have hbq : ((i : Int) != (i : Int)) = false := bne_self_eq_false _
      go_wp2_with fail
      rw [HMI2.out]
      refine (HSW.out mi m i dk wr HS.out S1.out (by have := HMI.out; omega) (by omega)).mono ?_
      rintro e w3 ⟨rfl, hs3⟩
      have S3 := Lib.hid hs3
      clear hs3
      go_wp2_with fail
      go_end0
      exact ⟨rfl, swpR mi m dk i, HR.out _ (by rw [HMI.out]; exact rot_even (by omega) (by have := HS.out; omega)), S3.out⟩
    · have HMI2 := Lib.hid hmi
      clear hmi
      have hbq : ((i : Int) != (j : Int)) = true := bne_iff_ne.2 (by omega)
      go_wp2_with fail
      rw [HMI2.out]
      refine (HSW.out mi m j dk wr HS.out S1.out (by have := HMI.out; omega) (by omega)).mono ?_
      rintro e w3 ⟨rfl, hs3⟩
      have S3 := Lib.hid hs3
      clear hs3
      go_wp2_with fail
      refine ⟨⟨i - j, j, swpR mi m dk j, congrArg (Value.int .i64) (by omega), rfl, by omega, j1, by omega, jb, Lib.hid (by rw [swpR_size]; exact HS.out), S3, Lib.hid (fun d' h' => HR.out d' ?_)⟩, by simp [RowKit.intOf]; omega⟩
      rw [HMI.out] at h'
      exact rot_more_left h (by omega) (by have := HS.out; omega) h'
end Go.Proofs.YtokllgdbmnmieaaGreat
