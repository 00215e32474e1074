/- slices.symMergeCmpFunc at buckets, where the first part has one element. -/
import Derived.Test.YtokllgdbmnmieaaGreatSy1
import Derived.Deep.DeepCutAuto
import Derived.Deep.CutBlock
namespace Go.Proofs.YtokllgdbmnmieaaGreat
open Go.RowKit Go.Lib Go.Sort

/-- What the walks are told of the row. -/
structure SyC {α : Type} [Inhabited α] (k : Nat) (enc : α → List Value) (cf : α → α → Int) (g : Nat) (cb : Array Value) (blk off : Nat) (d0 : Array α) (w0 : World) : Prop where
  aE : ∀ w, (isAgg 77).run Tryz.prog w = .ok true w
  zE : ∀ w, (Go.sizeOf 77).run Tryz.prog w = .ok k w
  eg : ∀ args w, (callFunc g args).run Tryz.prog w = .ok (.enter g args) w
  cmp : CmpLays Tryz.prog g cb enc k cf blk off d0.size w0
  R : RowK enc k w0 blk off d0
  hsz : d0.size < 4611686018427387904
  swo : SWO (ltOf cf)

set_option maxHeartbeats 4000000 in
set_option maxRecDepth 100000 in
theorem sym1_any {α : Type} [Inhabited α] {k : Nat} {enc : α → List Value} {cf : α → α → Int} {g : Nat} {cb : Array Value} {blk off : Nat} {d0 : Array α} {w0 : World} (C : SyC k enc cf g cb blk off d0 w0) (cap a m b : Nat) (d : Array α) (w : World)
    (hs : d.size = d0.size) (S : SWK enc k w0 blk off d w) (h1 : m = a + 1) (h2 : m < b) (hb : b ≤ d0.size) (hs2 : SortedIn (ltOf cf) m b d) :
    Calls Tryz.prog 68 #[.slice (some ⟨blk, off, none⟩) d0.size cap, .int .i64 a, .int .i64 m, .int .i64 b, .func (.func g) #[] cb] w fun e w' => e = .returned (.tuple #[]) ∧ ∃ d', PermIn a b d d' ∧ SortedIn (ltOf cf) a b d' ∧ SWK enc k w0 blk off d' w' := by
  have S0 := Lib.hid S
  have HS2 := Lib.hid hs2
  have HC := Lib.hid C
  have aE := C.aE
  have zE := C.zE
  have eg := C.eg
  have hsz := C.hsz
  have mixed : Tryz.prog.follows Departure.mixedOrders = true := by kernel_rfl
  have HDS := Lib.hid hs
  clear S hs2 C hs
  go_enter Tryz.func68, Tryz.ntmps68
  have h11 : ((m : Int) - (a : Int) == 1) = true := beq_iff_eq.2 (by omega)
  have HM := Lib.hid h1
  have ham : a < m := by omega
  clear h1
  go_wp2_with fail
  clear h11
  go_loopw [10, 11] (fun s10 s11 wr => ∃ i j : Nat, s10 = .int .i64 i ∧ s11 = .int .i64 j ∧ m ≤ i ∧ i ≤ j ∧ j ≤ b ∧ Hid (SWK enc k w0 blk off d wr) ∧ Hid (∀ t, m ≤ t → t < i → ltOf cf d[t]! d[a]! = true) ∧ Hid (∀ t, j ≤ t → t < b → ltOf cf d[t]! d[a]! = false)) (fun s t _ => (RowKit.intOf t).toNat - (RowKit.intOf s).toNat)
  case atStart => exact ⟨m, b, rfl, rfl, by omega, by omega, by omega, S0, Lib.hid (fun t _ _ => by omega), Lib.hid (fun t _ _ => by omega)⟩
  case round =>
    clear S0
    obtain ⟨i, j, rfl, rfl, i1, ij, jb, S1, HL, HG⟩ := hrel
    by_cases hlt : i < j
    · go_upto_region 5 with fail
      obtain ⟨h, hh, HH⟩ : ∃ h : Nat, ((i : Int) + (j : Int)) / 2 = (h : Int) ∧ Hid (i ≤ h ∧ h < j) := ⟨(i + j) / 2, by omega, Lib.hid (by omega)⟩
      rw [hh]
      clear hh
      have hR := HC.out.R
      have hhs : h < d.size := by have := HH.out; have := HDS.out; omega
      have has : a < d.size := by have := HDS.out; omega
      have lh := S1.out.ld hR HDS.out Tryz.prog h hhs
      have la := S1.out.ld hR HDS.out Tryz.prog a has
      have hc := S1.out.cmp HC.out.cmp HDS.out d[h]! d[a]!
      have eh : ((h : Nat) : Int).toNat = h := by omega
      have ea : ((a : Nat) : Int).toNat = a := by omega
      have ph : (0 : Int) ≤ (h : Int) := by omega
      have pa : (0 : Int) ≤ (a : Int) := by omega
      have bh : (h : Int) < (d0.size : Int) := by have := HDS.out; omega
      have ba : (a : Int) < (d0.size : Int) := by omega
      have HJ : Hid (ltOf cf d[h]! d[a]! = decide (cf d[h]! d[a]! < 0)) := Lib.hid rfl
      obtain ⟨r, hr⟩ : ∃ r, r = cf d[h]! d[a]! := ⟨_, rfl⟩
      rw [← hr] at hc HJ
      generalize enc d[h]! = cH at lh hc
      generalize enc d[a]! = cA at la hc
      clear hr hhs has hR
      by_cases hlv : r < 0
      · have HJ2 : Hid (ltOf cf d[h]! d[a]! = true) := Lib.hid (by rw [HJ.out]; exact decide_eq_true hlv)
        go_quiet_grown (first | (go_at_fn g; refine _root_.Go.Calls.grown_of (hc _ _)))
        have S2 := Lib.hid (S1.out.grown nq osq)
        clear lh la hc S1
        generalize grow (wr.drewN nq) osq = w2 at S2 ⊢
        clear nq osq
        go_wp2_with fail
        exact ⟨⟨h + 1, j, by go_num, rfl, by have := HH.out; omega, by have := HH.out; omega, jb, S2, Lib.hid (fun t h1 h3 => bs_lt HC.out.swo HS2.out h1 (by omega) (by have := HH.out; omega) HJ2.out), HG⟩, by have := HH.out; simp [RowKit.intOf]; omega⟩
      · have HJ2 : Hid (ltOf cf d[h]! d[a]! = false) := Lib.hid (by rw [HJ.out]; exact decide_eq_false hlv)
        go_quiet_grown (first | (go_at_fn g; refine _root_.Go.Calls.grown_of (hc _ _)))
        have S2 := Lib.hid (S1.out.grown nq osq)
        clear lh la hc S1
        generalize grow (wr.drewN nq) osq = w2 at S2 ⊢
        clear nq osq
        go_wp2_with fail
        exact ⟨⟨i, h, rfl, rfl, i1, HH.out.1, by have := HH.out; omega, S2, HL, Lib.hid (fun t h1 h3 => bs_ge HC.out.swo HS2.out (by have := HH.out; omega) h1 h3 HJ2.out)⟩, by have := HH.out; simp [RowKit.intOf]; omega⟩
    · obtain rfl : i = j := by omega
      clear eg
      have HSL : Hid (∀ d', Rot a (a + 1) i d d' → PermIn a b d d' ∧ SortedIn (ltOf cf) a b d') := Lib.hid (fun d' hr => by
        have hm := HM.out
        have hd := HDS.out
        refine ⟨permIn_mono _ _ _ _ _ _ (Nat.le_refl _) jb (by omega) hr.perm, sorted_right HC.out.swo (b := b) (i := i) (by rw [← hm]; exact HS2.out) (by omega) jb (fun t h1 h3 => HL.out t (by omega) h3) (fun t h1 h3 => HG.out t h1 h3) hr⟩)
      clear HL HG hlt ij
      go_wp2_with fail
      go_loopw [13] (fun s13 wq => ∃ (e : Nat) (dk : Array α), s13 = .int .i64 e ∧ a ≤ e ∧ e + 1 ≤ i ∧ Hid (SWK enc k w0 blk off dk wq) ∧ Hid (Rot a (a + 1) (e + 1) d dk)) (fun s _ => i - (RowKit.intOf s).toNat)
      case atStart => exact ⟨a, d, rfl, by omega, by omega, S1, Lib.hid rot_one_start⟩
      case round =>
        clear S1
        obtain ⟨e, dk, rfl, ae, ei, S1, HR⟩ := hrel
        by_cases hlt : e + 1 < i
        · have hR := HC.out.R
          have hds : dk.size = d0.size := by rw [HR.out.size]; exact HDS.out
          have h1s : e < dk.size := by omega
          have h2s : e + 1 < dk.size := by omega
          have S2 := Lib.hid (S1.out.swapped hR e (e + 1) h1s h2s)
          have la := S1.out.ld1 hR hds Tryz.prog e h1s
          have lb := S1.out.ld1 hR hds Tryz.prog (e + 1) h2s
          have sa := S1.out.st1 hR hds Tryz.prog e h1s dk[e + 1]!
          have sb := S1.out.st2 hR hds Tryz.prog e (e + 1) h1s h2s dk[e + 1]! dk[e]!
          have na : (enc dk[e]!).length = k := hR.hk _
          have nb : (enc dk[e + 1]!).length = k := hR.hk _
          generalize enc dk[e]! = cA at S2 la sb na
          generalize enc dk[e + 1]! = cB at S2 lb sa sb nb
          have ea : ((e : Nat) : Int).toNat = e := by omega
          have eb : ((e : Int) + 1).toNat = e + 1 := by omega
          have pa : (0 : Int) ≤ (e : Int) := by omega
          have pb : (0 : Int) ≤ (e : Int) + 1 := by omega
          have ba : (e : Int) < (d0.size : Int) := by omega
          have bb : (e : Int) + 1 < (d0.size : Int) := by omega
          have bl : (e : Int) < (i : Int) - 1 := by omega
          have HR2 : Hid (Rot a (a + 1) (e + 1 + 1) d (swp dk e (e + 1))) := Lib.hid (rot_one_step ae (by have := HDS.out; omega) HR.out)
          clear S1 HR h1s h2s hds hR
          go_upto_region 11 with fail
          go_big_region_o
          clear la lb sa sb
          generalize (wr.drew.setCells blk (off + e * k) cB).setCells blk (off + (e + 1) * k) cA = w2 at S2 ⊢
          go_wp2_with fail
          exact ⟨⟨e + 1, swp dk e (e + 1), by go_num, by omega, by omega, S2, HR2⟩, by simp [RowKit.intOf]; omega⟩
        · obtain rfl : i = e + 1 := by omega
          go_wp2_with fail
          refine bodyPost_ret (results_none rfl _ _ _) rfl ?_
          exact ⟨rfl, dk, (HSL.out dk HR.out).1, (HSL.out dk HR.out).2, S1.out⟩
end Go.Proofs.YtokllgdbmnmieaaGreat

/-! slices.symMergeCmpFunc at buckets, where the second part has one element. -/

namespace Go.Proofs.YtokllgdbmnmieaaGreat
open Go.RowKit Go.Lib Go.Sort

set_option maxHeartbeats 4000000 in
set_option maxRecDepth 100000 in
theorem sym2_any {α : Type} [Inhabited α] {k : Nat} {enc : α → List Value} {cf : α → α → Int} {g : Nat} {cb : Array Value} {blk off : Nat} {d0 : Array α} {w0 : World} (C : SyC k enc cf g cb blk off d0 w0) (cap a m b : Nat) (d : Array α) (w : World)
    (hs : d.size = d0.size) (S : SWK enc k w0 blk off d w) (h1 : b = m + 1) (h2 : a + 1 < m) (hb : b ≤ d0.size) (hs2 : SortedIn (ltOf cf) a m d) :
    Calls Tryz.prog 68 #[.slice (some ⟨blk, off, none⟩) d0.size cap, .int .i64 a, .int .i64 m, .int .i64 b, .func (.func g) #[] cb] w fun e w' => e = .returned (.tuple #[]) ∧ ∃ d', PermIn a b d d' ∧ SortedIn (ltOf cf) a b d' ∧ SWK enc k w0 blk off d' w' := by
  have S0 := Lib.hid S
  have HS2 := Lib.hid hs2
  have HC := Lib.hid C
  have aE := C.aE
  have zE := C.zE
  have eg := C.eg
  have hsz := C.hsz
  have mixed : Tryz.prog.follows Departure.mixedOrders = true := by kernel_rfl
  have HDS := Lib.hid hs
  clear S hs2 C hs
  go_enter Tryz.func68, Tryz.ntmps68
  have h11 : ((m : Int) - (a : Int) == 1) = false := beq_eq_false_iff_ne.2 (by omega)
  have h12 : ((b : Int) - (m : Int) == 1) = true := beq_iff_eq.2 (by omega)
  have HM := Lib.hid h1
  have hmb : m < b := by omega
  clear h1
  go_wp2_with fail
  clear h11 h12
  go_loopw [14, 15] (fun s10 s11 wr => ∃ i j : Nat, s10 = .int .i64 i ∧ s11 = .int .i64 j ∧ a ≤ i ∧ i ≤ j ∧ j ≤ m ∧ Hid (SWK enc k w0 blk off d wr) ∧ Hid (∀ t, a ≤ t → t < i → ltOf cf d[m]! d[t]! = false) ∧ Hid (∀ t, j ≤ t → t < m → ltOf cf d[m]! d[t]! = true)) (fun s t _ => (RowKit.intOf t).toNat - (RowKit.intOf s).toNat)
  case atStart => exact ⟨a, m, rfl, rfl, by omega, by omega, by omega, S0, Lib.hid (fun t _ _ => by omega), Lib.hid (fun t _ _ => by omega)⟩
  case round =>
    clear S0
    obtain ⟨i, j, rfl, rfl, i1, ij, jb, S1, HL, HG⟩ := hrel
    by_cases hlt : i < j
    · go_upto_region 17 with fail
      obtain ⟨h, hh, HH⟩ : ∃ h : Nat, ((i : Int) + (j : Int)) / 2 = (h : Int) ∧ Hid (i ≤ h ∧ h < j) := ⟨(i + j) / 2, by omega, Lib.hid (by omega)⟩
      rw [hh]
      clear hh
      have hR := HC.out.R
      have hhs : h < d.size := by have := HH.out; have := HDS.out; omega
      have has : m < d.size := by have := HDS.out; omega
      have lh := S1.out.ld hR HDS.out Tryz.prog h hhs
      have la := S1.out.ld hR HDS.out Tryz.prog m has
      have hc := S1.out.cmp HC.out.cmp HDS.out d[m]! d[h]!
      have eh : ((h : Nat) : Int).toNat = h := by omega
      have ea : ((m : Nat) : Int).toNat = m := by omega
      have ph : (0 : Int) ≤ (h : Int) := by omega
      have pa : (0 : Int) ≤ (m : Int) := by omega
      have bh : (h : Int) < (d0.size : Int) := by have := HDS.out; omega
      have ba : (m : Int) < (d0.size : Int) := by omega
      have HJ : Hid (ltOf cf d[m]! d[h]! = decide (cf d[m]! d[h]! < 0)) := Lib.hid rfl
      obtain ⟨r, hr⟩ : ∃ r, r = cf d[m]! d[h]! := ⟨_, rfl⟩
      rw [← hr] at hc HJ
      generalize enc d[h]! = cH at lh hc
      generalize enc d[m]! = cA at la hc
      clear hr hhs has hR
      by_cases hlv : r < 0
      · have HJ2 : Hid (ltOf cf d[m]! d[h]! = true) := Lib.hid (by rw [HJ.out]; exact decide_eq_true hlv)
        go_quiet_grown (first | (go_at_fn g; refine _root_.Go.Calls.grown_of (hc _ _)))
        have S2 := Lib.hid (S1.out.grown nq osq)
        clear lh la hc S1
        generalize grow (wr.drewN nq) osq = w2 at S2 ⊢
        clear nq osq
        go_wp2_with fail
        exact ⟨⟨i, h, rfl, rfl, i1, HH.out.1, by have := HH.out; omega, S2, HL, Lib.hid (fun t h1 h3 => bs_gt HC.out.swo HS2.out (by have := HH.out; omega) h1 h3 HJ2.out)⟩, by have := HH.out; simp [RowKit.intOf]; omega⟩
      · have HJ2 : Hid (ltOf cf d[m]! d[h]! = false) := Lib.hid (by rw [HJ.out]; exact decide_eq_false hlv)
        go_quiet_grown (first | (go_at_fn g; refine _root_.Go.Calls.grown_of (hc _ _)))
        have S2 := Lib.hid (S1.out.grown nq osq)
        clear lh la hc S1
        generalize grow (wr.drewN nq) osq = w2 at S2 ⊢
        clear nq osq
        go_wp2_with fail
        exact ⟨⟨h + 1, j, by go_num, rfl, by have := HH.out; omega, by have := HH.out; omega, jb, S2, Lib.hid (fun t h1 h3 => bs_le HC.out.swo HS2.out h1 (by omega) (by have := HH.out; omega) HJ2.out), HG⟩, by have := HH.out; simp [RowKit.intOf]; omega⟩
    · obtain rfl : i = j := by omega
      clear eg
      have HSL : Hid (∀ d', Rot i m (m + 1) d d' → PermIn a b d d' ∧ SortedIn (ltOf cf) a b d') := Lib.hid (fun d' hr => by
        have hm := HM.out
        have hd := HDS.out
        rw [hm]
        refine ⟨permIn_mono _ _ _ _ _ _ i1 (Nat.le_refl _) (by omega) hr.perm, sorted_left HC.out.swo (i := i) HS2.out i1 jb (fun t h1 h3 => HL.out t h1 h3) (fun t h1 h3 => HG.out t h1 h3) hr⟩)
      clear HL HG hlt ij
      go_wp2_with fail
      go_loopw [17] (fun s13 wq => ∃ (e : Nat) (dk : Array α), s13 = .int .i64 e ∧ i ≤ e ∧ e ≤ m ∧ Hid (SWK enc k w0 blk off dk wq) ∧ Hid (Rot e m (m + 1) d dk)) (fun s _ => (RowKit.intOf s).toNat)
      case atStart => exact ⟨m, d, rfl, by omega, by omega, S1, Lib.hid rot_back_start⟩
      case round =>
        clear S1
        obtain ⟨e, dk, rfl, ie, em, S1, HR⟩ := hrel
        by_cases hlt : i < e
        · obtain ⟨p, HP, hpe⟩ : ∃ p, Hid (p + 1 = e) ∧ (e : Int) - 1 = (p : Int) := ⟨e - 1, Lib.hid (by omega), by omega⟩
          have hR := HC.out.R
          have hds : dk.size = d0.size := by rw [HR.out.size]; exact HDS.out
          have h1s : e < dk.size := by omega
          have h2s : p < dk.size := by omega
          have S2 := Lib.hid (S1.out.swapped hR e p h1s h2s)
          have la := S1.out.ld1 hR hds Tryz.prog e h1s
          have lb := S1.out.ld1 hR hds Tryz.prog p h2s
          have sa := S1.out.st1 hR hds Tryz.prog e h1s dk[p]!
          have sb := S1.out.st2 hR hds Tryz.prog e p h1s h2s dk[p]! dk[e]!
          have na : (enc dk[e]!).length = k := hR.hk _
          have nb : (enc dk[p]!).length = k := hR.hk _
          generalize enc dk[e]! = cA at S2 la sb na
          generalize enc dk[p]! = cB at S2 lb sa sb nb
          have ea : ((e : Nat) : Int).toNat = e := by omega
          have eb : ((e : Int) - 1).toNat = p := by omega
          have pa : (0 : Int) ≤ (e : Int) := by omega
          have pb : (0 : Int) ≤ (e : Int) - 1 := by omega
          have ba : (e : Int) < (d0.size : Int) := by omega
          have bb : (e : Int) - 1 < (d0.size : Int) := by omega
          have HR2 : Hid (Rot p m (m + 1) d (swp dk e p)) := Lib.hid (by
            have h3 := HP.out
            have h4 := HR.out
            rw [← h3] at h4 ⊢
            exact rot_back_step (by omega) (by have := HDS.out; omega) h4)
          have HPE := Lib.hid hpe
          clear S1 HR h1s h2s hds hR hpe
          go_upto_region 23 with fail
          go_big_region_o
          clear la lb sa sb
          generalize (wr.drew.setCells blk (off + e * k) cB).setCells blk (off + p * k) cA = w2 at S2 ⊢
          go_wp2_with fail
          exact ⟨⟨p, swp dk e p, congrArg (Value.int .i64) HPE.out, by have := HP.out; omega, by have := HP.out; omega, S2, HR2⟩, by have := HP.out; simp [RowKit.intOf]; omega⟩
        · obtain rfl : i = e := by omega
          go_wp2_with fail
          refine bodyPost_ret (results_none rfl _ _ _) rfl ?_
          exact ⟨rfl, dk, (HSL.out dk HR.out).1, (HSL.out dk HR.out).2, S1.out⟩
end Go.Proofs.YtokllgdbmnmieaaGreat

/-! slices.symMergeCmpFunc at buckets: two sorted parts become one. -/

namespace Go.Proofs.YtokllgdbmnmieaaGreat
open Go.RowKit Go.Lib Go.Sort

/-- What a merge of two parts leaves. -/
def SymTo {α : Type} [Inhabited α] (k : Nat) (enc : α → List Value) (lt : α → α → Bool) (blk off : Nat) (w0 : World) (a b : Nat) (d : Array α) (e : Ending) (w' : World) : Prop :=
  e = .returned (.tuple #[]) ∧ ∃ d', PermIn a b d d' ∧ SortedIn lt a b d' ∧ SWK enc k w0 blk off d' w'

set_option maxHeartbeats 8000000 in
set_option maxRecDepth 100000 in
theorem sym3_any {α : Type} [Inhabited α] {k : Nat} {enc : α → List Value} {cf : α → α → Int} {g : Nat} {cb : Array Value} {blk off : Nat} {d0 : Array α} {w0 : World} (C : SyC k enc cf g cb blk off d0 w0) (cap a m b : Nat) (d : Array α) (w : World)
    (hs : d.size = d0.size) (S : SWK enc k w0 blk off d w) (h1 : a + 1 < m) (h2 : m + 1 < b) (hb : b ≤ d0.size) (hs1 : SortedIn (ltOf cf) a m d) (hs2 : SortedIn (ltOf cf) m b d)
    (ih : ∀ (x y z : Nat) (dx : Array α) (W : World), z - x < b - a → dx.size = d0.size → SWK enc k w0 blk off dx W → x < y → y < z → z ≤ d0.size → SortedIn (ltOf cf) x y dx → SortedIn (ltOf cf) y z dx →
      Calls Tryz.prog 68 #[.slice (some ⟨blk, off, none⟩) d0.size cap, .int .i64 x, .int .i64 y, .int .i64 z, .func (.func g) #[] cb] W (SymTo k enc (ltOf cf) blk off w0 x z dx)) :
    Calls Tryz.prog 68 #[.slice (some ⟨blk, off, none⟩) d0.size cap, .int .i64 a, .int .i64 m, .int .i64 b, .func (.func g) #[] cb] w (SymTo k enc (ltOf cf) blk off w0 a b d) := by
  have S0 := Lib.hid S
  have HS1 := Lib.hid hs1
  have HS2 := Lib.hid hs2
  have HC := Lib.hid C
  have HIH := Lib.hid ih
  have aE := C.aE
  have zE := C.zE
  have eg := C.eg
  have hsz := C.hsz
  have mixed : Tryz.prog.follows Departure.mixedOrders = true := by kernel_rfl
  have HDS := Lib.hid hs
  have HROT : Hid (∀ (x y z : Nat) (dk : Array α) (W : World), dk.size = d0.size → SWK enc k w0 blk off dk W → x < y → y < z → z ≤ d0.size → Calls Tryz.prog 105 #[.slice (some ⟨blk, off, none⟩) d0.size cap, .int .i64 x, .int .i64 y, .int .i64 z, .func (.func g) #[] cb] W fun e w' => e = .returned (.tuple #[]) ∧ ∃ d', Rot x y z dk d' ∧ SWK enc k w0 blk off d' w') := Lib.hid (fun x y z dk W e SK g1 g2 g3 => by
    have := rotate_any k C.aE C.zE enc (.func (.func g) #[] cb) blk off cap x y z d0 dk w0 W C.R e.symm SK g1 g2 (by omega) (by omega)
    rw [e] at this
    exact this)
  clear S hs1 hs2 C hs ih
  go_enter Tryz.func68, Tryz.ntmps68
  have h11 : ((m : Int) - (a : Int) == 1) = false := beq_eq_false_iff_ne.2 (by omega)
  have h12 : ((b : Int) - (m : Int) == 1) = false := beq_eq_false_iff_ne.2 (by omega)
  go_upto_region 25 with fail
  clear h11 h12
  obtain ⟨mid, hmid, HMID⟩ : ∃ x : Nat, ((a : Int) + (b : Int)) / 2 = (x : Int) ∧ Hid (x = (a + b) / 2) := ⟨(a + b) / 2, by omega, Lib.hid rfl⟩
  rw [hmid]
  have hm1 : a < mid := by omega
  have hm2 : mid < b := by omega
  clear hmid
  go_upto_region 26 with fail
  obtain ⟨n, hn, HN⟩ : ∃ x : Nat, (mid : Int) + (m : Int) = (x : Int) ∧ Hid (x = mid + m) := ⟨mid + m, by omega, Lib.hid rfl⟩
  rw [hn]
  have hnn : mid + m = n := by omega
  have hn1 : n ≤ 9223372036854775807 := by omega
  have hn2 : b ≤ n + b := by omega
  clear hn hnn
  go_upto_if 140 with fail
  go_cut [20, 21] (fun s20 s21 wx => ∃ lo hi : Nat, s20 = .int .i64 lo ∧ s21 = .int .i64 hi ∧ wx = w ∧ Hid ((mid < m ∧ lo = mid + m - b ∧ hi = mid) ∨ (m ≤ mid ∧ lo = a ∧ hi = m)))
  case first =>
    rcases Nat.lt_or_ge mid m with h | h
    · as_aux_lemma =>
        go_wp2_with fail
        go_meet
        exact ⟨mid + m - b, mid, congrArg (Value.int .i64) (by have := HN.out; have := HMID.out; omega), rfl, rfl, Lib.hid (.inl ⟨h, rfl, rfl⟩)⟩
    · as_aux_lemma =>
        go_wp2_with fail
        go_meet
        exact ⟨a, m, rfl, rfl, rfl, Lib.hid (.inr ⟨h, rfl, rfl⟩)⟩
  case rest =>
    obtain ⟨lo, hi, rfl, rfl, rfl, HLH⟩ := hcut
    have hlo : lo ≤ hi := by have := HLH.out; have := HMID.out; omega
    have hhi : hi ≤ m := by have := HLH.out; have := HMID.out; omega
    go_upto_region 32 with fail
    obtain ⟨pp, hpp, HPP⟩ : ∃ x : Nat, (n : Int) - 1 = (x : Int) ∧ Hid (x + 1 = n) := ⟨n - 1, by have := HN.out; omega, Lib.hid (by have := HN.out; omega)⟩
    go_upto_block 8 with fail
    clear hpp
    have hp1 : pp < n := by have := HPP.out; omega
    go_cut [20, 21] (fun s20 s21 wx => ∃ st : Nat, s20 = .int .i64 st ∧ s21 = .int .i64 st ∧ a ≤ st ∧ st ≤ m ∧ st ≤ mid ∧ n ≤ st + b ∧ Hid (SWK enc k w0 blk off d wx ∧ Found (ltOf cf) a m b mid st d))
    case first =>
      go_wp2_with fail
      go_loopw [20, 21] (fun s20 s21 wr => ∃ st r : Nat, s20 = .int .i64 st ∧ s21 = .int .i64 r ∧ lo ≤ st ∧ st ≤ r ∧ r ≤ hi ∧ Hid (SWK enc k w0 blk off d wr) ∧ Hid (lo < st → ltOf cf d[n - st]! d[st - 1]! = false) ∧ Hid (r < hi → ltOf cf d[n - 1 - r]! d[r]! = true)) (fun s t _ => (RowKit.intOf t).toNat - (RowKit.intOf s).toNat)
      case atStart => exact ⟨lo, hi, rfl, rfl, by omega, by omega, by omega, S0, Lib.hid (fun h => by omega), Lib.hid (fun h => by omega)⟩
      case round =>
        clear S0
        obtain ⟨st, r, rfl, rfl, i1, ij, jb, S1, HL, HG⟩ := hrel
        by_cases hlt : st < r
        · go_upto_region 35 with fail
          obtain ⟨h, hh, HH⟩ : ∃ h : Nat, ((st : Int) + (r : Int)) / 2 = (h : Int) ∧ Hid (st ≤ h ∧ h < r) := ⟨(st + r) / 2, by omega, Lib.hid (by omega)⟩
          rw [hh]
          clear hh
          obtain ⟨q, hq, HQ⟩ : ∃ q : Nat, (pp : Int) - (h : Int) = (q : Int) ∧ Hid (q + h + 1 = n) := ⟨pp - h, by have := HH.out; have := HN.out; have := HLH.out; have := HMID.out; have := HPP.out; omega, Lib.hid (by have := HH.out; have := HN.out; have := HLH.out; have := HMID.out; have := HPP.out; omega)⟩
          have hR := HC.out.R
          have hqb : q < b := by have := HH.out; have := HN.out; have := HLH.out; have := HMID.out; have := HQ.out; omega
          have hhs : h < d.size := by have := HH.out; have := HDS.out; omega
          have has : q < d.size := by have := HDS.out; omega
          have lh := S1.out.ld hR HDS.out Tryz.prog h hhs
          have la := S1.out.ld hR HDS.out Tryz.prog q has
          have hc := S1.out.cmp HC.out.cmp HDS.out d[q]! d[h]!
          have eh : ((h : Nat) : Int).toNat = h := by omega
          have wq : IntKind.i64.wrap ((pp : Int) - (h : Int)) = (q : Int) := by rw [hq]; exact IntWalk.i64_in _ (by omega)
          have ea : ((q : Nat) : Int).toNat = q := by omega
          have ph : (0 : Int) ≤ (h : Int) := by omega
          have pa : (0 : Int) ≤ (q : Int) := by omega
          have bh : (h : Int) < (d0.size : Int) := by have := HDS.out; omega
          have ba : (q : Int) < (d0.size : Int) := by omega
          have HJ : Hid (ltOf cf d[q]! d[h]! = decide (cf d[q]! d[h]! < 0)) := Lib.hid rfl
          obtain ⟨v, hr⟩ : ∃ r, r = cf d[q]! d[h]! := ⟨_, rfl⟩
          rw [← hr] at hc HJ
          generalize enc d[h]! = cH at lh hc
          generalize enc d[q]! = cA at la hc
          clear hr hhs has hR hq hqb
          by_cases hlv : v < 0
          · as_aux_lemma =>
              have HJ2 : Hid (ltOf cf d[q]! d[h]! = true) := Lib.hid (by rw [HJ.out]; exact decide_eq_true hlv)
              go_quiet_grown (first | (go_at_fn g; refine _root_.Go.Calls.grown_of (hc _ _)))
              have S2 := Lib.hid (S1.out.grown nq osq)
              clear lh la hc S1
              generalize grow (wr.drewN nq) osq = w2 at S2 ⊢
              clear nq osq
              go_wp2_with fail
              exact ⟨⟨st, h, rfl, rfl, i1, HH.out.1, by have := HH.out; omega, S2, HL, Lib.hid (fun _ => by rw [show n - 1 - h = q by have := HQ.out; omega]; exact HJ2.out)⟩, by have := HH.out; simp [RowKit.intOf]; omega⟩
          · as_aux_lemma =>
              have HJ2 : Hid (ltOf cf d[q]! d[h]! = false) := Lib.hid (by rw [HJ.out]; exact decide_eq_false hlv)
              go_quiet_grown (first | (go_at_fn g; refine _root_.Go.Calls.grown_of (hc _ _)))
              have S2 := Lib.hid (S1.out.grown nq osq)
              clear lh la hc S1
              generalize grow (wr.drewN nq) osq = w2 at S2 ⊢
              clear nq osq
              go_wp2_with fail
              exact ⟨⟨h + 1, r, by go_num, rfl, by have := HH.out; omega, by have := HH.out; omega, jb, S2, Lib.hid (fun _ => by rw [show n - (h + 1) = q by have := HQ.out; omega, show h + 1 - 1 = h by omega]; exact HJ2.out), HG⟩, by have := HH.out; simp [RowKit.intOf]; omega⟩
        · obtain rfl : st = r := by omega
          go_wp2_with fail
          go_meet
          have hf := found_of (d := d) (lt := ltOf cf) (start := st) (show a < m by omega) (show m < b by omega) HMID.out HLH.out i1 jb (by rw [← HN.out]; exact HL.out) (by rw [← HN.out, show n - st - 1 = n - 1 - st by omega]; exact HG.out)
          exact ⟨st, rfl, rfl, hf.as, hf.sm, hf.smid, by rw [HN.out]; exact hf.ms, Lib.hid ⟨S1.out, hf⟩⟩
    case rest =>
      obtain ⟨st, rfl, rfl, f1, f2, f3, f4, SF⟩ := hcut
      obtain ⟨en, hen, HEN⟩ : ∃ x : Nat, (n : Int) - (st : Int) = (x : Int) ∧ Hid (x = n - st) := ⟨n - st, by have := HN.out; omega, Lib.hid rfl⟩
      have e1 : m ≤ en := by have := HEN.out; have := HN.out; omega
      have e2 : en ≤ b := by have := HEN.out; have := HN.out; omega
      have e3 : mid ≤ en := by have := HEN.out; have := HN.out; omega
      clear HLH hlo hhi hp1 HPP hn1
      go_upto_region 39 with fail
      clear hen eg
      obtain ⟨c1, HC1⟩ : ∃ c, Hid (c = (decide (st < m) && decide (m < en))) := ⟨_, Lib.hid rfl⟩
      go_cut [20, 185] (fun s20 s185 wx => s20 = .int .i64 st ∧ s185 = .bool c1 ∧ wx = wc)
      case first =>
        rcases Nat.lt_or_ge st m with h1 | h1
        · rcases Nat.lt_or_ge m en with h2 | h2
          · as_aux_lemma =>
              go_wp2_with fail
              go_meet
              exact ⟨rfl, by rw [HC1.out]; simp [h1, h2], rfl⟩
          · as_aux_lemma =>
              go_wp2_with fail
              go_meet
              exact ⟨rfl, by rw [HC1.out]; simp; omega, rfl⟩
        · as_aux_lemma =>
            go_wp2_with fail
            go_meet
            exact ⟨rfl, by rw [HC1.out]; simp; omega, rfl⟩
      case rest =>
      obtain ⟨rfl, rfl, rfl⟩ := hcut
      go_upto_if 185 with fail
      go_cut [20] (fun s20 wx => s20 = .int .i64 st ∧ ∃ d1, Hid (Rot st m en d d1 ∧ SWK enc k w0 blk off d1 wx))
      case first =>
        cases c1 with
        | true =>
          as_aux_lemma =>
            have h12 : st < m ∧ m < en := by have := HC1.out; simpa using this
            go_wp2_with fail
            refine (HROT.out st m en d _ HDS.out SF.out.1 h12.1 h12.2 (by omega)).mono ?_
            rintro e w3 ⟨rfl, d1, hr, hs1⟩
            have HD := Lib.hid (And.intro hr hs1)
            clear hr hs1
            go_wp2_with fail
            go_meet
            exact ⟨rfl, d1, HD⟩
        | false =>
          as_aux_lemma =>
            have h12 : Hid (st = m ∨ m = en) := Lib.hid (by have := HC1.out; simp at this; omega)
            go_wp2_with fail
            go_meet
            exact ⟨rfl, d, Lib.hid ⟨rot_nil h12.out, SF.out.1⟩⟩
      case rest =>
        obtain ⟨rfl, d1, HD⟩ := hcut
        have HF := Lib.hid (found_halves HC.out.swo (by omega) (by omega) HS1.out HS2.out SF.out.2 (by rw [← HN.out, ← HEN.out]; exact HD.out.1))
        rw [← HN.out, ← HEN.out] at HF
        have HDZ : Hid (d1.size = d0.size) := Lib.hid (by rw [HD.out.1.size]; exact HDS.out)
        clear HROT
        go_upto_region 41 with fail
        obtain ⟨c2, HC2⟩ : ∃ c, Hid (c = (decide (a < st) && decide (st < mid))) := ⟨_, Lib.hid rfl⟩
        go_cut [20, 199] (fun s20 s199 wx => s20 = .int .i64 st ∧ s199 = .bool c2 ∧ wx = wc)
        case first =>
          rcases Nat.lt_or_ge a st with h1 | h1
          · rcases Nat.lt_or_ge st mid with h2 | h2
            · as_aux_lemma =>
                go_wp2_with fail
                go_meet
                exact ⟨rfl, by rw [HC2.out]; simp [h1, h2], rfl⟩
            · as_aux_lemma =>
                go_wp2_with fail
                go_meet
                exact ⟨rfl, by rw [HC2.out]; simp; omega, rfl⟩
          · as_aux_lemma =>
              go_wp2_with fail
              go_meet
              exact ⟨rfl, by rw [HC2.out]; simp; omega, rfl⟩
        case rest =>
        obtain ⟨rfl, rfl, rfl⟩ := hcut
        go_upto_if 199 with fail
        go_cut [20] (fun s20 wx => s20 = .int .i64 st ∧ ∃ d2, Hid (PermIn a mid d1 d2 ∧ SortedIn (ltOf cf) a mid d2 ∧ SWK enc k w0 blk off d2 wx))
        case first =>
          cases c2 with
          | true =>
            as_aux_lemma =>
              have h12 : a < st ∧ st < mid := by have := HC2.out; simpa using this
              go_wp2_with fail
              refine (HIH.out a st mid d1 _ (by omega) HDZ.out HD.out.2 h12.1 h12.2 (by omega) HF.out.1 HF.out.2.1).mono ?_
              rintro e w3 ⟨rfl, d2, hp, hs, hw⟩
              have HE := Lib.hid (And.intro hp (And.intro hs hw))
              clear hp hs hw
              go_wp2_with fail
              go_meet
              exact ⟨rfl, d2, HE⟩
          | false =>
            as_aux_lemma =>
              have h12 : Hid (st = a ∨ st = mid) := Lib.hid (by have := HC2.out; simp at this; omega)
              go_wp2_with fail
              go_meet
              exact ⟨rfl, d1, Lib.hid ⟨permIn_refl _ _ _, by
                rcases h12.out with h | h
                · have := HF.out.2.1; rw [h] at this; exact this
                · have := HF.out.1; rw [h] at this; exact this, HD.out.2⟩⟩
        case rest =>
          obtain ⟨rfl, d2, HE⟩ := hcut
          have HDY : Hid (d2.size = d0.size) := Lib.hid (by rw [HE.out.1.1]; exact HDZ.out)
          have HK : Hid (SortedIn (ltOf cf) mid en d2 ∧ SortedIn (ltOf cf) en b d2) := Lib.hid ⟨SortedIn.same HF.out.2.2.1 (fun t h1 _ => HE.out.1.2.1 t (by omega)), SortedIn.same HF.out.2.2.2.1 (fun t h1 _ => HE.out.1.2.1 t (by omega))⟩
          have HEND : Hid (∀ d3 W, PermIn mid b d2 d3 → SortedIn (ltOf cf) mid b d3 → SWK enc k w0 blk off d3 W → SymTo k enc (ltOf cf) blk off w0 a b d (.returned (.tuple #[])) W) := Lib.hid (fun d3 W p3 s3 hw => by
            have hfd := found_done (by omega) (by omega) (by rw [HDZ.out]; exact hb) HF.out.2.2.2.2 HE.out.1 HE.out.2.1 p3 s3
            exact ⟨rfl, d3, permIn_trans _ _ _ _ _ (permIn_mono _ _ _ _ _ _ f1 e2 (by rw [HDS.out]; exact hb) HD.out.1.perm) hfd.1, hfd.2, hw⟩)
          rcases Nat.lt_or_ge mid en with h1 | h1
          · rcases Nat.lt_or_ge en b with h2 | h2
            · as_aux_lemma =>
                go_wp2_with fail
                refine (HIH.out mid en b d2 _ (by omega) HDY.out HE.out.2.2 h1 h2 hb HK.out.1 HK.out.2).mono ?_
                rintro e w3 ⟨rfl, d3, hp, hs, hw⟩
                have HG := Lib.hid (HEND.out d3 w3 hp hs hw)
                clear hp hs hw
                go_wp2_with fail
                go_end0
                exact HG.out
            · as_aux_lemma =>
                go_wp2_with fail
                go_end0
                exact HEND.out d2 _ (permIn_refl _ _ _) (by have := HK.out.1; rw [show en = b by omega] at this; exact this) HE.out.2.2
          · as_aux_lemma =>
              go_wp2_with fail
              go_end0
              exact HEND.out d2 _ (permIn_refl _ _ _) (by have := HK.out.2; rw [show en = mid by omega] at this; exact this) HE.out.2.2

theorem symMerge_any {α : Type} [Inhabited α] {k : Nat} {enc : α → List Value} {cf : α → α → Int} {g : Nat} {cb : Array Value} {blk off : Nat} {d0 : Array α} {w0 : World} (C : SyC k enc cf g cb blk off d0 w0) (cap : Nat) :
    ∀ (N a m b : Nat) (d : Array α) (w : World), b - a < N → d.size = d0.size → SWK enc k w0 blk off d w → a < m → m < b → b ≤ d0.size → SortedIn (ltOf cf) a m d → SortedIn (ltOf cf) m b d →
    Calls Tryz.prog 68 #[.slice (some ⟨blk, off, none⟩) d0.size cap, .int .i64 a, .int .i64 m, .int .i64 b, .func (.func g) #[] cb] w (SymTo k enc (ltOf cf) blk off w0 a b d)
  | 0, _, _, _, _, _, h, _, _, _, _, _, _, _ => absurd h (Nat.not_lt_zero _)
  | N + 1, a, m, b, d, w, h, hs, S, h1, h2, hb, s1, s2 => by
    by_cases e1 : m = a + 1
    · exact sym1_any C cap a m b d w hs S e1 h2 hb s2
    · by_cases e2 : b = m + 1
      · exact sym2_any C cap a m b d w hs S e2 (by omega) hb s1
      · exact sym3_any C cap a m b d w hs S (by omega) (by omega) hb s1 s2 (fun x y z dx W hlt k1 k2 k3 k4 k5 k6 k7 => symMerge_any C cap N x y z dx W (by omega) k1 k2 k3 k4 k5 k6 k7)
end Go.Proofs.YtokllgdbmnmieaaGreat
