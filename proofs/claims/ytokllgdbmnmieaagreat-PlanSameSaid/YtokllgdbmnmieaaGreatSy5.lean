/- slices.stableCmpFunc, SortStableFunc at buckets. -/
import Derived.Test.YtokllgdbmnmieaaGreatSy4
import Derived.Test.YtokllgdbmnmieaaGreatShelf2
namespace Go.Proofs.YtokllgdbmnmieaaGreat
open Go.RowKit Go.Lib Go.Sort

theorem ins_any {α : Type} [Inhabited α] {k : Nat} {enc : α → List Value} {cf : α → α → Int} {g : Nat} {cb : Array Value} {blk off : Nat} {d0 : Array α} {w0 : World} (C : SyC k enc cf g cb blk off d0 w0) (cap a b : Nat) (d : Array α) (w : World)
    (hs : d.size = d0.size) (S : SWK enc k w0 blk off d w) (hab : a ≤ b) (hb : b ≤ d0.size) :
    Calls Tryz.prog 67 #[.slice (some ⟨blk, off, none⟩) d0.size cap, .int .i64 a, .int .i64 b, .func (.func g) #[] cb] w (SymTo k enc (ltOf cf) blk off w0 a b d) := by
  have h := AnyQ.insertionSortCmpFunc_w (P := Tryz.prog) (ρ := Tryz.sortBk_ren) { Tryz.sortBk with } k C.aE C.zE enc cf g cb blk off cap a b d0 d w0 w C.eg C.cmp C.R hs.symm S C.swo hab (by omega) (by have := C.hsz; omega)
  rw [hs] at h
  have hi := insertionSort_holds (lt := ltOf cf) C.swo d a b hab (by omega)
  exact Calls.mono h (fun e w' he => ⟨he.1, _, hi.1, hi.2, he.2⟩)

set_option maxHeartbeats 8000000 in
set_option maxRecDepth 100000 in
theorem stable_any {α : Type} [Inhabited α] {k : Nat} {enc : α → List Value} {cf : α → α → Int} {g : Nat} {cb : Array Value} {blk off : Nat} {d0 : Array α} {w0 : World} (C : SyC k enc cf g cb blk off d0 w0) (cap n : Nat) (hn : n = d0.size) (hn60 : n < 1152921504606846976) (d : Array α) (w : World)
    (hs : d.size = d0.size) (S : SWK enc k w0 blk off d w) :
    Calls Tryz.prog 39 #[.slice (some ⟨blk, off, none⟩) n cap, .int .i64 n, .func (.func g) #[] cb] w (SymTo k enc (ltOf cf) blk off w0 0 n d) := by
  have S0 := Lib.hid S
  have HC := Lib.hid C
  have hsz : n < 4611686018427387904 := by have := C.hsz; omega
  have HDS : Hid (d.size = n) := Lib.hid (by omega)
  have HINS : Hid (∀ (a b : Nat) (dk : Array α) (W : World), dk.size = n → SWK enc k w0 blk off dk W → a ≤ b → b ≤ n → Calls Tryz.prog 67 #[.slice (some ⟨blk, off, none⟩) n cap, .int .i64 a, .int .i64 b, .func (.func g) #[] cb] W (SymTo k enc (ltOf cf) blk off w0 a b dk)) := Lib.hid (fun a b dk W e SK g1 g2 => by
    have := ins_any C cap a b dk W (by omega) SK g1 (by omega)
    rw [← hn] at this
    exact this)
  have HSYM : Hid (∀ (a m b : Nat) (dk : Array α) (W : World), dk.size = n → SWK enc k w0 blk off dk W → a < m → m < b → b ≤ n → SortedIn (ltOf cf) a m dk → SortedIn (ltOf cf) m b dk → Calls Tryz.prog 68 #[.slice (some ⟨blk, off, none⟩) n cap, .int .i64 a, .int .i64 m, .int .i64 b, .func (.func g) #[] cb] W (SymTo k enc (ltOf cf) blk off w0 a b dk)) := Lib.hid (fun a m b dk W e SK g1 g2 g3 s1 s2 => by
    have := symMerge_any C cap (b - a + 1) a m b dk W (by omega) (by omega) SK g1 g2 (by omega) s1 s2
    rw [← hn] at this
    exact this)
  clear S C hs hn
  go_enter Tryz.func39, Tryz.ntmps39
  go_wp2_with fail
  go_loopw [7, 8] (fun s7 s8 wr => ∃ (a b : Nat) (dk : Array α), s7 = .int .i64 a ∧ s8 = .int .i64 b ∧ a ≤ n ∧ b = a + 20 ∧ Hid (∃ q, a = q * 20) ∧ Hid (PermIn 0 n d dk ∧ BlkTo (ltOf cf) 20 a dk ∧ SWK enc k w0 blk off dk wr)) (fun _ t _ => n + 20 - (RowKit.intOf t).toNat)
  case atStart => exact ⟨0, 20, d, rfl, rfl, by omega, rfl, Lib.hid ⟨0, rfl⟩, Lib.hid ⟨permIn_refl _ _ _, BlkTo.zero (by omega) d, S0.out⟩⟩
  case round =>
    clear S0
    obtain ⟨a, b, dk, rfl, rfl, an, hba, HQ, HD⟩ := hrel
    have HBA := Lib.hid hba
    have hab : a ≤ b := by omega
    have hb2 : b ≤ n + 20 := by omega
    clear hba
    have HZ : Hid (dk.size = n) := Lib.hid (by rw [HD.out.1.1]; exact HDS.out)
    by_cases hbn : b ≤ n
    · go_wp2_with fail
      refine (HINS.out a b dk wr HZ.out HD.out.2.2 hab hbn).mono ?_
      rintro e w3 ⟨rfl, d3, hp, hs, hw⟩
      have H3 := Lib.hid (And.intro hp (And.intro hs hw))
      clear hp hs hw
      go_wp2_with fail
      refine ⟨⟨b, b + 20, d3, rfl, by go_num, hbn, rfl, ?_, ?_⟩, by have := HBA.out; simp [RowKit.intOf]; omega⟩
      · obtain ⟨q, hq⟩ := HQ.out
        exact Lib.hid ⟨q + 1, by have := HBA.out; omega⟩
      · obtain ⟨q, hq⟩ := HQ.out
        have hb' : b = (q + 1) * 20 := by have := HBA.out; omega
        refine Lib.hid ⟨permIn_trans _ _ _ _ _ HD.out.1 (permIn_mono _ _ _ _ _ _ (by omega) hbn (by rw [HZ.out]; exact Nat.le_refl _) H3.out.1), ?_, H3.out.2.2⟩
        have h5 := HD.out.2.1
        have h6 := H3.out.1
        have h7 := H3.out.2.1
        rw [hq] at h5 h6 h7
        rw [hb'] at h6 h7 ⊢
        exact BlkTo.next h5 h6 h7
    · go_wp2_with fail
      refine (HINS.out a n dk wr HZ.out HD.out.2.2 an (Nat.le_refl _)).mono ?_
      rintro e w3 ⟨rfl, d3, hp, hs, hw⟩
      have H3 : Hid (PermIn 0 n d d3 ∧ BlkFrom (ltOf cf) 20 0 n d3 ∧ SWK enc k w0 blk off d3 w3) := Lib.hid (by
        obtain ⟨q, hq⟩ := HQ.out
        have h5 := HD.out.2.1
        have h9 := permIn_trans _ _ _ _ _ HD.out.1 (permIn_mono _ _ _ _ _ _ (Nat.zero_le a) (Nat.le_refl _) (by rw [HZ.out]; exact Nat.le_refl _) hp)
        rw [hq] at h5 hp hs
        exact ⟨h9, BlkTo.whole (by omega) h5 (by omega) (by have := HBA.out; omega) hp hs, hw⟩)
      clear hp hs hw HD HZ hbn an hab hb2 HQ HBA HINS
      go_wp2_with fail
      go_loopw [6] (fun s6 wr => ∃ (B : Nat) (dk : Array α), s6 = .int .i64 B ∧ 20 ≤ B ∧ B ≤ 2 * n + 20 ∧ Hid (PermIn 0 n d dk ∧ BlkFrom (ltOf cf) B 0 n dk ∧ SWK enc k w0 blk off dk wr)) (fun t _ => 2 * n + 20 - (RowKit.intOf t).toNat)
      case atStart => exact ⟨20, d3, rfl, by omega, by omega, H3⟩
      case round =>
        clear H3
        obtain ⟨B, dk, rfl, hB, hB2, HD⟩ := hrel
        by_cases hBn : B < n
        · obtain ⟨D, hD, HDD⟩ : ∃ D : Nat, 2 * (B : Int) = (D : Int) ∧ Hid (D = 2 * B) := ⟨2 * B, by omega, Lib.hid rfl⟩
          have hD1 : D < 2305843009213693952 := by have := HDD.out; omega
          have hD0 : 40 ≤ D := by have := HDD.out; omega
          go_upto_block 4 with fail
          go_cut [7] (fun s7 wx => ∃ (a : Nat) (dk : Array α), s7 = .int .i64 a ∧ a ≤ n ∧ n < a + D ∧ Hid (∃ q, a = q * D) ∧ Hid (PermIn 0 n d dk ∧ BlkTo (ltOf cf) D a dk ∧ BlkFrom (ltOf cf) B a n dk ∧ SWK enc k w0 blk off dk wx))
          case first =>
            go_wp2_with fail
            go_loopw [7, 8] (fun s7 s8 wr => ∃ (a b : Nat) (dk : Array α), s7 = .int .i64 a ∧ s8 = .int .i64 b ∧ a ≤ n ∧ b = a + D ∧ Hid (∃ q, a = q * D) ∧ Hid (PermIn 0 n d dk ∧ BlkTo (ltOf cf) D a dk ∧ BlkFrom (ltOf cf) B a n dk ∧ SWK enc k w0 blk off dk wr)) (fun s _ _ => n - (RowKit.intOf s).toNat)
            case atStart => exact ⟨0, D, dk, rfl, by first | rfl | (rw [hD]), by omega, by omega, Lib.hid ⟨0, by omega⟩, Lib.hid ⟨HD.out.1, BlkTo.zero (by omega) dk, HD.out.2.1, HD.out.2.2⟩⟩
            case round =>
              clear HD
              obtain ⟨a, b, dk, rfl, rfl, an, hba, HQ, HD⟩ := hrel
              have hb3 : b ≤ n + D := by omega
              have HBA := Lib.hid hba
              have hab : a < b := by omega
              clear hba
              have HZ : Hid (dk.size = n) := Lib.hid (by rw [HD.out.1.1]; exact HDS.out)
              by_cases hbn : b ≤ n
              · obtain ⟨m, hm, HM⟩ : ∃ m : Nat, (a : Int) + (B : Int) = (m : Int) ∧ Hid (m = a + B) := ⟨a + B, by omega, Lib.hid rfl⟩
                obtain ⟨b2, hb2', HB2⟩ : ∃ b2 : Nat, (b : Int) + (D : Int) = (b2 : Int) ∧ Hid (b2 = b + D) := ⟨b + D, by omega, Lib.hid rfl⟩
                have HPT : Hid (SortedIn (ltOf cf) a m dk ∧ SortedIn (ltOf cf) m b dk) := Lib.hid (by
                  obtain ⟨q, hq⟩ := HQ.out
                  have h5 := HD.out.2.2.1
                  have hqq : (q + 1) * D = b := by have := HBA.out; rw [Nat.add_mul, Nat.one_mul]; omega
                  rw [hq, HDD.out] at h5
                  have h6 := blk_parts h5 (by rw [← HDD.out, hqq]; exact hbn)
                  rw [← HDD.out, hqq, ← hq, ← HM.out] at h6
                  exact h6)
                go_wp2_with fail
                refine (HSYM.out a m b dk wr HZ.out HD.out.2.2.2 (by have := HM.out; omega) (by have := HM.out; have := HBA.out; have := HDD.out; omega) hbn HPT.out.1 HPT.out.2).mono ?_
                rintro e w4 ⟨rfl, d4, hp, hs, hw⟩
                have H4 := Lib.hid (And.intro hp (And.intro hs hw))
                clear hp hs hw
                go_wp2_with fail
                refine ⟨⟨b, b2, d4, rfl, by first | rfl | (rw [hb2']), hbn, HB2.out, ?_, ?_⟩, by simp [RowKit.intOf]; omega⟩
                · obtain ⟨q, hq⟩ := HQ.out
                  exact Lib.hid ⟨q + 1, by have := HBA.out; rw [Nat.add_mul, Nat.one_mul]; omega⟩
                · obtain ⟨q, hq⟩ := HQ.out
                  have hqq : (q + 1) * D = b := by have := HBA.out; rw [Nat.add_mul, Nat.one_mul]; omega
                  have h5 := HD.out.2.1
                  have h6 := HD.out.2.2.1
                  have h7 := H4.out.1
                  have h8 := H4.out.2.1
                  rw [hq, HDD.out] at h5 h6
                  rw [← hqq, hq, HDD.out] at h7 h8
                  have h9 := blk_pair h5 h6 h7 h8
                  rw [← HDD.out, hqq] at h9
                  exact Lib.hid ⟨permIn_trans _ _ _ _ _ HD.out.1 (permIn_mono _ _ _ _ _ _ (by omega) hbn (by rw [HZ.out]; exact Nat.le_refl _) H4.out.1), h9.1, h9.2, H4.out.2.2⟩
              · go_wp2_with fail
                go_meet
                exact ⟨a, dk, rfl, an, by have := HBA.out; omega, HQ, HD⟩
          case rest =>
            clear HD
            obtain ⟨a, dk, rfl, an, hna, HQ, HD⟩ := hcut
            have HZ : Hid (dk.size = n) := Lib.hid (by rw [HD.out.1.1]; exact HDS.out)
            obtain ⟨m, hm, HM⟩ : ∃ m : Nat, (a : Int) + (B : Int) = (m : Int) ∧ Hid (m = a + B) := ⟨a + B, by omega, Lib.hid rfl⟩
            have hB2' : (B : Int) * 2 = (D : Int) := by omega
            have HPT : Hid (SortedIn (ltOf cf) a (min m n) dk ∧ SortedIn (ltOf cf) m n dk) := Lib.hid (by
              obtain ⟨q, hq⟩ := HQ.out
              have h5 := HD.out.2.2.1
              rw [hq, HDD.out] at h5
              have h6 := blk_rest h5 (by rw [← HDD.out, Nat.add_mul, Nat.one_mul, ← hq]; exact hna)
              rw [← HDD.out, ← hq, ← HM.out] at h6
              exact h6)
            have HEND : Hid (∀ d4 W, PermIn a n dk d4 → SortedIn (ltOf cf) a n d4 → SWK enc k w0 blk off d4 W → PermIn 0 n d d4 ∧ BlkFrom (ltOf cf) D 0 n d4 ∧ SWK enc k w0 blk off d4 W) := Lib.hid (fun d4 W hp hs hw => by
              obtain ⟨q, hq⟩ := HQ.out
              have h5 := HD.out.2.1
              refine ⟨permIn_trans _ _ _ _ _ HD.out.1 (permIn_mono _ _ _ _ _ _ (Nat.zero_le a) (Nat.le_refl _) (by rw [HZ.out]; exact Nat.le_refl _) hp), ?_, hw⟩
              rw [hq] at h5 hp hs
              exact BlkTo.whole (by omega) h5 (by omega) (by rw [Nat.add_mul, Nat.one_mul]; omega) hp hs)
            by_cases hmn : m < n
            · go_wp2_with fail
              refine (HSYM.out a m n dk wc HZ.out HD.out.2.2.2 (by have := HM.out; omega) hmn (Nat.le_refl _) (by have := HPT.out.1; rw [Nat.min_eq_left (by omega)] at this; exact this) HPT.out.2).mono ?_
              rintro e w4 ⟨rfl, d4, hp, hs, hw⟩
              have H4 := Lib.hid (HEND.out d4 w4 hp hs hw)
              clear hp hs hw
              go_wp2_with fail
              exact ⟨⟨D, d4, by first | rfl | (rw [hB2']), by omega, by have := HDD.out; omega, H4⟩, by have := HDD.out; simp [RowKit.intOf]; omega⟩
            · have H4 := Lib.hid (HEND.out dk wc (permIn_refl _ _ _) (by have := HPT.out.1; rw [Nat.min_eq_right (by omega)] at this; exact this) HD.out.2.2.2)
              go_wp2_with fail
              exact ⟨⟨D, dk, by first | rfl | (rw [hB2']), by omega, by have := HDD.out; omega, H4⟩, by have := HDD.out; simp [RowKit.intOf]; omega⟩
        · have HE := Lib.hid (blk_one HD.out.2.1 (by omega))
          go_wp2_with fail
          go_end0
          exact ⟨rfl, dk, HD.out.1, HE.out, HD.out.2.2⟩
end Go.Proofs.YtokllgdbmnmieaaGreat
