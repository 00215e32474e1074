/- rollup.Find in one part. -/
import Derived.Test.YthpindmcklennaaExp
namespace Go.Proofs.Ythpindmcklennaa
open Go.RowKit Go.Lib Go.Sort

theorem same_eqB (a b : ByteArray) : (a.toList == b.toList) = decide (a = b) := by
  rw [← beq_toListBytes, bytes_beq]

set_option maxHeartbeats 600000 in
theorem find1_any (w : World) (name nm : ByteArray) (ba : Option Addr) (n bc g : Nat) (hg : w.cell? ⟨g, 0, none⟩ = some (.string nm)) :
    Calls Try.prog 31 #[.agg #[.string name, .slice ba n bc], .pointer (some ⟨g, 0, none⟩)] w fun e w' => e = .returned (.bool (decide (name = nm))) ∧ Ext w w' := by
  have HE := Lib.hid (same_eqB name nm)
  go_enter Try.func31, Try.ntmps31
  have k0 : ∀ o, (w.alloc o).cell? ⟨g, 0, none⟩ = some (.string nm) := fun o => (((Ext.refl w).alloc o).cell (World.block_lt_of_cell? w _ hg)).trans hg
  clear hg
  go_wp2_with fail
  go_ret
  rw [← HE.out]
  exact ⟨rfl, (Ext.refl w).alloc _⟩

set_option maxHeartbeats 600000 in
theorem idx_any (w : World) (pa : Addr) (pc : Nat) (name nm : ByteArray) (ba : Option Addr) (n bc g : Nat) (B : List Bk) (hp : PartAt w pa name ba n bc B) (hg : w.cell? ⟨g, 0, none⟩ = some (.string nm)) :
    Calls Try.prog 30 #[.slice (some pa) 1 pc, .func (.func 31) #[] #[.pointer (some ⟨g, 0, none⟩)]] w fun e w' => e = .returned (.int .i64 (if name = nm then 0 else -1)) ∧ Ext w w' := by
  obtain ⟨pb, po, psp⟩ := pa
  have hsp := hp.spot
  simp only at hsp
  subst hsp
  have HPA := Lib.hid hp
  have HG := Lib.hid hg
  obtain ⟨Z, hZ⟩ : ∃ Z : Int, Z = if name = nm then 0 else -1 := ⟨_, rfl⟩
  rw [← hZ]
  have HZ := Lib.hid hZ
  clear hp hg hZ
  go_enter Try.func30, Try.ntmps30
  go_wp2_with fail
  go_loopw [8] (fun s8 wr => ∃ k : Nat, k ≤ 1 ∧ s8 = .int .i64 k ∧ Hid (Ext w wr ∧ (k = 1 → name ≠ nm))) (fun i _ => 1 - (RowKit.intOf i).toNat)
  case atStart => exact ⟨0, by omega, rfl, Lib.hid ⟨Ext.refl _, fun h => by omega⟩⟩
  case round =>
    obtain ⟨k, hk, rfl, HI⟩ := hrel
    rcases Nat.lt_or_ge k 1 with hk1 | hk1
    · obtain rfl : k = 0 := by omega
      have c0 := (HPA.out.ext HI.out.1).c0
      have c1 := (HPA.out.ext HI.out.1).c1
      simp only at c0 c1
      go_wp2_with fail
      refine (find1_any wr name nm ba n bc g ((HI.out.1.cell (World.block_lt_of_cell? w _ HG.out)).trans HG.out)).mono ?_
      rintro e w1 ⟨rfl, hx⟩
      have HX := Lib.hid (HI.out.1.trans hx)
      clear hx c0 c1
      by_cases hn : name = nm
      · have HD : Hid (decide (name = nm) = true) := Lib.hid (by simp [hn])
        have HD2 : Hid (Z = 0) := Lib.hid (by rw [HZ.out, if_pos hn])
        rw [HD.out]
        clear hn
        go_wp2_with fail
        go_ret
        rw [HD2.out]
        exact ⟨rfl, HX.out⟩
      · have HD : Hid (decide (name = nm) = false) := Lib.hid (by simp [hn])
        have HN := Lib.hid hn
        rw [HD.out]
        clear hn
        go_wp2_with fail
        exact ⟨⟨1, by omega, rfl, Lib.hid ⟨HX.out, fun _ => HN.out⟩⟩, by simp [RowKit.intOf]⟩
    · obtain rfl : k = 1 := by omega
      have HD2 : Hid (Z = -1) := Lib.hid (by rw [HZ.out, if_neg (HI.out.2 (by simp))])
      go_wp2_with fail
      go_ret
      rw [HD2.out]
      exact ⟨rfl, HI.out.1⟩

/-- What is found. -/
def fndP (from' to' : Int) (b : Bk) : Bool := decide (from' ≤ b.lo) && decide (b.hi ≤ to')

set_option maxHeartbeats 1000000 in
set_option maxRecDepth 100000 in
theorem find_any (w : World) (pa : Addr) (pc : Nat) (name nm : ByteArray) (ba : Option Addr) (n bc : Nat) (B F : List Bk) (from' to' : Int) (hp : PartAt w pa name ba n bc B) (hn : n ≤ 100000)
    (hF : F = if name = nm then B.filter (fndP from' to') else []) :
    Calls Try.prog 12 #[.slice (some pa) 1 pc, .string nm, .agg #[.int .i64 from', .int .i64 to']] w fun e w' => ∃ v, e = .returned v ∧ MadeTo w 39 13 v F.length (bks F) w' := by
  obtain ⟨pb, po, psp⟩ := pa
  have hsp := hp.spot
  simp only at hsp
  subst hsp
  have HPA := Lib.hid hp
  have HLN := Lib.hid (enc_src_len bkc_len (by decide) hp.src)
  have HF := Lib.hid hF
  have hmf : ∀ (fn : Fn) (first cap : Array Value) (w : World), (Instr.makeFunc fn first cap).run Try.prog w = .ok (.func fn first cap) w := fun _ _ _ _ => rfl
  clear hp hF
  go_enter Try.func12, Try.ntmps12
  go_wp2_with fail
  have HA0 : Hid (((w.alloc (.cells #[.string nm] 9 (0, 0))).alloc (.cells #[.int .i64 from', .int .i64 to'] 37 (0, 0))).heap[w.heap.size]? = some (.cells #[.string nm] 9 (0, 0))) := Lib.hid ((((Ext.refl _).alloc _).block (block_lt (heap_alloc_new w _))).trans (heap_alloc_new w _))
  have HA1 := Lib.hid (heap_alloc2 w (.cells #[.string nm] 9 (0, 0)) (.cells #[.int .i64 from', .int .i64 to'] 37 (0, 0)))
  have HX0 : Hid (Ext w ((w.alloc (.cells #[.string nm] 9 (0, 0))).alloc (.cells #[.int .i64 from', .int .i64 to'] 37 (0, 0)))) := Lib.hid (((Ext.refl w).alloc _).alloc _)
  refine (idx_any _ ⟨pb, po, none⟩ pc name nm ba n bc w.heap.size B (HPA.out.ext HX0.out) (by simp)).mono ?_
  rintro e w1 ⟨rfl, hx1⟩
  have HX1 := Lib.hid (HX0.out.trans hx1)
  have HB1 := Lib.hid ((hx1.block (block_lt HA1.out)).trans HA1.out)
  clear hx1 hmf
  by_cases hnm : name = nm
  case neg =>
    have HF0 : Hid (F = []) := Lib.hid (by rw [HF.out, if_neg hnm])
    rw [if_neg hnm]
    clear hnm
    go_wp2_with fail
    go_ret
    refine ⟨_, rfl, ?_⟩
    rw [HF0.out]
    exact ⟨Row.nil _ _ _, fun g hg => by simp [Value.ownBlock] at hg, HX1.out⟩
  have HF0 : Hid (F = B.filter (fndP from' to')) := Lib.hid (by rw [HF.out, if_pos hnm])
  rw [if_pos hnm]
  clear hnm HF
  have c1 := (HPA.out.ext HX1.out).c1
  simp only at c1
  go_wp2_with fail
  clear c1
  go_loopw [8, 22] (fun s8 s22 wz => ∃ (j m vc : Nat) (va : Option Addr), j ≤ n ∧ s22 = .int .i64 j ∧ s8 = .slice va m vc ∧ m ≤ n ∧ Hid (MadeTo w1 39 13 (.slice va m vc) m (bks ((B.take j).filter (fndP from' to'))) wz ∧ ((B.take j).filter (fndP from' to')).length = m)) (fun _ i _ => n - (RowKit.intOf i).toNat)
  case atStart => exact ⟨0, 0, 0, none, by omega, rfl, rfl, by omega, Lib.hid ⟨⟨Row.nil _ _ _, fun g hg => by simp [Value.ownBlock] at hg, Ext.refl _⟩, rfl⟩⟩
  case round =>
    obtain ⟨j, m, vc, va, hj, rfl, rfl, hmn, HM⟩ := hrel
    by_cases hjn : j < n
    · obtain ⟨b, so, bk, rfl, hbk, hrg⟩ := enc_src bkc_len (by decide) (HPA.out.src.ext (HX1.out.trans HM.out.1.ext)) hjn
      have HRG := Lib.hid hrg
      have HBK := Lib.hid hbk
      have HFT := Lib.hid (filter_take (P := fndP from' to') hbk)
      have hmj : m ≤ j := by
        have h1 := HM.out.2
        have h2 := List.length_filter_le (fndP from' to') (B.take j)
        rw [List.length_take] at h2
        omega
      clear hrg hbk
      obtain ⟨lo, hi, an, asu, mn, mx, ⟨ft, fv, fs⟩, ⟨lt, lv, ls⟩⟩ := bk
      obtain ⟨sh, hsh⟩ : ∃ x, x = asu / 18446744073709551616 := ⟨_, rfl⟩
      obtain ⟨sl, hsl⟩ : ∃ x, x = asu % 18446744073709551616 := ⟨_, rfl⟩
      have HBC : Hid (bkc ⟨lo, hi, an, asu, mn, mx, ⟨ft, fv, fs⟩, ⟨lt, lv, ls⟩⟩ = [.int .i64 lo, .int .i64 hi, .int .i64 an, .int .i64 sh, .int .u64 sl, .int .i64 mn, .int .i64 mx, .int .i64 ft, .int .i64 fv, .int .i64 fs, .int .i64 lt, .int .i64 lv, .int .i64 ls]) := Lib.hid (by rw [hsh, hsl]; rfl)
      rw [HBC.out] at HRG
      clear hsh hsl
      have HIN : Hid ((Try.prog.info? 39).map (·.size) = some 13) := Lib.hid (by kernel_rfl)
      have HAL : Hid (([.int .i64 lo, .int .i64 hi, .int .i64 an, .int .i64 sh, .int .u64 sl, .int .i64 mn, .int .i64 mx, .int .i64 ft, .int .i64 fv, .int .i64 fs, .int .i64 lt, .int .i64 lv, .int .i64 ls] : List Value).toArray.all (·.oneCell') = true) := Lib.hid (by simp [Value.oneCell'])
      have HS1 := Lib.hid (fun w6 (hx : Ext wr w6) => (HM.out.1.ext.trans hx).block (block_lt HB1.out) |>.trans HB1.out)
      have hcases : (from' ≤ lo ∧ hi ≤ to') ∨ (from' ≤ lo ∧ ¬ hi ≤ to') ∨ (¬ from' ≤ lo) := by omega
      rcases hcases with ⟨hb1, hb2⟩ | ⟨hb1, hb2⟩ | hb1
      case' inl =>
        have HE : Hid ((B.take (j + 1)).filter (fndP from' to') = (B.take j).filter (fndP from' to') ++ [⟨lo, hi, an, asu, mn, mx, ⟨ft, fv, fs⟩, ⟨lt, lv, ls⟩⟩]) := Lib.hid (by rw [HFT.out]; simp [fndP, hb1, hb2])
      case' inr.inl =>
        have HE : Hid ((B.take (j + 1)).filter (fndP from' to') = (B.take j).filter (fndP from' to')) := Lib.hid (by rw [HFT.out]; simp [fndP, hb2])
      case' inr.inr =>
        have HE : Hid ((B.take (j + 1)).filter (fndP from' to') = (B.take j).filter (fndP from' to')) := Lib.hid (by rw [HFT.out]; simp [fndP, hb1])
      all_goals
        go_wp2_with (first | (refine wpList_load_mid rfl _ _ rfl b (so + j * 13) rfl [.int .i64 lo, .int .i64 hi, .int .i64 an, .int .i64 sh, .int .u64 sl, .int .i64 mn, .int .i64 mx, .int .i64 ft, .int .i64 fv, .int .i64 fs, .int .i64 lt, .int .i64 lv, .int .i64 ls] _ HRG.out Try.underlying39 rfl HIN.out ?_) | (refine wpList_store_box rfl _ _ _ rfl _ _ _ _ rfl rfl (heap_alloc_new wr _) rfl HIN.out HAL.out ?_; rintro w6 hb6 hc6; have k0 : w6.cell? ⟨wr.heap.size, 0, none⟩ = some (.int .i64 lo) := (by have := cell_of_block hb6 0; simpa using this); have k1 : w6.cell? ⟨wr.heap.size, 1, none⟩ = some (.int .i64 hi) := (by have := cell_of_block hb6 1; simpa using this); have HB6 := Lib.hid hb6; have HX6 : Hid (Ext wr w6) := Lib.hid (((Chg.of_ext ((Ext.refl wr).alloc _)).trans hc6 (fun _ _ e => e)).ext (fun i hi e => by omega)); have k2 : w6.cell? ⟨w.heap.size + 1, 0, none⟩ = some (.int .i64 from') := (by have := cell_of_block (HS1.out _ HX6.out) 0; simpa using this); have k3 : w6.cell? ⟨w.heap.size + 1, 1, none⟩ = some (.int .i64 to') := (by have := cell_of_block (HS1.out _ HX6.out) 1; simpa using this); clear hb6 hc6) | (refine wpList_load_box rfl _ _ rfl _ _ _ _ _ rfl HB6.out Try.underlying39 rfl HIN.out ?_) | (refine wpList_append_start elem_bk rfl _ _ rfl rfl rfl (Start.row ((HM.out.1.row.ext HX6.out).alloc _) HM.out.1.own) ((HM.out.1.ext.trans HX6.out).alloc _) (enc_one (p := (⟨lo, hi, an, asu, mn, mx, ⟨ft, fv, fs⟩, ⟨lt, lv, ls⟩⟩ : Bk)) (enc := bkc) (heap_alloc_new w6 _) HBC.out rfl (bkc_one _)) (by omega) (by unfold maxLen; omega) (by omega) ?_; rintro v' w9 ha; obtain ⟨va', vc', rfl⟩ := ha.row.shape; have HA := Lib.hid ha; clear ha))
        first
          | (refine ⟨⟨j + 1, m + 1, vc', va', by omega, by go_num, rfl, by omega, Lib.hid ⟨?_, ?_⟩⟩, ?_⟩
             · rw [HE.out, bks_append]; exact HA.out
             · rw [HE.out, List.length_append, HM.out.2]; rfl
             · simp [RowKit.intOf]; omega)
          | (refine ⟨⟨j + 1, m, vc, va, by omega, by go_num, rfl, by omega, Lib.hid ⟨?_, ?_⟩⟩, ?_⟩
             · rw [HE.out]; exact ⟨HM.out.1.row.ext HX6.out, HM.out.1.own, HM.out.1.ext.trans HX6.out⟩
             · rw [HE.out]; exact HM.out.2
             · simp [RowKit.intOf]; omega)
    · have HKN : Hid (B.take j = B) := Lib.hid (by rw [List.take_of_length_le (by have := HLN.out; omega)])
      rw [HKN.out, ← HF0.out] at HM
      go_wp2_with fail
      go_ret
      refine ⟨_, rfl, ?_⟩
      rw [HM.out.2]
      exact ⟨HM.out.1.row, fun g hg => Nat.le_trans HX1.out.size (HM.out.1.own g hg), HX1.out.trans HM.out.1.ext⟩
end Go.Proofs.Ythpindmcklennaa
