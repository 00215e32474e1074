/- The document's table (tidemillref16): Fits, the walk. -/
import Derived.Test.YtabnngcaohgppaaRtf
namespace Go.Proofs.Ytabnngcaohgppaa
open Go.RowKit Go.Sort Go.Lib

set_option maxHeartbeats 8000000 in
set_option maxRecDepth 100000 in
theorem rt_fits {w : World} {rd : Nat} {most : Int} {L : List (ByteArray × Sl)} {la : Option Addr} {lc : Nat} (h : RTab w rd most L la lc) (hL : L.length ≤ 3000) (hn : (L.map (·.1)).Nodup) (hs : (L.map fun p => p.2.l.length).sum ≤ 3000) (a : Option Addr) (n c : Nat) (l : List Sm) (hl : Src w 3 (.slice a n c) n (sms l)) (hn3 : n ≤ 3000) :
    Calls Try.prog 21 #[.pointer (some ⟨rd, 0, none⟩), .slice a n c] w fun e w' => e = .returned (.bool (decide (((((L.map fun p => p.2.l.length).sum + (freshPl L l).length : Nat)) : Int) ≤ most))) ∧ Ext w w' := by
  have H := Lib.hid h
  have HN := Lib.hid hn
  have HS := Lib.hid hs
  have HL := Lib.hid hl
  have LN := Lib.hid (sms_src_len hl)
  clear h hn hs hl
  obtain ⟨tot, htot⟩ : ∃ tot, tot = (L.map fun p => p.2.l.length).sum := ⟨_, rfl⟩
  have HT := Lib.hid htot
  have ht3 : tot ≤ 3000 := by rw [htot]; exact HS.out
  rw [← htot]
  clear htot
  go_enter Try.func21, Try.ntmps21
  go_wp2_with fail
  refine (rt_len H.out (by have h2 := HS.out; omega) (by omega)).mono ?_
  rintro e w' ⟨rfl, rfl⟩
  rw [← HT.out]
  go_wp2_with fail
  go_loopw [5, 6, 7, 8] (fun s5 s6 s7 s8 wr => ∃ (j m : Nat), j ≤ n ∧ s6 = .int .i64 j ∧ s5 = .int .i64 m ∧ m ≤ tot + j ∧ Hid (m = tot + (freshPl L (l.take j)).length ∧ Ext w wr)) (fun _ s6 _ _ _ => n - (RowKit.intOf s6).toNat)
  case atStart => exact ⟨0, tot, by omega, rfl, rfl, by omega, Lib.hid ⟨by simp [freshPl], Ext.refl w⟩⟩
  case round =>
    obtain ⟨j, m, hj, rfl, rfl, hm, HI⟩ := hrel
    by_cases hlt : j < n
    · obtain ⟨qb, qo, q, rfl, hq, q0, q1, q2⟩ := sms_src (HL.out.ext HI.out.2) hlt
      have HQ := Lib.hid hq
      clear hq q2
      go_wp2_with fail
      go_loopw [7, 8] (fun s7 s8 wq => ∃ (k : Nat) (b : Bool), k ≤ j ∧ s8 = .int .i64 k ∧ s7 = .bool b ∧ Hid (b = firstOf l q k ∧ Ext wr wq)) (fun _ s8 _ => j - (RowKit.intOf s8).toNat)
      case atStart => exact ⟨0, true, by omega, rfl, rfl, Lib.hid ⟨by simp [firstOf], Ext.refl _⟩⟩
      case round =>
        obtain ⟨k, b, hk, rfl, rfl, HJ⟩ := hrel
        by_cases hkj : k < j
        · obtain ⟨xb, xo, x, hxa, hx, x0, x1, x2⟩ := sms_src (HL.out.ext (HI.out.2.trans HJ.out.2)) (show k < n by omega)
          cases hxa
          replace q0 := (HJ.out.2.cell (p := ⟨qb, qo + j * 3, none⟩) (World.block_lt_of_cell? _ _ q0)).trans q0
          replace q1 := (HJ.out.2.cell (p := ⟨qb, qo + j * 3 + 1, none⟩) (World.block_lt_of_cell? _ _ q1)).trans q1
          have HX := Lib.hid hx
          clear hx x2
          have hkn : k < n := by omega
          go_wp2_with fail
          obtain ⟨bs, hbs⟩ : ∃ bs, bs = decide (x.s = q.s) := ⟨_, rfl⟩
          obtain ⟨bt, hbt⟩ : ∃ bt, bt = decide (x.t = q.t) := ⟨_, rfl⟩
          have hes : (x.s.toList == q.s.toList) = bs := by rw [str_eq, hbs]
          have het : (x.t == q.t) = bt := by rw [hbt]; rfl
          have HB : Hid (firstOf l q (k + 1) = (firstOf l q k && !(bs && bt))) := Lib.hid (by rw [hbs, hbt]; exact firstOf_step HX.out)
          clear hbs hbt
          cases b
          case' true => cases bs
          case' true.true => cases bt
          all_goals
            go_big_quiet (fail)
            go_wp2_with fail
            go_roundw
            case rel => exact ⟨k + 1, _, by omega, by go_num, rfl, Lib.hid ⟨by rw [HB.out, ← HJ.out.1]; first | rfl | (simp only [bne, hes, het]; rfl), HJ.out.2.drewN' _⟩⟩
            case measure => simp [RowKit.intOf]; omega
        · obtain rfl : k = j := by omega
          have hx2 := HI.out.2.trans HJ.out.2
          obtain ⟨hv, hhv⟩ : ∃ hv, hv = hasL (tabPts L q.s) q.t := ⟨_, rfl⟩
          have HHas : Hid (∀ w', Ext wr w' → Calls Try.prog 30 #[.pointer (some ⟨rd, 0, none⟩), .string q.s, .int .i64 q.t] w' fun e w2 => e = .returned (.bool hv) ∧ w2 = w') := Lib.hid (fun w' hx => by
            rw [hhv]
            exact (rt_has (H.out.ext (hx2.trans hx)) (by omega) HN.out (fun p hp => by have h1 := le_sum (f := fun p : ByteArray × Sl => p.2.l.length) hp; have h2 := HS.out; omega) q.s q.t).mono (by rintro e w2 ⟨h1, rfl⟩; exact ⟨h1, rfl⟩))
          have HF : Hid ((freshPl L (l.take (k + 1))).length = if b = true ∧ hv = false then (freshPl L (l.take k)).length + 1 else (freshPl L (l.take k)).length) := Lib.hid (by rw [HJ.out.1, hhv]; exact fresh_of_first HQ.out)
          replace q0 := (HJ.out.2.cell (p := ⟨qb, qo + k * 3, none⟩) (World.block_lt_of_cell? _ _ q0)).trans q0
          replace q1 := (HJ.out.2.cell (p := ⟨qb, qo + k * 3 + 1, none⟩) (World.block_lt_of_cell? _ _ q1)).trans q1
          clear hhv hx2
          cases b
          case' true => cases hv
          all_goals
            go_wp2_with fail
            go_big_quiet (first | (go_at_call 30; exact Calls.quiet_of_same (HHas.out _ (by first | exact Ext.refl _ | exact Ext.drewN _ _ | exact (Ext.refl _).drew))))
            go_wp2_with fail
            go_roundw
            case rel => first
              | exact ⟨k + 1, m, by omega, by go_num, rfl, by omega, Lib.hid ⟨by rw [HF.out]; have := HI.out.1; simp; omega, (HI.out.2.trans HJ.out.2).drewN' _⟩⟩
              | exact ⟨k + 1, m + 1, by omega, by go_num, by go_num, by omega, Lib.hid ⟨by rw [HF.out]; have := HI.out.1; simp; omega, (HI.out.2.trans HJ.out.2).drewN' _⟩⟩
            case measure => simp [RowKit.intOf]; omega
    · have HE : Hid ((freshPl L l).length + tot = m) := Lib.hid (by have := HI.out.1; rw [List.take_of_length_le (by have := LN.out; omega)] at this; omega)
      have cm : wr.cell? ⟨rd, 0, none⟩ = some (.int .i64 most) := by have := cell_of_block (H.out.ext HI.out.2).blk 0; simpa using this
      go_wp2_with fail
      go_ret
      rw [show tot + (freshPl L l).length = m by have := HE.out; omega]
      exact ⟨rfl, HI.out.2⟩
end Go.Proofs.Ytabnngcaohgppaa
