/- tidemillref18.Right of a state that has tiers alone; tidemilllaw26.fine. -/
import Derived.Test.YtpgnkknelaajdaaPlA
namespace Go.Proofs.Ytpgnkknelaajdaa
open Go.RowKit Go.Sort Go.Lib

set_option maxHeartbeats 1000000 in
theorem in18_any (n a b : Int) (w : World) :
    Calls Try.prog 21 #[.int .i64 n, .int .i64 a, .int .i64 b] w fun e w' => e = .returned (.bool (withinB n a b)) ∧ w = w' := by
  by_cases h1 : a ≤ n <;> by_cases h2 : n ≤ b
  all_goals
    have Hf : Hid (withinB n a b = (decide (a ≤ n) && decide (n ≤ b))) := rfl
    go_enter Try.func21, Try.ntmps21
    go_wp2
    go_ret
    exact ⟨by rw [Hf.out]; simp [*], rfl⟩

def nameB (s : ByteArray) : Bool := decide (1 ≤ s.size) && decide (s.size ≤ 64)
set_option maxHeartbeats 1000000 in
theorem name18_any (s : ByteArray) (w : World) :
    Calls Try.prog 23 #[.string s] w fun e w' => e = .returned (.bool (nameB s)) ∧ w = w' := by
  by_cases h1 : 1 ≤ s.size <;> by_cases h2 : s.size ≤ 64
  all_goals
    have Hf : Hid (nameB s = (decide (1 ≤ s.size) && decide (s.size ≤ 64))) := rfl
    have h1' : (1 ≤ (s.size : Int)) ↔ 1 ≤ s.size := by omega
    have h2' : ((s.size : Int) ≤ 64) ↔ s.size ≤ 64 := by omega
    go_enter Try.func23, Try.ntmps23
    go_wp2
    all_goals
      go_ret
      exact ⟨by rw [Hf.out]; first | (simp [*]; done) | (simp [*]; omega), rfl⟩

set_option maxHeartbeats 1000000 in
theorem mark0 (w : World) : Calls Try.prog 22 #[.agg #[.bool false, .int .i64 0, .int .i64 0]] w fun e w' => e = .returned (.bool true) ∧ Ext w w' := by
  go_enter Try.func22, Try.ntmps22
  go_wp2
  go_ret
  exact ⟨rfl, (Ext.refl _).alloc _⟩

/-- Is a tier right? -/
def tierOk (t : Ti) : Bool := withinB t.w 1 1099511627776 && withinB t.o 0 (t.w - 1) && (if t.m then nameB t.f && withinB t.u (-1152921504606846976) 1152921504606846976 else decide (t.f.toList = []) && decide (t.u = 0))

set_option maxHeartbeats 4000000 in
set_option maxRecDepth 100000 in
theorem right_any (w : World) (a : Option Addr) (n c : Nat) (l : List Ti) (hs : Src w 5 (.slice a n c) n (tis l)) (hn : n ≤ 4) :
    Calls Try.prog 11 #[.agg #[.int .i64 0, .int .i64 0, .int .i64 0, .bool false, .int .i64 0, .int .i64 0, .slice none 0 0, .slice a n c]] w fun e w' => e = .returned (.bool (l.all tierOk)) ∧ Ext w w' := by
  have HS := Lib.hid hs
  have Ln := Lib.hid (tis_src_len hs)
  clear hs
  have z1 : withinB 0 0 1152921504606846976 = true := by decide
  go_enter Try.func11, Try.ntmps11
  go_wp2_with (first
    | (go_at_call 21; refine (in18_any _ _ _ _).mono ?_; rw [z1]; rintro e w' ⟨rfl, rfl⟩))
  generalize hW : World.alloc _ _ = W
  have HX : Hid (Ext w W) := Lib.hid (by subst hW; exact (Ext.refl w).alloc _)
  have b6 : W.cell? ⟨w.heap.size, 6, none⟩ = some (.slice none 0 0) := by subst hW; simp [go_sem]
  have b7 : W.cell? ⟨w.heap.size, 7, none⟩ = some (.slice a n c) := by subst hW; simp [go_sem]
  have hbl := World.block_lt_of_cell? W _ b6
  clear hW z1
  refine (mark0 W).mono ?_
  rintro e w1 ⟨rfl, hx1⟩
  have c6 := (hx1.cell (p := ⟨w.heap.size, 6, none⟩) hbl).trans b6
  have c7 := (hx1.cell (p := ⟨w.heap.size, 7, none⟩) hbl).trans b7
  have hbl1 := World.block_lt_of_cell? w1 _ c6
  have HX1 := Lib.hid (HX.out.trans hx1)
  clear hx1 b6 b7 hbl HX
  go_wp2_with fail
  go_loopw [3] (fun i wr => i = .int .i64 0 ∧ wr = w1) (fun _ _ => 0)
  case atStart => exact ⟨rfl, rfl⟩
  case round =>
    obtain ⟨rfl, rfl⟩ := hrel
    go_wp2_with fail
    go_loopw [5] (fun i w2 => ∃ j : Nat, j ≤ n ∧ i = .int .i64 j ∧ Hid (Ext wr w2 ∧ (l.take j).all tierOk = true)) (fun i _ => n - (RowKit.intOf i).toNat)
    case atStart => exact ⟨0, by omega, rfl, Lib.hid ⟨Ext.refl _, rfl⟩⟩
    case round =>
      obtain ⟨j, hj, rfl, I⟩ := hrel
      by_cases hlt : j < n
      · obtain ⟨tb, tof, ⟨tw, tO, tu, tm, tf⟩, rfl, ht, t0, t1, t2, t3, t4⟩ := tis_src (HS.out.ext (HX1.out.trans I.out.1)) hlt
        simp only at t0 t1 t2 t3 t4
        have HTK := Lib.hid (take_snoc5 ht)
        have HM := Lib.hid (List.mem_of_getElem? ht)
        have e7 := (I.out.1.cell (p := ⟨w.heap.size, 7, none⟩) hbl1).trans c7
        clear ht c6 c7
        have HO : Hid (tierOk ⟨tw, tO, tu, tm, tf⟩ = (withinB tw 1 1099511627776 && withinB tO 0 (tw - 1) && (if tm then nameB tf && withinB tu (-1152921504606846976) 1152921504606846976 else decide (tf.toList = []) && decide (tu = 0)))) := rfl
        have HWI : Hid (withinB tw 1 1099511627776 = (decide (1 ≤ tw) && decide (tw ≤ 1099511627776))) := rfl
        have HF : Hid (tierOk ⟨tw, tO, tu, tm, tf⟩ = false → l.all tierOk = false) := Lib.hid (fun h => by rw [List.all_eq_false]; exact ⟨_, HM.out, by simp [h]⟩)
        generalize hb1 : withinB tw 1 1099511627776 = b1 at HO HWI
        cases b1
        · go_wp2_with (first
            | (go_at_call 21; refine (in18_any _ _ _ _).mono ?_; rw [hb1]; rintro e w' ⟨rfl, rfl⟩))
          go_ret
          exact ⟨by rw [HF.out (by rw [HO.out]; rfl)]; rfl, HX1.out.trans (I.out.1.alloc _)⟩
        · have hw1 : 1 ≤ tw ∧ tw ≤ 1099511627776 := by have := HWI.out; simpa using this
          have hw2 : IntKind.i64.wrap (tw - 1) = tw - 1 := by rw [IntKind.wrap_i64]; omega
          clear HWI
          generalize hb2 : withinB tO 0 (tw - 1) = b2 at HO
          cases b2
          · go_wp2_with (first
              | (go_at_call 21; refine (in18_any _ _ _ _).mono ?_; (first | rw [hb1] | rw [hb2]); rintro e w' ⟨rfl, rfl⟩))
            go_ret
            exact ⟨by rw [HF.out (by rw [HO.out]; rfl)]; rfl, HX1.out.trans (I.out.1.alloc _)⟩
          · cases tm
            · by_cases h3 : tf.toList = []
              · by_cases h4 : tu = 0
                · go_wp2_with (first
                    | (go_at_call 21; refine (in18_any _ _ _ _).mono ?_; (first | rw [hb1] | rw [hb2]); rintro e w' ⟨rfl, rfl⟩))
                  go_roundw
                  case rel => exact ⟨j + 1, by omega, by go_num, Lib.hid ⟨I.out.1.alloc _, by rw [HTK.out, List.all_append, I.out.2, Bool.true_and, List.all_cons, HO.out]; simp [*]⟩⟩
                  case measure => simp [RowKit.intOf]; omega
                · go_wp2_with (first
                    | (go_at_call 21; refine (in18_any _ _ _ _).mono ?_; (first | rw [hb1] | rw [hb2]); rintro e w' ⟨rfl, rfl⟩))
                  go_ret
                  exact ⟨by rw [HF.out (by rw [HO.out]; simp [*])]; rfl, HX1.out.trans (I.out.1.alloc _)⟩
              · go_wp2_with (first
                    | (go_at_call 21; refine (in18_any _ _ _ _).mono ?_; (first | rw [hb1] | rw [hb2]); rintro e w' ⟨rfl, rfl⟩))
                go_ret
                exact ⟨by rw [HF.out (by rw [HO.out]; simp [*])]; rfl, HX1.out.trans (I.out.1.alloc _)⟩
            · generalize hb3 : nameB tf = b3 at HO
              cases b3
              · go_wp2_with (first
                    | (go_at_call 21; refine (in18_any _ _ _ _).mono ?_; (first | rw [hb1] | rw [hb2]); rintro e w' ⟨rfl, rfl⟩)
                    | (go_at_call 23; refine (name18_any _ _).mono ?_; rw [hb3]; rintro e w' ⟨rfl, rfl⟩))
                go_ret
                exact ⟨by rw [HF.out (by rw [HO.out]; simp [*])]; rfl, HX1.out.trans (I.out.1.alloc _)⟩
              · generalize hb4 : withinB tu (-1152921504606846976) 1152921504606846976 = b4 at HO
                cases b4
                · go_wp2_with (first
                    | (go_at_call 21; refine (in18_any _ _ _ _).mono ?_; (first | rw [hb1] | rw [hb2] | rw [hb4]); rintro e w' ⟨rfl, rfl⟩)
                    | (go_at_call 23; refine (name18_any _ _).mono ?_; rw [hb3]; rintro e w' ⟨rfl, rfl⟩))
                  go_ret
                  exact ⟨by rw [HF.out (by rw [HO.out]; simp [*])]; rfl, HX1.out.trans (I.out.1.alloc _)⟩
                · go_wp2_with (first
                    | (go_at_call 21; refine (in18_any _ _ _ _).mono ?_; (first | rw [hb1] | rw [hb2] | rw [hb4]); rintro e w' ⟨rfl, rfl⟩)
                    | (go_at_call 23; refine (name18_any _ _).mono ?_; rw [hb3]; rintro e w' ⟨rfl, rfl⟩))
                  go_roundw
                  case rel => exact ⟨j + 1, by omega, by go_num, Lib.hid ⟨I.out.1.alloc _, by rw [HTK.out, List.all_append, I.out.2, Bool.true_and, List.all_cons, HO.out]; rfl⟩⟩
                  case measure => simp [RowKit.intOf]; omega
      · have HT : Hid (l.take j = l) := Lib.hid (List.take_of_length_le (by have := Ln.out; omega))
        have e7 := (I.out.1.cell (p := ⟨w.heap.size, 7, none⟩) hbl1).trans c7
        go_wp2_with fail
        go_ret
        exact ⟨by have := I.out.2; rw [HT.out] at this; rw [this]; rfl, HX1.out.trans I.out.1⟩

end Go.Proofs.Ytpgnkknelaajdaa
