/- RollupExpires: the law's walk. -/
import Derived.Test.YthpindmcklennaaFnd
import Derived.Test.YthpindmcklennaaAgg
import Derived.Test.YthpindmcklennaaMsk
import Derived.Test.YthpindmcklennaaSlp
import Derived.Deep.DeepCutAuto
namespace Go.Proofs.Ythpindmcklennaa
open Go.RowKit Go.Lib Go.Sort

theorem i64_and1023 (n : Int) : bits .and .i64 n 1023 = n % 1024 := by
  have h : (BitVec.ofInt 64 1023).toNat = 2 ^ 10 - 1 := by decide
  have key : (BitVec.ofInt 64 n &&& BitVec.ofInt 64 1023).toNat = (n % ((2 ^ 64 : Nat) : Int)).toNat % 2 ^ 10 := by
    rw [BitVec.toNat_and, BitVec.toNat_ofInt, h, Nat.and_two_pow_sub_one_eq_mod]
  show IntKind.i64.wrap ((BitVec.ofInt 64 n &&& BitVec.ofInt 64 1023).toNat : Nat) = n % 1024
  rw [key, IntKind.wrap_i64]
  omega
theorem ptl_take (l : List Pt) (k : Nat) : (pts l).take (k * 3) = pts (l.take k) := by
  induction k generalizing l with
  | zero => simp [pts]
  | succ k ih =>
    cases l with
    | nil => simp [pts]
    | cons p l =>
      rw [show (k + 1) * 3 = k * 3 + 3 by omega]
      simpa [pts, Pt.cells] using ih l
theorem psrc_pre {w : World} {a : Option Addr} {n c k : Nat} {l : List Pt} (h : Src w 3 (.slice a n c) n (pts l)) (hk : k ≤ n) (h0 : 0 < n) : Src w 3 (.slice a k c) k (pts (l.take k)) := by
  have hl := src_len h
  rcases h with ⟨e, e0, _⟩ | ⟨ad, c', e, _, h2, h3⟩
  · omega
  · cases e
    refine .inr ⟨ad, c, rfl, by rw [pts_len]; simp; omega, fun j u hj => ?_, pts_one _⟩
    rw [← ptl_take, List.getElem?_take] at hj
    split at hj
    · exact h2 j u hj
    · cases hj

theorem filter_at {P : Bk → Bool} {B : List Bk} {k : Nat} {b : Bk} (h : B[k]? = some b) (hp : P b = true) : (B.filter P)[((B.take k).filter P).length]? = some b := by
  have e : B.filter P = (B.take k).filter P ++ b :: ((B.drop (k + 1)).filter P) := by
    obtain ⟨hk, e⟩ := List.getElem?_eq_some_iff.1 h
    conv => lhs; rw [← List.take_append_drop k B]
    rw [List.filter_append, List.drop_eq_getElem_cons hk, e, List.filter_cons, if_pos hp]
  rw [e, List.getElem?_append_right (Nat.le_refl _)]
  simp
theorem filter_cnt {P : Bk → Bool} {B : List Bk} {k : Nat} {b : Bk} (h : B[k]? = some b) : ((B.take (k + 1)).filter P).length = ((B.take k).filter P).length + (if P b then 1 else 0) := by
  rw [filter_take h, List.length_append]
  split <;> rfl

theorem quiet_load_law {P : Program} {C : World → Prop} {o : Oper} {a : Act} {K : Act → Prop} (ty : TypeId) (x : Operand) (ho : o.op = .load ty x) (p v : Value) (hx : a.eval x = p)
    (hl : ∀ w, C w → (Instr.loadAt ty p).run P w = .ok v w) (hk : K (a.put o.dst v)) : o.quiet P a C K :=
  ⟨v, fun w hw => by
    unfold Oper.quietAt execOp
    simp only [ho, hx, Sem.run_bind, hl w hw, Result.andThen_ok, Sem.run_pure]
    exact ⟨rfl, rfl⟩, hk⟩

structure RxR (w : World) (k : Nat) (P : List Pt) (v : Value) (wr : World) : Prop where
  made : MadeTo w 24 3 v k (pts P) wr
  ok : ∀ p ∈ P, 0 ≤ p.t ∧ p.t < 512 ∧ (-9223372036854775808 ≤ p.v ∧ p.v ≤ 9223372036854775807)

theorem nA_ne : (⟨#[97]⟩ : ByteArray) ≠ ⟨#[98]⟩ := by decide

set_option maxHeartbeats 4000000 in
set_option maxRecDepth 100000 in
theorem expires_walk (w : World) (a : Option Addr) (n c : Nat) (l : List Pt) (width x0 x1 : Int) (hl : Src w 3 (.slice a n c) n (pts l)) (hn : n < 4611686018427387904) (hnc : n ≤ c) (hfit : ∀ p ∈ l, p.fits) :
    Calls Try.prog 4 #[.slice a n c, .int .i64 width, .agg #[.int .i64 x0, .int .i64 x1]] w fun e w' => e = .returned (.bool true) ∧ Ext w w' := by
  have HL := Lib.hid hl
  have HF := Lib.hid hfit
  clear hl hfit
  go_enter Try.func4, Try.ntmps4
  go_upto_if 21 with fail
  go_cut [0] (fun s0 wx => ∃ (n' : Nat) (l' : List Pt), s0 = .slice a n' c ∧ Hid (Src w 3 (.slice a n' c) n' (pts l') ∧ n' ≤ 60 ∧ ∀ p ∈ l', p.fits) ∧ wx = w.alloc (.cells #[.int .i64 x0, .int .i64 x1] 43 (0, 0)))
  case first =>
    rcases Nat.lt_or_ge 60 n with h | h
    · have h1 : 60 ≤ c := by omega
      go_wp2_with fail
      go_meet
      exact ⟨60, l.take 60, rfl, Lib.hid ⟨psrc_pre HL.out (by omega) (by omega), by omega, fun p hp => HF.out p (List.mem_of_mem_take hp)⟩, rfl⟩
    · have h1 : ¬ 60 < n := by omega
      go_wp2_with fail
      go_meet
      exact ⟨n, l, rfl, Lib.hid ⟨HL.out, h, HF.out⟩, rfl⟩
  case rest =>
    obtain ⟨n1, l1, rfl, C1, rfl⟩ := hcut
    clear HL HF hnc hn
    have HB0 := Lib.hid (heap_alloc_new w (.cells #[.int .i64 x0, .int .i64 x1] 43 (0, 0)))
    have HX0 : Hid (Ext w (w.alloc (.cells #[.int .i64 x0, .int .i64 x1] 43 (0, 0)))) := Lib.hid ((Ext.refl w).alloc _)
    obtain ⟨bx, hbx⟩ : ∃ bx, bx = w.heap.size := ⟨_, rfl⟩
    rw [← hbx] at HB0 ⊢
    clear hbx
    generalize w.alloc (.cells #[.int .i64 x0, .int .i64 x1] 43 (0, 0)) = w0 at *
    have hn1 : n1 ≤ 60 := C1.out.2.1
    have hb1 := i64_and15 width
    obtain ⟨p15, hp15, hp15'⟩ : ∃ p15 : Nat, width % 16 = (p15 : Int) ∧ p15 ≤ 15 := ⟨(width % 16).toNat, by omega, by omega⟩
    rw [hp15] at hb1
    clear hp15
    go_wp2_with fail
    obtain ⟨wd, hwd, hwd1, hwd8⟩ : ∃ wd : Nat, 1 + (p15 : Int) = (wd : Int) ∧ 1 ≤ wd ∧ wd ≤ 16 := ⟨p15 + 1, by omega, by omega, by omega⟩
    rw [hwd]
    clear hwd hb1 hp15'
    go_loopw [7, 8] (fun s7 s8 wr => ∃ (k : Nat) (va : Option Addr) (vc : Nat) (P : List Pt), k ≤ n1 ∧ s7 = .slice va k vc ∧ s8 = .int .i64 k ∧ Hid (RxR w0 k P s7 wr)) (fun _ i _ => n1 - (RowKit.intOf i).toNat)
    case atStart => exact ⟨0, none, 0, [], by omega, rfl, rfl, Lib.hid ⟨⟨Row.nil _ _ _, fun g hg => by simp [Value.ownBlock] at hg, Ext.refl _⟩, by simp⟩⟩
    case round =>
      obtain ⟨k, va, vc, P, hk, rfl, rfl, HR⟩ := hrel
      by_cases hlt : k < n1
      · obtain ⟨b, so, p, rfl, hp, c0, c1, c2⟩ := pts_src (C1.out.1.ext (HX0.out.trans HR.out.made.ext)) hlt
        have HFP := Lib.hid (C1.out.2.2 p (List.mem_of_getElem? hp))
        have e0 := i64_and511 p.t
        obtain ⟨x, hx, hx0, hx1⟩ : ∃ x : Int, p.t % 512 = x ∧ 0 ≤ x ∧ x < 512 := ⟨_, rfl, by omega, by omega⟩
        rw [hx] at e0
        have HXY := Lib.hid (And.intro hx0 hx1)
        clear hx hx0 hx1 hp c2
        obtain ⟨pt, pv, ps⟩ := p
        simp only at c0 c1 e0
        go_wp2_with fail
        refine wp_region_split_lit [0] [1, 2, 3, 4, 5, 6, 7, 8, 9, 10, 11, 12, 13] [14, 15, 16] (by kernel_rfl) (by kernel_rfl) (fun _ _ dd _ _ hh => by cases dd <;> exact hh) ?_
        simp only [pickOps, List.getElem?_cons_succ, List.getElem?_cons_zero]
        repeat (go_big_quiet_step (fail))
        refine wpQuiet_nil ?_
        repeat (go_big_quiet_step (fail))
        refine wpQuiet_nil ?_
        intro w4 hw'
        have HX4 : Hid (Ext wr w4) := Lib.hid (by obtain ⟨k, rfl⟩ := hw'; exact Ext.drewN _ _)
        clear hw' c0 c1
        have HR4 := Lib.hid (HR.out.made.row.ext HX4.out)
        go_wp2_with (refine wpList_append_start elem_pt rfl _ _ rfl rfl rfl (Start.row (HR4.out.alloc _) HR.out.made.own) ((HR.out.made.ext.trans HX4.out).alloc _) (src_pt' (p := (⟨x, pv, k⟩ : Pt)) (heap_alloc_new w4 (.cells #[.int .i64 x, .int .i64 pv, .int .i64 k] 24 (0, 0)))) (by omega) (by unfold maxLen; omega) (by omega) ?_; rintro v' w5 ha; obtain ⟨va', vc', rfl⟩ := ha.row.shape; have HA := Lib.hid ha; clear ha)
        refine ⟨⟨k + 1, va', vc', P ++ [⟨x, pv, k⟩], by omega, rfl, by go_num, Lib.hid ⟨?_, ?_⟩⟩, ?_⟩
        · rw [pts_append]; exact HA.out
        · intro q hq
          rcases List.mem_append.1 hq with hq | hq
          · exact HR.out.ok q hq
          · simp at hq; subst hq; have h1 := HXY.out; have h2 := HFP.out.2.1; simp only at h2 ⊢; omega
        · simp [RowKit.intOf]; omega
      · have hkn : k = n1 := by omega
        subst hkn
        have HPL : Hid (P.length = k) := Lib.hid (src_len (HR.out.made.row.src (pts_one P)))
        obtain ⟨hi, hhi⟩ : ∃ hi : Int, hi = 600 * (wd : Int) := ⟨_, rfl⟩
        have hwm : IntKind.i64.wrap (600 * (wd : Int)) = hi := by rw [hhi]; exact IntWalk.i64_in _ (by omega)
        have hwm2 : wrap64 (600 * (wd : Int)) = hi := by rw [hhi]; exact IntWalk.wrap64_in _ (by omega)
        have HHI := Lib.hid hhi
        have HWN : Hid (windowB (wd : Int) (wd : Int) 0 = true) := Lib.hid (by
          unfold windowB
          simp only [Bool.and_eq_true, decide_eq_true_eq]
          omega)
        clear hhi
        go_wp2_with fail
        refine (roll_any wr va k vc P wd hi (HR.out.made.row.src (pts_one P)) (by omega) (by omega) (by omega) HHI.out (fun p hp => by have h1 := HR.out.ok p hp; have h2 := HHI.out; omega)).mono ?_
        rintro e w5 ⟨v, rfl, ds, hperm, hsort, hmd⟩
        obtain ⟨wa, wcap, rfl⟩ := hmd.row.shape
        have HM := Lib.hid (hmd.row.src (bks_one _))
        have HEX := Lib.hid (HX0.out.trans (HR.out.made.ext.trans hmd.ext))
        have HLB : Hid ((ds.map (bkOf wd)).length = ds.length) := Lib.hid (by simp)
        have HMZ : Hid (k = 0 ∨ ¬ ds.length = 0) := Lib.hid (by
          rcases Nat.eq_zero_or_pos k with h0 | h0
          · exact .inl h0
          · right
            intro hd
            have hd0 := List.length_eq_zero_iff.1 hd
            subst hd0
            have hNp : ∀ t, winN (wd : Int) (wd : Int) 0 t = 1 := fun t => by
              have := winN_parts (st := (wd : Int)) (off := 0) (t := t) (p := 1) (by omega) (by omega)
              simpa using this
            have h6 := (sum_gatL (wd := wd) (st := wd) (off := 0) hNp P).1
            rw [← sumN_perm hperm, HPL.out] at h6
            simp [sumN] at h6
            omega)
        have hm64 : ds.length ≤ 3840 := by
          have h1 := gatL_len (wd := wd) (st := wd) (off := 0) HWN.out P
          rw [HPL.out, ← hperm.length_eq] at h1
          omega
        have HBX := Lib.hid (((HR.out.made.ext.trans hmd.ext).block (block_lt HB0.out)).trans HB0.out)
        clear hperm hsort hmd hwm hwm2
        obtain ⟨B, hB⟩ : ∃ B, B = ds.map (bkOf wd) := ⟨_, rfl⟩
        obtain ⟨m, hm⟩ : ∃ m, m = ds.length := ⟨_, rfl⟩
        rw [← hm] at HM HLB HMZ hm64 ⊢
        rw [← hB] at HM HLB
        clear hB hm
        go_upto_region 10 with fail
        go_cut [9, 69] (fun s9 s69 wx => s9 = .slice wa m wcap ∧ s69 = .bool false ∧ wx = w5)
        case first =>
          rcases HMZ.out with h0 | h0
          · have h00 : ¬ 0 < k := by omega
            go_wp2_with fail
            go_meet
            exact ⟨rfl, rfl, rfl⟩
          · by_cases h00 : 0 < k
            · go_wp2_with fail
              go_meet
              exact ⟨rfl, by simp; omega, rfl⟩
            · go_wp2_with fail
              go_meet
              exact ⟨rfl, rfl, rfl⟩
        case rest =>
          obtain ⟨rfl, rfl, rfl⟩ := hcut
          have e1 := i64_and511 x0
          have e2 := i64_and1023 x1
          obtain ⟨from', hfr, hfr0, hfr1⟩ : ∃ y : Int, x0 % 512 = y ∧ 0 ≤ y ∧ y < 512 := ⟨_, rfl, by omega, by omega⟩
          obtain ⟨to', hto, hto0, hto1⟩ : ∃ y : Int, x1 % 1024 = y ∧ 0 ≤ y ∧ y < 1024 := ⟨_, rfl, by omega, by omega⟩
          rw [hfr] at e1
          rw [hto] at e2
          clear hfr hto hfr0 hfr1 hto0 hto1
          have d0 : ∀ o, (wc.alloc o).cell? ⟨bx, 0, none⟩ = some (.int .i64 x0) := fun o => by have := cell_of_block ((((Ext.refl wc).alloc o).block (block_lt HBX.out)).trans HBX.out) 0; simpa using this
          have d1 : ∀ o, (wc.alloc o).cell? ⟨bx, 1, none⟩ = some (.int .i64 x1) := fun o => by have := cell_of_block ((((Ext.refl wc).alloc o).block (block_lt HBX.out)).trans HBX.out) 1; simpa using this
          go_wp2_with fail
          refine wp_region_split_lit [] [0, 1, 2, 3, 4, 5, 6, 7] [] (by kernel_rfl) (by kernel_rfl) (fun _ _ dd _ _ hh => by cases dd <;> exact hh) ?_
          simp only [pickOps, List.getElem?_cons_succ, List.getElem?_cons_zero]
          refine wpQuiet_nil ?_
          repeat (go_big_quiet_step (fail))
          refine wpQuiet_nil ?_
          intro w6 hw'
          have HX6 : Hid (Ext (wc.alloc (.cells #[.string ⟨#[97]⟩, .slice wa m wcap] 46 (0, 0))) w6) := Lib.hid (by obtain ⟨k, rfl⟩ := hw'; exact Ext.drewN _ _)
          have HX56 := Lib.hid (((Ext.refl wc).alloc (.cells #[.string ⟨#[97]⟩, .slice wa m wcap] 46 (0, 0))).trans HX6.out)
          have HPT : Hid (PartAt w6 ⟨wc.heap.size, 0, none⟩ ⟨#[97]⟩ wa m wcap B) := Lib.hid (by
            have h0 := (HX6.out.block (block_lt (heap_alloc_new wc _))).trans (heap_alloc_new wc (.cells #[.string ⟨#[97]⟩, .slice wa m wcap] 46 (0, 0)))
            exact ⟨rfl, by have := cell_of_block h0 0; simpa using this, by have := cell_of_block h0 1; simpa using this, HM.out.ext HX56.out⟩)
          clear hw' d0 d1 e1 e2
          obtain ⟨pb, hpb⟩ : ∃ pb, pb = wc.heap.size := ⟨_, rfl⟩
          rw [← hpb] at HPT ⊢
          clear hpb HX6
          go_wp2_with fail
          refine (expire_any w6 ⟨pb, 0, none⟩ 1 ⟨#[97]⟩ wa m wcap B from' HPT.out (by omega)).mono ?_
          intro e w7 hpost
          unfold expPost at hpost
          obtain ⟨hx7, hcase⟩ := hpost
          have HX7 := Lib.hid (HX56.out.trans hx7)
          have HP7 := Lib.hid (HPT.out.ext hx7)
          obtain ⟨F1, hF1⟩ : ∃ F, F = B.filter (expP from') := ⟨_, rfl⟩
          obtain ⟨F2, hF2⟩ : ∃ F, F = B.filter (fndP from' to') := ⟨_, rfl⟩
          have HF12 := Lib.hid (And.intro hF1 hF2)
          rw [← hF1] at hcase
          have HCS := Lib.hid hcase
          clear hx7 hcase hF1 hF2
          have HN2 : Hid (F2 = B.filter (fndP from' to')) := Lib.hid HF12.out.2
          have HN1 : Hid (F1 = B.filter (expP from')) := Lib.hid HF12.out.1
          rcases HCS.out with ⟨h10, rfl⟩ | ⟨h10, xa, xc, fa, fc, rfl, hpx⟩
          case' inl => have HXR : Hid (F1 = []) := Lib.hid h10
          case' inr =>
            obtain ⟨xb, xo, xs⟩ := xa
            have hxs := hpx.spot
            simp only at hxs
            subst hxs
            obtain ⟨fl, hfl⟩ : ∃ fl, fl = F1.length := ⟨_, rfl⟩
            rw [← hfl] at hpx
            have HFL := Lib.hid hfl
            have HXR := Lib.hid (And.intro h10 hpx)
            clear hpx hfl
          all_goals
            clear h10 HCS HF12
            go_wp2_with fail
            refine (find_any w7 ⟨pb, 0, none⟩ 1 ⟨#[97]⟩ ⟨#[97]⟩ wa m wcap B F2 from' to' HP7.out (by omega) (by rw [if_pos rfl]; exact HN2.out)).mono ?_
            rintro e w8 ⟨v, rfl, hmd⟩
            obtain ⟨ya, yc, rfl⟩ := hmd.row.shape
            have HY := Lib.hid (hmd.row.src (bks_one _))
            have HX8 := Lib.hid (HX7.out.trans hmd.ext)
            have HX78 := Lib.hid hmd.ext
            clear hmd
            obtain ⟨yl, hyl⟩ : ∃ yl, yl = F2.length := ⟨_, rfl⟩
            rw [← hyl] at HY ⊢
            have HYL := Lib.hid hyl
            clear hyl
            go_wp2_with fail
          · as_aux_lemma =>
            go_loopw [16, 17, 18] (fun s16 s17 s18 wr => ∃ (j c1 c2 : Nat), j ≤ m ∧ s18 = .int .i64 j ∧ s16 = .int .i64 c1 ∧ s17 = .int .i64 c2 ∧ Hid (c1 = ((B.take j).filter (expP from')).length ∧ c2 = ((B.take j).filter (fndP from' to')).length ∧ Ext w8 wr)) (fun _ _ i _ => m - (RowKit.intOf i).toNat)
            case atStart => exact ⟨0, 0, 0, by omega, rfl, rfl, rfl, Lib.hid ⟨by simp, by simp, Ext.refl _⟩⟩
            case round =>
              obtain ⟨j, c1, c2, hj, rfl, rfl, rfl, HI⟩ := hrel
              have hc1 : c1 ≤ 3840 := by have h1 := HI.out.1; have h2 := List.length_filter_le (expP from') (B.take j); rw [List.length_take] at h2; omega
              have hc2 : c2 ≤ 3840 := by have h1 := HI.out.2.1; have h2 := List.length_filter_le (fndP from' to') (B.take j); rw [List.length_take] at h2; omega
              by_cases hjm : j < m
              · obtain ⟨b, so, bk, rfl, hbk, hrg⟩ := enc_src bkc_len (by decide) (HM.out.ext (HX8.out.trans HI.out.2.2)) hjm
                have HBK := Lib.hid hbk
                have HRG := Lib.hid hrg
                have HE1 := Lib.hid (filter_cnt (P := expP from') hbk)
                have HE2 := Lib.hid (filter_cnt (P := fndP from' to') hbk)
                clear hbk hrg
                obtain ⟨lo, hi', an, asu, mn, mx, ⟨ft, fv, fs⟩, ⟨lt, lv, ls⟩⟩ := bk
                obtain ⟨sh, hsh⟩ : ∃ x, x = asu / 18446744073709551616 := ⟨_, rfl⟩
                obtain ⟨sl, hsl⟩ : ∃ x, x = asu % 18446744073709551616 := ⟨_, rfl⟩
                have HBC : Hid (bkc ⟨lo, hi', an, asu, mn, mx, ⟨ft, fv, fs⟩, ⟨lt, lv, ls⟩⟩ = [.int .i64 lo, .int .i64 hi', .int .i64 an, .int .i64 sh, .int .u64 sl, .int .i64 mn, .int .i64 mx, .int .i64 ft, .int .i64 fv, .int .i64 fs, .int .i64 lt, .int .i64 lv, .int .i64 ls]) := Lib.hid (by rw [hsh, hsl]; rfl)
                rw [HBC.out] at HRG
                clear hsh hsl
                have HIN : Hid ((Try.prog.info? 39).map (·.size) = some ([.int .i64 lo, .int .i64 hi', .int .i64 an, .int .i64 sh, .int .u64 sl, .int .i64 mn, .int .i64 mx, .int .i64 ft, .int .i64 fv, .int .i64 fs, .int .i64 lt, .int .i64 lv, .int .i64 ls] : List Value).length) := Lib.hid (by kernel_rfl)
                have HRE : Hid (∀ w', Ext wr w' → w'.rangeAt b (so + j * 13) [.int .i64 lo, .int .i64 hi', .int .i64 an, .int .i64 sh, .int .u64 sl, .int .i64 mn, .int .i64 mx, .int .i64 ft, .int .i64 fv, .int .i64 fs, .int .i64 lt, .int .i64 lv, .int .i64 ls]) := Lib.hid (fun w' hx i u hu => by
                  have h1 := HRG.out i u hu
                  exact (hx.cell (World.block_lt_of_cell? wr _ h1)).trans h1)
                have HZZ : Hid (∀ w', Ext wr w' → w'.cell? ⟨b, so + j * 13, none⟩ = some (.int .i64 lo) ∧ w'.cell? ⟨b, so + j * 13 + 1, none⟩ = some (.int .i64 hi')) := Lib.hid (fun w' hx => ⟨HRE.out w' hx 0 _ rfl, HRE.out w' hx 1 _ rfl⟩)
                obtain ⟨z0, z1⟩ := HZZ.out wr (Ext.refl _)
                have HMJ := Lib.hid (And.intro hc1 hc2)
                have HP1 : Hid (∀ c3 : Nat, c3 = c1 + (if expP from' ⟨lo, hi', an, asu, mn, mx, ⟨ft, fv, fs⟩, ⟨lt, lv, ls⟩⟩ then 1 else 0) → c3 = ((B.take (j + 1)).filter (expP from')).length) := Lib.hid (fun c3 h => by rw [HE1.out, ← HI.out.1]; exact h)
                have HP2 : Hid (∀ c3 : Nat, c3 = c2 + (if fndP from' to' ⟨lo, hi', an, asu, mn, mx, ⟨ft, fv, fs⟩, ⟨lt, lv, ls⟩⟩ then 1 else 0) → c3 = ((B.take (j + 1)).filter (fndP from' to')).length) := Lib.hid (fun c3 h => by rw [HE2.out, ← HI.out.2.1]; exact h)
                go_upto_if 100 with fail
                go_cut [16] (fun s16 wx => ∃ c3 : Nat, s16 = .int .i64 c3 ∧ c3 ≤ 3841 ∧ Hid (c3 = ((B.take (j + 1)).filter (expP from')).length ∧ Ext wr wx))
                case first =>
                  as_aux_lemma =>
                  rcases Classical.em (from' < hi') with hb | hb
                  · have hq := filter_at (P := expP from') HBK.out (by simp [expP, hb])
                    rw [← HN1.out, ← HI.out.1] at hq
                    have hflt : c1 < fl := by rw [HFL.out]; exact (List.getElem?_eq_some_iff.1 hq).1
                    obtain ⟨fb, fo, bk2, hfa, hbk2, hrg2⟩ := enc_src bkc_len (by decide) (HXR.out.2.src.ext (HX78.out.trans HI.out.2.2)) hflt
                    rw [hq] at hbk2
                    cases hbk2
                    rw [HBC.out] at hrg2
                    have HR2 := Lib.hid hrg2
                    have xc1 := (HXR.out.2.ext (HX78.out.trans HI.out.2.2)).c1
                    simp only at xc1
                    rw [hfa] at xc1
                    have A0 : wr.cell? ⟨fb, fo + c1 * 13, none⟩ = some (.int .i64 lo) := HR2.out 0 _ rfl
                    have A1 : wr.cell? ⟨fb, fo + c1 * 13 + 1, none⟩ = some (.int .i64 hi') := HR2.out 1 _ rfl
                    have A2 : wr.cell? ⟨fb, fo + c1 * 13 + 2, none⟩ = some (.int .i64 an) := HR2.out 2 _ rfl
                    have A3 : wr.cell? ⟨fb, fo + c1 * 13 + 3, none⟩ = some (.int .i64 sh) := HR2.out 3 _ rfl
                    have A4 : wr.cell? ⟨fb, fo + c1 * 13 + 4, none⟩ = some (.int .u64 sl) := HR2.out 4 _ rfl
                    have A5 : wr.cell? ⟨fb, fo + c1 * 13 + 5, none⟩ = some (.int .i64 mn) := HR2.out 5 _ rfl
                    have A6 : wr.cell? ⟨fb, fo + c1 * 13 + 6, none⟩ = some (.int .i64 mx) := HR2.out 6 _ rfl
                    have A7 : wr.cell? ⟨fb, fo + c1 * 13 + 7, none⟩ = some (.int .i64 ft) := HR2.out 7 _ rfl
                    have A8 : wr.cell? ⟨fb, fo + c1 * 13 + 8, none⟩ = some (.int .i64 fv) := HR2.out 8 _ rfl
                    have A9 : wr.cell? ⟨fb, fo + c1 * 13 + 9, none⟩ = some (.int .i64 fs) := HR2.out 9 _ rfl
                    have A10 : wr.cell? ⟨fb, fo + c1 * 13 + 10, none⟩ = some (.int .i64 lt) := HR2.out 10 _ rfl
                    have A11 : wr.cell? ⟨fb, fo + c1 * 13 + 11, none⟩ = some (.int .i64 lv) := HR2.out 11 _ rfl
                    have A12 : wr.cell? ⟨fb, fo + c1 * 13 + 12, none⟩ = some (.int .i64 ls) := HR2.out 12 _ rfl
                    have B0 : wr.cell? ⟨b, so + j * 13, none⟩ = some (.int .i64 lo) := HRG.out 0 _ rfl
                    have B1 : wr.cell? ⟨b, so + j * 13 + 1, none⟩ = some (.int .i64 hi') := HRG.out 1 _ rfl
                    have B2 : wr.cell? ⟨b, so + j * 13 + 2, none⟩ = some (.int .i64 an) := HRG.out 2 _ rfl
                    have B3 : wr.cell? ⟨b, so + j * 13 + 3, none⟩ = some (.int .i64 sh) := HRG.out 3 _ rfl
                    have B4 : wr.cell? ⟨b, so + j * 13 + 4, none⟩ = some (.int .u64 sl) := HRG.out 4 _ rfl
                    have B5 : wr.cell? ⟨b, so + j * 13 + 5, none⟩ = some (.int .i64 mn) := HRG.out 5 _ rfl
                    have B6 : wr.cell? ⟨b, so + j * 13 + 6, none⟩ = some (.int .i64 mx) := HRG.out 6 _ rfl
                    have B7 : wr.cell? ⟨b, so + j * 13 + 7, none⟩ = some (.int .i64 ft) := HRG.out 7 _ rfl
                    have B8 : wr.cell? ⟨b, so + j * 13 + 8, none⟩ = some (.int .i64 fv) := HRG.out 8 _ rfl
                    have B9 : wr.cell? ⟨b, so + j * 13 + 9, none⟩ = some (.int .i64 fs) := HRG.out 9 _ rfl
                    have B10 : wr.cell? ⟨b, so + j * 13 + 10, none⟩ = some (.int .i64 lt) := HRG.out 10 _ rfl
                    have B11 : wr.cell? ⟨b, so + j * 13 + 11, none⟩ = some (.int .i64 lv) := HRG.out 11 _ rfl
                    have B12 : wr.cell? ⟨b, so + j * 13 + 12, none⟩ = some (.int .i64 ls) := HRG.out 12 _ rfl
                    have q1 : ¬ fl ≤ c1 := by omega
                    clear hq hrg2 hfa hflt z0 z1
                    go_wp2_with fail
                    refine wp_region_split_lit [] [0, 1, 2, 3, 4, 5, 6, 7, 8, 9, 10, 11, 12, 13, 14, 15, 16, 17, 18, 19, 20, 21, 22, 23, 24, 25] [] (by kernel_rfl) (by kernel_rfl) (fun _ _ dd _ _ hh => by cases dd <;> exact hh) ?_
                    simp only [pickOps, List.getElem?_cons_succ, List.getElem?_cons_zero]
                    refine wpQuiet_nil ?_
                    repeat (go_big_quiet_step (fail))
                    refine wpQuiet_nil ?_
                    intro w9 hw'
                    have HX9 : Hid (Ext wr w9) := Lib.hid (by obtain ⟨k, rfl⟩ := hw'; exact Ext.drewN _ _)
                    clear hw' xc1 q1 A0 B0 A1 B1 A2 B2 A3 B3 A4 B4 A5 B5 A6 B6 A7 B7 A8 B8 A9 B9 A10 B10 A11 B11 A12 B12
                    obtain ⟨z0, z1⟩ := HZZ.out _ HX9.out
                    go_wp2_with fail
                    go_meet
                    exact ⟨c1 + 1, by go_num, by omega, Lib.hid ⟨HP1.out _ (by simp [expP, hb]), HX9.out⟩⟩
                  · go_wp2_with fail
                    go_meet
                    exact ⟨c1, rfl, by omega, Lib.hid ⟨HP1.out _ (by simp [expP, hb]), Ext.refl _⟩⟩
                case rest =>
                  obtain ⟨c3, rfl, hc3, HC3⟩ := hcut
                  obtain ⟨z0, z1⟩ := HZZ.out _ HC3.out.2
                  have hcases : (from' ≤ lo ∧ hi' ≤ to') ∨ (from' ≤ lo ∧ ¬ hi' ≤ to') ∨ (¬ from' ≤ lo) := by omega
                  rcases hcases with ⟨hb1, hb2⟩ | ⟨hb1, hb2⟩ | hb1
                  · have hq := filter_at (P := fndP from' to') HBK.out (by simp [fndP, hb1, hb2])
                    rw [← HN2.out, ← HI.out.2.1] at hq
                    have hylt : c2 < yl := by rw [HYL.out]; exact (List.getElem?_eq_some_iff.1 hq).1
                    obtain ⟨fb2, fo2, bk2, hfa, hbk2, hrg2⟩ := enc_src bkc_len (by decide) (HY.out.ext (HI.out.2.2.trans HC3.out.2)) hylt
                    rw [hq] at hbk2
                    cases hbk2
                    rw [HBC.out] at hrg2
                    have HR2 := Lib.hid hrg2
                    have HRG2 := Lib.hid (HRE.out _ HC3.out.2)
                    subst hfa
                    have q1 : ¬ yl ≤ c2 := by omega
                    clear hq hrg2 hylt
                    have A0 : wc.cell? ⟨fb2, fo2 + c2 * 13, none⟩ = some (.int .i64 lo) := HR2.out 0 _ rfl
                    have A1 : wc.cell? ⟨fb2, fo2 + c2 * 13 + 1, none⟩ = some (.int .i64 hi') := HR2.out 1 _ rfl
                    have A2 : wc.cell? ⟨fb2, fo2 + c2 * 13 + 2, none⟩ = some (.int .i64 an) := HR2.out 2 _ rfl
                    have A3 : wc.cell? ⟨fb2, fo2 + c2 * 13 + 3, none⟩ = some (.int .i64 sh) := HR2.out 3 _ rfl
                    have A4 : wc.cell? ⟨fb2, fo2 + c2 * 13 + 4, none⟩ = some (.int .u64 sl) := HR2.out 4 _ rfl
                    have A5 : wc.cell? ⟨fb2, fo2 + c2 * 13 + 5, none⟩ = some (.int .i64 mn) := HR2.out 5 _ rfl
                    have A6 : wc.cell? ⟨fb2, fo2 + c2 * 13 + 6, none⟩ = some (.int .i64 mx) := HR2.out 6 _ rfl
                    have A7 : wc.cell? ⟨fb2, fo2 + c2 * 13 + 7, none⟩ = some (.int .i64 ft) := HR2.out 7 _ rfl
                    have A8 : wc.cell? ⟨fb2, fo2 + c2 * 13 + 8, none⟩ = some (.int .i64 fv) := HR2.out 8 _ rfl
                    have A9 : wc.cell? ⟨fb2, fo2 + c2 * 13 + 9, none⟩ = some (.int .i64 fs) := HR2.out 9 _ rfl
                    have A10 : wc.cell? ⟨fb2, fo2 + c2 * 13 + 10, none⟩ = some (.int .i64 lt) := HR2.out 10 _ rfl
                    have A11 : wc.cell? ⟨fb2, fo2 + c2 * 13 + 11, none⟩ = some (.int .i64 lv) := HR2.out 11 _ rfl
                    have A12 : wc.cell? ⟨fb2, fo2 + c2 * 13 + 12, none⟩ = some (.int .i64 ls) := HR2.out 12 _ rfl
                    have B0 : wc.cell? ⟨b, so + j * 13, none⟩ = some (.int .i64 lo) := HRG2.out 0 _ rfl
                    have B1 : wc.cell? ⟨b, so + j * 13 + 1, none⟩ = some (.int .i64 hi') := HRG2.out 1 _ rfl
                    have B2 : wc.cell? ⟨b, so + j * 13 + 2, none⟩ = some (.int .i64 an) := HRG2.out 2 _ rfl
                    have B3 : wc.cell? ⟨b, so + j * 13 + 3, none⟩ = some (.int .i64 sh) := HRG2.out 3 _ rfl
                    have B4 : wc.cell? ⟨b, so + j * 13 + 4, none⟩ = some (.int .u64 sl) := HRG2.out 4 _ rfl
                    have B5 : wc.cell? ⟨b, so + j * 13 + 5, none⟩ = some (.int .i64 mn) := HRG2.out 5 _ rfl
                    have B6 : wc.cell? ⟨b, so + j * 13 + 6, none⟩ = some (.int .i64 mx) := HRG2.out 6 _ rfl
                    have B7 : wc.cell? ⟨b, so + j * 13 + 7, none⟩ = some (.int .i64 ft) := HRG2.out 7 _ rfl
                    have B8 : wc.cell? ⟨b, so + j * 13 + 8, none⟩ = some (.int .i64 fv) := HRG2.out 8 _ rfl
                    have B9 : wc.cell? ⟨b, so + j * 13 + 9, none⟩ = some (.int .i64 fs) := HRG2.out 9 _ rfl
                    have B10 : wc.cell? ⟨b, so + j * 13 + 10, none⟩ = some (.int .i64 lt) := HRG2.out 10 _ rfl
                    have B11 : wc.cell? ⟨b, so + j * 13 + 11, none⟩ = some (.int .i64 lv) := HRG2.out 11 _ rfl
                    have B12 : wc.cell? ⟨b, so + j * 13 + 12, none⟩ = some (.int .i64 ls) := HRG2.out 12 _ rfl
                    clear z0 z1
                    go_wp2_with fail
                    refine wp_region_split_lit [] [0, 1, 2, 3, 4, 5, 6, 7, 8, 9, 10, 11, 12, 13, 14] [] (by kernel_rfl) (by kernel_rfl) (fun _ _ dd _ _ hh => by cases dd <;> exact hh) ?_
                    simp only [pickOps, List.getElem?_cons_succ, List.getElem?_cons_zero]
                    refine wpQuiet_nil ?_
                    repeat (go_big_quiet_step (fail))
                    refine wpQuiet_nil ?_
                    intro w9 hw'
                    have HX9 : Hid (Ext wc w9) := Lib.hid (by obtain ⟨k, rfl⟩ := hw'; exact Ext.drewN _ _)
                    clear hw' q1 A0 B0 A1 B1 A2 B2 A3 B3 A4 B4 A5 B5 A6 B6 A7 B7 A8 B8 A9 B9 A10 B10 A11 B11 A12 B12
                    go_wp2_with fail
                    exact ⟨⟨j + 1, c3, c2 + 1, by omega, by go_num, rfl, by go_num, Lib.hid ⟨HC3.out.1, HP2.out _ (by simp [fndP, hb1, hb2]), HI.out.2.2.trans (HC3.out.2.trans HX9.out)⟩⟩, by simp [RowKit.intOf]; omega⟩
                  · go_wp2_with fail
                    exact ⟨⟨j + 1, c3, c2, by omega, by go_num, rfl, rfl, Lib.hid ⟨HC3.out.1, HP2.out _ (by simp [fndP, hb2]), HI.out.2.2.trans HC3.out.2⟩⟩, by simp [RowKit.intOf]; omega⟩
                  · go_wp2_with fail
                    exact ⟨⟨j + 1, c3, c2, by omega, by go_num, rfl, rfl, Lib.hid ⟨HC3.out.1, HP2.out _ (by simp [fndP, hb1]), HI.out.2.2.trans HC3.out.2⟩⟩, by simp [RowKit.intOf]; omega⟩
              · have htk : B.take j = B := List.take_of_length_le (by have := HLB.out; omega)
                have hq1 := HI.out.1
                have hq2 := HI.out.2.1
                rw [htk, ← HN1.out] at hq1
                rw [htk, ← HN2.out, ← HYL.out] at hq2
                have HFIN := Lib.hid (HX8.out.trans HI.out.2.2)
                have HPF := Lib.hid (HP7.out.ext (HX78.out.trans HI.out.2.2))
                rw [← HFL.out] at hq1
                have h0 : ¬ c1 = 0 := by
                  intro h
                  rw [hq1, HFL.out] at h
                  exact HXR.out.1 (List.length_eq_zero_iff.1 h)
                have xc1 := (HXR.out.2.ext (HX78.out.trans HI.out.2.2)).c1
                simp only at xc1
                subst hq1 hq2
                clear htk
                go_wp2_with fail
                refine (find_any wr ⟨pb, 0, none⟩ 1 ⟨#[97]⟩ ⟨#[98]⟩ wa m wcap B [] 0 9999 HPF.out (by omega) (by rw [if_neg nA_ne])).mono ?_
                rintro e w9 ⟨v, rfl, hmd9⟩
                obtain ⟨za, zc, rfl⟩ := hmd9.row.shape
                have HX9 := Lib.hid (HEX.out.trans (HFIN.out.trans hmd9.ext))
                clear hmd9
                go_wp2_with fail
                go_ret
                exact ⟨by simp; omega, HX9.out⟩
          · as_aux_lemma =>
            go_loopw [16, 17, 18] (fun s16 s17 s18 wr => ∃ (j c1 c2 : Nat), j ≤ m ∧ s18 = .int .i64 j ∧ s16 = .int .i64 c1 ∧ s17 = .int .i64 c2 ∧ Hid (c1 = ((B.take j).filter (expP from')).length ∧ c2 = ((B.take j).filter (fndP from' to')).length ∧ Ext w8 wr)) (fun _ _ i _ => m - (RowKit.intOf i).toNat)
            case atStart => exact ⟨0, 0, 0, by omega, rfl, rfl, rfl, Lib.hid ⟨by simp, by simp, Ext.refl _⟩⟩
            case round =>
              obtain ⟨j, c1, c2, hj, rfl, rfl, rfl, HI⟩ := hrel
              have hc1 : c1 ≤ 3840 := by have h1 := HI.out.1; have h2 := List.length_filter_le (expP from') (B.take j); rw [List.length_take] at h2; omega
              have hc2 : c2 ≤ 3840 := by have h1 := HI.out.2.1; have h2 := List.length_filter_le (fndP from' to') (B.take j); rw [List.length_take] at h2; omega
              by_cases hjm : j < m
              · obtain ⟨b, so, bk, rfl, hbk, hrg⟩ := enc_src bkc_len (by decide) (HM.out.ext (HX8.out.trans HI.out.2.2)) hjm
                have HBK := Lib.hid hbk
                have HRG := Lib.hid hrg
                have HE1 := Lib.hid (filter_cnt (P := expP from') hbk)
                have HE2 := Lib.hid (filter_cnt (P := fndP from' to') hbk)
                clear hbk hrg
                obtain ⟨lo, hi', an, asu, mn, mx, ⟨ft, fv, fs⟩, ⟨lt, lv, ls⟩⟩ := bk
                obtain ⟨sh, hsh⟩ : ∃ x, x = asu / 18446744073709551616 := ⟨_, rfl⟩
                obtain ⟨sl, hsl⟩ : ∃ x, x = asu % 18446744073709551616 := ⟨_, rfl⟩
                have HBC : Hid (bkc ⟨lo, hi', an, asu, mn, mx, ⟨ft, fv, fs⟩, ⟨lt, lv, ls⟩⟩ = [.int .i64 lo, .int .i64 hi', .int .i64 an, .int .i64 sh, .int .u64 sl, .int .i64 mn, .int .i64 mx, .int .i64 ft, .int .i64 fv, .int .i64 fs, .int .i64 lt, .int .i64 lv, .int .i64 ls]) := Lib.hid (by rw [hsh, hsl]; rfl)
                rw [HBC.out] at HRG
                clear hsh hsl
                have HIN : Hid ((Try.prog.info? 39).map (·.size) = some ([.int .i64 lo, .int .i64 hi', .int .i64 an, .int .i64 sh, .int .u64 sl, .int .i64 mn, .int .i64 mx, .int .i64 ft, .int .i64 fv, .int .i64 fs, .int .i64 lt, .int .i64 lv, .int .i64 ls] : List Value).length) := Lib.hid (by kernel_rfl)
                have HRE : Hid (∀ w', Ext wr w' → w'.rangeAt b (so + j * 13) [.int .i64 lo, .int .i64 hi', .int .i64 an, .int .i64 sh, .int .u64 sl, .int .i64 mn, .int .i64 mx, .int .i64 ft, .int .i64 fv, .int .i64 fs, .int .i64 lt, .int .i64 lv, .int .i64 ls]) := Lib.hid (fun w' hx i u hu => by
                  have h1 := HRG.out i u hu
                  exact (hx.cell (World.block_lt_of_cell? wr _ h1)).trans h1)
                have HZZ : Hid (∀ w', Ext wr w' → w'.cell? ⟨b, so + j * 13, none⟩ = some (.int .i64 lo) ∧ w'.cell? ⟨b, so + j * 13 + 1, none⟩ = some (.int .i64 hi')) := Lib.hid (fun w' hx => ⟨HRE.out w' hx 0 _ rfl, HRE.out w' hx 1 _ rfl⟩)
                obtain ⟨z0, z1⟩ := HZZ.out wr (Ext.refl _)
                have HMJ := Lib.hid (And.intro hc1 hc2)
                have HP1 : Hid (∀ c3 : Nat, c3 = c1 + (if expP from' ⟨lo, hi', an, asu, mn, mx, ⟨ft, fv, fs⟩, ⟨lt, lv, ls⟩⟩ then 1 else 0) → c3 = ((B.take (j + 1)).filter (expP from')).length) := Lib.hid (fun c3 h => by rw [HE1.out, ← HI.out.1]; exact h)
                have HP2 : Hid (∀ c3 : Nat, c3 = c2 + (if fndP from' to' ⟨lo, hi', an, asu, mn, mx, ⟨ft, fv, fs⟩, ⟨lt, lv, ls⟩⟩ then 1 else 0) → c3 = ((B.take (j + 1)).filter (fndP from' to')).length) := Lib.hid (fun c3 h => by rw [HE2.out, ← HI.out.2.1]; exact h)
                go_upto_if 100 with fail
                go_cut [16] (fun s16 wx => ∃ c3 : Nat, s16 = .int .i64 c3 ∧ c3 ≤ 3841 ∧ Hid (c3 = ((B.take (j + 1)).filter (expP from')).length ∧ Ext wr wx))
                case first =>
                  as_aux_lemma =>
                  rcases Classical.em (from' < hi') with hb | hb
                  · have hq := filter_at (P := expP from') HBK.out (by simp [expP, hb])
                    rw [← HN1.out, ← HI.out.1] at hq
                    rw [HXR.out] at hq
                    cases hq
                  · go_wp2_with fail
                    go_meet
                    exact ⟨c1, rfl, by omega, Lib.hid ⟨HP1.out _ (by simp [expP, hb]), Ext.refl _⟩⟩
                case rest =>
                  obtain ⟨c3, rfl, hc3, HC3⟩ := hcut
                  obtain ⟨z0, z1⟩ := HZZ.out _ HC3.out.2
                  have hcases : (from' ≤ lo ∧ hi' ≤ to') ∨ (from' ≤ lo ∧ ¬ hi' ≤ to') ∨ (¬ from' ≤ lo) := by omega
                  rcases hcases with ⟨hb1, hb2⟩ | ⟨hb1, hb2⟩ | hb1
                  · have hq := filter_at (P := fndP from' to') HBK.out (by simp [fndP, hb1, hb2])
                    rw [← HN2.out, ← HI.out.2.1] at hq
                    have hylt : c2 < yl := by rw [HYL.out]; exact (List.getElem?_eq_some_iff.1 hq).1
                    obtain ⟨fb2, fo2, bk2, hfa, hbk2, hrg2⟩ := enc_src bkc_len (by decide) (HY.out.ext (HI.out.2.2.trans HC3.out.2)) hylt
                    rw [hq] at hbk2
                    cases hbk2
                    rw [HBC.out] at hrg2
                    have HR2 := Lib.hid hrg2
                    have HRG2 := Lib.hid (HRE.out _ HC3.out.2)
                    subst hfa
                    have q1 : ¬ yl ≤ c2 := by omega
                    clear hq hrg2 hylt
                    have A0 : wc.cell? ⟨fb2, fo2 + c2 * 13, none⟩ = some (.int .i64 lo) := HR2.out 0 _ rfl
                    have A1 : wc.cell? ⟨fb2, fo2 + c2 * 13 + 1, none⟩ = some (.int .i64 hi') := HR2.out 1 _ rfl
                    have A2 : wc.cell? ⟨fb2, fo2 + c2 * 13 + 2, none⟩ = some (.int .i64 an) := HR2.out 2 _ rfl
                    have A3 : wc.cell? ⟨fb2, fo2 + c2 * 13 + 3, none⟩ = some (.int .i64 sh) := HR2.out 3 _ rfl
                    have A4 : wc.cell? ⟨fb2, fo2 + c2 * 13 + 4, none⟩ = some (.int .u64 sl) := HR2.out 4 _ rfl
                    have A5 : wc.cell? ⟨fb2, fo2 + c2 * 13 + 5, none⟩ = some (.int .i64 mn) := HR2.out 5 _ rfl
                    have A6 : wc.cell? ⟨fb2, fo2 + c2 * 13 + 6, none⟩ = some (.int .i64 mx) := HR2.out 6 _ rfl
                    have A7 : wc.cell? ⟨fb2, fo2 + c2 * 13 + 7, none⟩ = some (.int .i64 ft) := HR2.out 7 _ rfl
                    have A8 : wc.cell? ⟨fb2, fo2 + c2 * 13 + 8, none⟩ = some (.int .i64 fv) := HR2.out 8 _ rfl
                    have A9 : wc.cell? ⟨fb2, fo2 + c2 * 13 + 9, none⟩ = some (.int .i64 fs) := HR2.out 9 _ rfl
                    have A10 : wc.cell? ⟨fb2, fo2 + c2 * 13 + 10, none⟩ = some (.int .i64 lt) := HR2.out 10 _ rfl
                    have A11 : wc.cell? ⟨fb2, fo2 + c2 * 13 + 11, none⟩ = some (.int .i64 lv) := HR2.out 11 _ rfl
                    have A12 : wc.cell? ⟨fb2, fo2 + c2 * 13 + 12, none⟩ = some (.int .i64 ls) := HR2.out 12 _ rfl
                    have B0 : wc.cell? ⟨b, so + j * 13, none⟩ = some (.int .i64 lo) := HRG2.out 0 _ rfl
                    have B1 : wc.cell? ⟨b, so + j * 13 + 1, none⟩ = some (.int .i64 hi') := HRG2.out 1 _ rfl
                    have B2 : wc.cell? ⟨b, so + j * 13 + 2, none⟩ = some (.int .i64 an) := HRG2.out 2 _ rfl
                    have B3 : wc.cell? ⟨b, so + j * 13 + 3, none⟩ = some (.int .i64 sh) := HRG2.out 3 _ rfl
                    have B4 : wc.cell? ⟨b, so + j * 13 + 4, none⟩ = some (.int .u64 sl) := HRG2.out 4 _ rfl
                    have B5 : wc.cell? ⟨b, so + j * 13 + 5, none⟩ = some (.int .i64 mn) := HRG2.out 5 _ rfl
                    have B6 : wc.cell? ⟨b, so + j * 13 + 6, none⟩ = some (.int .i64 mx) := HRG2.out 6 _ rfl
                    have B7 : wc.cell? ⟨b, so + j * 13 + 7, none⟩ = some (.int .i64 ft) := HRG2.out 7 _ rfl
                    have B8 : wc.cell? ⟨b, so + j * 13 + 8, none⟩ = some (.int .i64 fv) := HRG2.out 8 _ rfl
                    have B9 : wc.cell? ⟨b, so + j * 13 + 9, none⟩ = some (.int .i64 fs) := HRG2.out 9 _ rfl
                    have B10 : wc.cell? ⟨b, so + j * 13 + 10, none⟩ = some (.int .i64 lt) := HRG2.out 10 _ rfl
                    have B11 : wc.cell? ⟨b, so + j * 13 + 11, none⟩ = some (.int .i64 lv) := HRG2.out 11 _ rfl
                    have B12 : wc.cell? ⟨b, so + j * 13 + 12, none⟩ = some (.int .i64 ls) := HRG2.out 12 _ rfl
                    clear z0 z1
                    go_wp2_with fail
                    refine wp_region_split_lit [] [0, 1, 2, 3, 4, 5, 6, 7, 8, 9, 10, 11, 12, 13, 14] [] (by kernel_rfl) (by kernel_rfl) (fun _ _ dd _ _ hh => by cases dd <;> exact hh) ?_
                    simp only [pickOps, List.getElem?_cons_succ, List.getElem?_cons_zero]
                    refine wpQuiet_nil ?_
                    repeat (go_big_quiet_step (fail))
                    refine wpQuiet_nil ?_
                    intro w9 hw'
                    have HX9 : Hid (Ext wc w9) := Lib.hid (by obtain ⟨k, rfl⟩ := hw'; exact Ext.drewN _ _)
                    clear hw' q1 A0 B0 A1 B1 A2 B2 A3 B3 A4 B4 A5 B5 A6 B6 A7 B7 A8 B8 A9 B9 A10 B10 A11 B11 A12 B12
                    go_wp2_with fail
                    exact ⟨⟨j + 1, c3, c2 + 1, by omega, by go_num, rfl, by go_num, Lib.hid ⟨HC3.out.1, HP2.out _ (by simp [fndP, hb1, hb2]), HI.out.2.2.trans (HC3.out.2.trans HX9.out)⟩⟩, by simp [RowKit.intOf]; omega⟩
                  · go_wp2_with fail
                    exact ⟨⟨j + 1, c3, c2, by omega, by go_num, rfl, rfl, Lib.hid ⟨HC3.out.1, HP2.out _ (by simp [fndP, hb2]), HI.out.2.2.trans HC3.out.2⟩⟩, by simp [RowKit.intOf]; omega⟩
                  · go_wp2_with fail
                    exact ⟨⟨j + 1, c3, c2, by omega, by go_num, rfl, rfl, Lib.hid ⟨HC3.out.1, HP2.out _ (by simp [fndP, hb1]), HI.out.2.2.trans HC3.out.2⟩⟩, by simp [RowKit.intOf]; omega⟩
              · have htk : B.take j = B := List.take_of_length_le (by have := HLB.out; omega)
                have hq1 := HI.out.1
                have hq2 := HI.out.2.1
                rw [htk, ← HN1.out] at hq1
                rw [htk, ← HN2.out, ← HYL.out] at hq2
                have HFIN := Lib.hid (HX8.out.trans HI.out.2.2)
                have HPF := Lib.hid (HP7.out.ext (HX78.out.trans HI.out.2.2))
                rw [HXR.out] at hq1
                have hq1' : c1 = 0 := hq1
                subst hq1' hq2
                clear htk hq1
                go_wp2_with fail
                refine (find_any wr ⟨pb, 0, none⟩ 1 ⟨#[97]⟩ ⟨#[98]⟩ wa m wcap B [] 0 9999 HPF.out (by omega) (by rw [if_neg nA_ne])).mono ?_
                rintro e w9 ⟨v, rfl, hmd9⟩
                obtain ⟨za, zc, rfl⟩ := hmd9.row.shape
                have HX9 := Lib.hid (HEX.out.trans (HFIN.out.trans hmd9.ext))
                clear hmd9
                go_wp2_with fail
                go_ret
                exact ⟨rfl, HX9.out⟩
end Go.Proofs.Ythpindmcklennaa
