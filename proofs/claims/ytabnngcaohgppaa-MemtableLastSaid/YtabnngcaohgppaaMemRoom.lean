/- MemtableRoom: the walk (under way). -/
import Derived.Test.YtabnngcaohgppaaTabF
namespace Go.Proofs.Ytabnngcaohgppaa
open Go.RowKit Go.Sort Go.Lib

theorem i64_and1 (n : Int) : bits .and .i64 n 1 = n % 2 := by
  have h : (BitVec.ofInt 64 1).toNat = 2 ^ 1 - 1 := by decide
  have key : (BitVec.ofInt 64 n &&& BitVec.ofInt 64 1).toNat = (n % ((2 ^ 64 : Nat) : Int)).toNat % 2 ^ 1 := by
    rw [BitVec.toNat_and, BitVec.toNat_ofInt, h, Nat.and_two_pow_sub_one_eq_mod]
  show IntKind.i64.wrap ((BitVec.ofInt 64 n &&& BitVec.ofInt 64 1).toNat : Nat) = n % 2
  rw [key, IntKind.wrap_i64]
  omega
/-- What is put of a sample. -/
def ownSm (q : Sm) : Sm := ⟨⟨#[UInt8.ofNat (97 + q.s.size % 2)]⟩, q.t % 8, 0⟩

structure SmTo (w : World) (out : List Sm) (v : Value) (w' : World) : Prop where
  row : Row w' 28 3 v out.length (sms out)
  own : ∀ g, v.ownBlock = some g → w.heap.size ≤ g
  ext : Ext w w'
theorem SmTo.snoc {w W w3 : World} {out : List Sm} {v v' : Value} {p : Sm} (h : SmTo w out v W) {W' : World} (hx : Ext W W') (ha : Appended W' 28 3 v (out.length + 1) (sms out ++ sms [p]) v' w3) : SmTo w (out ++ [p]) v' w3 := by
  have hs := h.ext.size
  have hs2 := hx.size
  refine ⟨by rw [List.length_append, sms_append]; exact ha.row, fun g hg => ?_, Chg.ext ((Chg.of_ext (h.ext.trans hx)).trans ha.chg (fun _ _ h => h)) (fun i hi e => ?_)⟩
  · rcases ha.loc with e | e
    · exact h.own g (e ▸ hg)
    · rw [e] at hg; cases hg; omega
  · have := h.own i e; omega
theorem SmTo.nil (w : World) : SmTo w [] (.slice none 0 0) w := ⟨Row.nil _ _ _, fun g hg => by simp [Value.ownBlock] at hg, Ext.refl _⟩


theorem ownSm_valid (q : Sm) : validL (ownSm q).s.data.toList = true ∧ (ownSm q).s.size ≤ maxLen := by
  have h : q.s.size % 2 = 0 ∨ q.s.size % 2 = 1 := by omega
  unfold ownSm
  rcases h with h | h <;> rw [h]
  · exact ⟨(by decide : validL [UInt8.ofNat (97 + 0)] = true), (by decide : 1 ≤ maxLen)⟩
  · exact ⟨(by decide : validL [UInt8.ofNat (97 + 1)] = true), (by decide : 1 ≤ maxLen)⟩

theorem hasL_put {T : List (ByteArray × Sl)} {name : ByteArray} {s : Sl} {p : Pt} (h : IsMerge [tabPts T name, [p]] s.l) (n' : ByteArray) (t' : Int) :
    hasL (tabPts (aput T name s) n') t' = true ↔ (hasL (tabPts T n') t' = true ∨ (n', t') = (name, p.t)) := by
  by_cases e : n' = name
  · subst e
    have h1 : tabPts (aput T n' s) n' = s.l := by simp [tabPts, tabSl, aget_put_same]
    rw [h1, hasL_iff, merge_times h, ← hasL_iff]
    simp
  · have h1 : tabPts (aput T name s) n' = tabPts T n' := by simp [tabPts, tabSl, aget_put_other T s e]
    rw [h1]
    simp [e]

def addPl (F : List (ByteArray × Int)) (k : ByteArray × Int) : List (ByteArray × Int) := if k ∈ F then F else F ++ [k]
theorem hasL_none (n : ByteArray) (t : Int) : hasL (tabPts [] n) t = false := rfl
theorem freshStep_nil (ks : List (ByteArray × Int)) (q : Sm) : freshStep [] ks q = addPl ks (q.s, q.t) := by
  unfold freshStep addPl
  rw [hasL_none]; simp
theorem mem_addPl {F : List (ByteArray × Int)} {k x : ByteArray × Int} : x ∈ addPl F k ↔ (x ∈ F ∨ x = k) := by
  unfold addPl
  split
  · rename_i h
    constructor
    · exact .inl
    · rintro (h' | rfl)
      · exact h'
      · exact h
  · simp
theorem addPl_len_le (F : List (ByteArray × Int)) (k : ByteArray × Int) : F.length ≤ (addPl F k).length := by
  unfold addPl; split <;> simp

def RoomI (most : Nat) (F : List (ByteArray × Int)) (T : List (ByteArray × Sl)) (cnt : Nat) (ok : Bool) : Prop :=
  (ok = true ∧ cnt = F.length ∧ ∀ n t, hasL (tabPts T n) t = true ↔ (n, t) ∈ F) ∨ (ok = false ∧ cnt = most ∧ most < F.length)
theorem RoomI.start (most : Nat) : RoomI most [] [] 0 true := .inl ⟨rfl, rfl, fun n t => by rw [hasL_none]; simp⟩

/-- What a round of the second loop leaves. -/
def RoomL (w : World) (d mb most : Nat) (F : List (ByteArray × Int)) (ok : Bool) (w' : World) : Prop :=
  Chg (fun b => b = d ∨ b = mb) w w' ∧ ∃ T cnt, TabAt w' d mb T cnt most ∧ RoomI most F T cnt ok

def RoomR (w : World) (d mb most : Nat) (F : List (ByteArray × Int)) (v : Value) (w' : World) : Prop := ∃ b : Bool, v = .bool b ∧ RoomL w d mb most F b w'

theorem RoomI.step {w0 w w' : World} {d mb most cnt : Nat} {F : List (ByteArray × Int)} {T : List (ByteArray × Sl)} {ok : Bool} {name : ByteArray} {p : Pt} {e : Ending} (h : RoomI most F T cnt ok) (hx : Chg (fun b => b = d ∨ b = mb) w0 w)
    (hv : validL name.data.toList = true) (hp : TabPut w d mb T cnt most name p e w') :
    (e = .returned (.int .i64 0) ∧ RoomL w0 d mb most (addPl F (name, p.t)) ok w') ∨ (e = .returned (.int .i64 22) ∧ RoomL w0 d mb most (addPl F (name, p.t)) false w') := by
  obtain ⟨hc, hp⟩ := hp
  have hcc : Chg (fun b => b = d ∨ b = mb) w0 w' := hx.trans hc (fun _ _ e => e)
  have hlen := addPl_len_le F (name, p.t)
  rcases hp with ⟨h1, _⟩ | ⟨_, hh, hcm, rfl, hT⟩ | ⟨_, rfl, s, hm, _, hp⟩
  · rw [hv] at h1; cases h1
  · refine .inr ⟨rfl, hcc, T, cnt, hT, .inr ⟨rfl, hcm, ?_⟩⟩
    rcases h with ⟨_, h2, h3⟩ | ⟨_, _, h4⟩
    · have hn : (name, p.t) ∉ F := fun hmem => by have := (h3 name p.t).2 hmem; rw [hh] at this; cases this
      unfold addPl
      rw [if_neg hn]
      simp; omega
    · omega
  · refine .inl ⟨rfl, hcc, ?_⟩
    rcases hp with ⟨hh, hT⟩ | ⟨hh, hlt, hT⟩
    · refine ⟨_, _, hT, ?_⟩
      rcases h with ⟨h1, h2, h3⟩ | ⟨h1, h2, h4⟩
      · have hmem := (h3 name p.t).1 hh
        refine .inl ⟨h1, by unfold addPl; rw [if_pos hmem]; exact h2, fun n t => ?_⟩
        rw [hasL_put hm, h3, mem_addPl]
      · exact .inr ⟨h1, h2, by omega⟩
    · refine ⟨_, _, hT, ?_⟩
      rcases h with ⟨h1, h2, h3⟩ | ⟨h1, h2, h4⟩
      · have hn : (name, p.t) ∉ F := fun hmem => by have := (h3 name p.t).2 hmem; rw [hh] at this; cases this
        refine .inl ⟨h1, by unfold addPl; rw [if_neg hn]; simp; omega, fun n t => ?_⟩
        rw [hasL_put hm, h3, mem_addPl]
      · omega

set_option maxHeartbeats 8000000 in
set_option maxRecDepth 100000 in
theorem memRoom_any (w : World) (a : Option Addr) (n c : Nat) (l : List Sm) (mo : Int) (hs : Src w 3 (.slice a n c) n (sms l)) (hn : n ≤ 1099511627776000) :
    Calls Try.prog 3 #[.slice a n c, .int .i64 mo] w fun e w' => e = .returned (.bool true) ∧ Ext w w' := by
  have HS := Lib.hid hs
  have Ln := Lib.hid (sms_src_len hs)
  clear hs
  have hm := i64_and15 mo
  obtain ⟨m, hm2, hm3, hm4⟩ : ∃ m : Nat, (1 : Int) + mo % 16 = m ∧ 1 ≤ m ∧ m ≤ 16 := ⟨(1 + mo % 16).toNat, by omega, by omega, by omega⟩
  go_enter Try.func3, Try.ntmps3
  go_wp2_with fail
  refine (tab_new w m hm3 (by omega)).mono ?_
  rintro e w1 ⟨rfl, hT, hx1⟩
  have HT := Lib.hid hT
  have HX1 := Lib.hid hx1
  clear hT hx1
  go_wp2_with fail
  go_loopw [8, 7] (fun i s7 wr => ∃ (j : Nat) (oa : Option Addr) (oc : Nat), j ≤ n ∧ j ≤ 40 ∧ i = .int .i64 j ∧ s7 = .slice oa j oc ∧ Hid (SmTo w1 ((l.take j).map ownSm) (.slice oa j oc) wr)) (fun i _ _ => n - (RowKit.intOf i).toNat)
  case atStart => exact ⟨0, none, 0, by omega, by omega, rfl, rfl, Lib.hid (by simpa using SmTo.nil w1)⟩
  case round =>
    obtain ⟨j, oa, oc, hj, hj4, rfl, rfl, I⟩ := hrel
    refine dite (j < n ∧ j < 40) (fun hlt => ?more) (fun hno => ?ends)
    case more =>
        obtain ⟨hlt, hlt4⟩ := hlt
        obtain ⟨qb, qo, q, rfl, hq, q0, q1, q2⟩ := sms_src (HS.out.ext (HX1.out.trans I.out.ext)) hlt
        clear q2
        have hb1 := i64_and1 (q.s.size : Int)
        have hb7 := i64_and7 q.t
        obtain ⟨k, hk, hk2⟩ : ∃ k : Nat, ((q.s.size : Int) % 2) = k ∧ k ≤ 1 := ⟨q.s.size % 2, by omega, by omega⟩
        rw [hk] at hb1
        have hk' : q.s.size % 2 = k := by omega
        obtain ⟨bt, hbt⟩ : ∃ bt : UInt8, bt = UInt8.ofNat (97 + k) := ⟨_, rfl⟩
        have HB : Hid (bt.toNat = 97 + k) := Lib.hid (by rw [hbt, UInt8.toNat_ofNat']; omega)
        have HK : Hid (ownSm q = ⟨⟨#[bt]⟩, q.t % 8, 0⟩) := Lib.hid (by rw [ownSm, hk', hbt])
        have HTK : Hid (l.take (j + 1) = l.take j ++ [q]) := Lib.hid (take_snoc' hq)
        have hlen : ((l.take j).map ownSm).length = j := by rw [List.length_map, List.length_take, Nat.min_eq_left (by rw [Ln.out]; exact hj)]
        have HR : Hid (Row wr 28 3 (.slice oa j oc) j (sms ((l.take j).map ownSm))) := Lib.hid (by have h1 := I.out.row; rw [hlen] at h1; exact h1)
        have HLEN := Lib.hid hlen
        clear hk' hbt hq hlen
        clear hk
        go_wp2_with fail
        have f0 := cell_turned (T := fun _ => false) q0 rfl
        have f1 := cell_turned (T := fun _ => false) q1 rfl
        refine wp_region_plan 20 (fun w' => ∃ p : Turned, w' = turned wr (fun _ => false) p.d p.f p.os) (.reads [0, 1, 2, 3, 4, 5, 6, 7, 8, 9, 12, 13, 14, 15, 16, 17] (.one 10 (.one 11 (.reads [18] (.one 19 (.one 20 (.one 21 .done))))))) (by kernel_rfl) (by kernel_rfl) (fun _ _ dd _ _ hh => by cases dd <;> exact hh) ?_ ?_
        · exact turned_of_ext (Ext.drewN wr 1)
        refine wpPlan_reads ?_
        simp only [pickOps, List.getElem?_cons_succ, List.getElem?_cons_zero]
        repeat (go_big_quiet_step (fail))
        refine wpQuiet_nil ?_
        refine wpPlan_one ?_
        simp only [pickOps, List.getElem?_cons_succ, List.getElem?_cons_zero]
        clear f0 f1
        have hcv := run_convert_bytes_back (P := Try.prog) (wr.alloc (.cells #[.int .u8 (97 + (k : Int))] 5 (0, 0))).drew 29 9 5 ⟨wr.heap.size, 0, none⟩ 1 [bt] Try.underlying29 Try.underlying5 Try.underlying9 (fun j hj => by
          have e : j = 0 := by simpa using hj
          subst e
          simp only [List.getElem_cons_zero, HB.out]
          simp [go_sem, Addr.add])
        simp only [List.length_cons, List.length_nil, Nat.zero_add] at hcv
        go_wp2_with fail
        refine thenX_mk (turned_of_ext (((Ext.refl wr).alloc _).drew)) (wpPlan_one ?_)
        simp only [pickOps, List.getElem?_cons_succ, List.getElem?_cons_zero]
        go_wp2_with fail
        clear hcv
        refine thenX_mk (turned_of_ext (((Ext.refl wr).alloc _).drew)) (wpPlan_reads ?_)
        simp only [pickOps, List.getElem?_cons_succ, List.getElem?_cons_zero]
        repeat (go_big_quiet_step (fail))
        refine wpQuiet_nil ?_
        refine wpPlan_one ?_
        simp only [pickOps, List.getElem?_cons_succ, List.getElem?_cons_zero]
        go_wp2_with fail
        refine thenX_mk (turned_of_ext ((((Ext.refl wr).alloc _).drew).alloc _)) (wpPlan_one ?_)
        simp only [pickOps, List.getElem?_cons_succ, List.getElem?_cons_zero]
        refine wpList_append_to (m := 1) elem_sm rfl _ _ rfl (v := .slice _ _ _) rfl rfl (HR.out.ext (((((Ext.refl wr).alloc _).alloc _)).drew)) (src_sm' (p := ⟨⟨#[bt]⟩, q.t % 8, 0⟩) (heap_alloc2 _ _ _)) (by unfold maxLen; omega) (by omega) ?_
        intro v' w3 happ
        have K := Lib.hid (I.out.snoc (((((Ext.refl wr).alloc _).alloc _)).drew) (p := ownSm q) (by rw [HLEN.out, HK.out]; exact happ))
        obtain ⟨oa', oc', rfl⟩ := happ.row.shape
        clear happ
        go_wp2_with fail
        refine thenX_last (wpPlan_one ?_)
        simp only [pickOps, List.getElem?_cons_succ, List.getElem?_cons_zero]
        go_wp2_with fail
        refine thenX_last (wpPlan_done ?_)
        go_wp2_with fail
        go_roundw
        case rel => exact ⟨j + 1, oa', oc', by omega, by omega, by go_num, rfl, Lib.hid (by rw [HTK.out, List.map_append]; exact K.out)⟩
        case measure => simp [RowKit.intOf]; omega
    case' ends =>
      have hO : Hid (Src wr 3 (.slice oa j oc) j (sms ((l.take j).map ownSm))) := Lib.hid (by
        have h1 := I.out.row.src (sms_one _)
        rw [List.length_map, List.length_take, Nat.min_eq_left (by rw [Ln.out]; exact hj)] at h1
        exact h1)
      have hOV : Hid (∀ x ∈ (l.take j).map ownSm, validL x.s.data.toList = true ∧ x.s.size ≤ maxLen) := Lib.hid (fun x hx => by obtain ⟨y, _, rfl⟩ := List.mem_map.1 hx; exact ownSm_valid y)
      have HX := Lib.hid I.out.ext
      have HNS : Hid (∀ g, (Value.slice oa j oc).ownBlock = some g → ¬ (g = w.heap.size + 1 ∨ g = w.heap.size)) := Lib.hid (fun g hg => by have h1 := I.out.own g hg; have h2 := HT.out.lt; omega)
      clear I HS Ln
      generalize (l.take j).map ownSm = O at hO hOV
      rcases Nat.lt_or_ge j n with hlt | hge
      case' inl =>
        have hge4 : ¬ j < 40 := fun h => hno ⟨hlt, h⟩
        clear hno
        go_wp2_with fail
      case' inr =>
        have hge' : ¬ j < n := by omega
        clear hno
        go_wp2_with fail
      all_goals
        refine (tab_fits (HT.out.ext HX.out) oa j oc O hO.out (by omega)).mono ?_
        rintro e w2 ⟨rfl, hx2⟩
        obtain ⟨fb, hfb⟩ : ∃ fb : Bool, fb = decide (0 + (freshPl [] O).length ≤ m) := ⟨_, rfl⟩
        rw [← hfb]
        have HFB := Lib.hid hfb
        have HX2 := Lib.hid (HX.out.trans hx2)
        have HO2 := Lib.hid (hO.out.ext hx2)
        have HT2 := Lib.hid (HT.out.ext HX2.out)
        have HLO := Lib.hid (sms_src_len hO.out)
        clear hfb hx2 hO HX HT
        go_wp2_with fail
        go_loopw [11, 10] (fun i ok wr => ∃ (k : Nat), k ≤ j ∧ i = .int .i64 k ∧ Hid (RoomR w2 (w.heap.size + 1) w.heap.size m (freshPl [] (O.take k)) ok wr)) (fun i _ _ => j - (RowKit.intOf i).toNat)
        case atStart => exact ⟨0, by omega, rfl, Lib.hid ⟨true, rfl, Chg.refl _ _, [], 0, HT2.out, RoomI.start m⟩⟩
        case round =>
          obtain ⟨k, hk, rfl, IR⟩ := hrel
          obtain ⟨b, rfl, hc, T, cnt, hT, hI⟩ := IR.out
          have HC := Lib.hid hc
          have HTT := Lib.hid hT
          have HI := Lib.hid hI
          clear hc hT hI IR
          by_cases hlt : k < j
          · obtain ⟨qb, qo, q, rfl, hq, q0, q1, q2⟩ := sms_src (HO2.out.chg HC.out HNS.out) hlt
            have HV := Lib.hid (hOV.out q (List.mem_of_getElem? hq))
            have HF : Hid (freshPl [] (O.take (k + 1)) = addPl (freshPl [] (O.take k)) (q.s, q.t)) := Lib.hid (by rw [take_snoc' hq, freshPl_snoc, freshStep_nil])
            clear hq q2
            go_wp2_with fail
            have f0 := cell_turned (T := fun _ => false) q0 rfl
            have f1 := cell_turned (T := fun _ => false) q1 rfl
            refine wp_region_plan 13 (fun w' => ∃ p : Turned, w' = turned wr (fun _ => false) p.d p.f p.os) (.reads [0, 1, 2, 3, 4, 5, 6, 7, 8, 9, 10, 11, 12] (.one 13 (.one 14 .done))) (by kernel_rfl) (by kernel_rfl) (fun _ _ dd _ _ hh => by cases dd <;> exact hh) ?_ ?_
            · exact turned_of_ext (Ext.drewN wr 1)
            refine wpPlan_reads ?_
            simp only [pickOps, List.getElem?_cons_succ, List.getElem?_cons_zero]
            repeat (go_big_quiet_step (fail))
            refine wpQuiet_nil ?_
            refine wpPlan_one ?_
            simp only [pickOps, List.getElem?_cons_succ, List.getElem?_cons_zero]
            clear f0 f1 q0 q1
            go_wp2_with fail
            refine (tab_put (HTT.out.ext (Ext.drewN wr 1)) q.s ⟨q.t, 0, k⟩ HV.out.2).mono ?_
            rintro e w3 hP
            rcases HI.out.step (HC.out.trans (Chg.of_ext (Ext.drewN wr 1)) (fun _ _ e => e)) HV.out.1 hP with ⟨rfl, hL⟩ | ⟨rfl, hL⟩
            all_goals
              have HL := Lib.hid hL
              clear hL hP
              go_wp2_with fail
              refine thenX_last (wpPlan_one ?_)
              simp only [pickOps, List.getElem?_cons_succ, List.getElem?_cons_zero]
              go_wp2_with fail
              refine thenX_last (wpPlan_done ?_)
              cases b
              all_goals
                go_wp2_with fail
                go_roundw
                case rel => exact ⟨k + 1, by omega, by go_num, Lib.hid (by rw [HF.out]; exact ⟨_, rfl, HL.out⟩)⟩
                case measure => simp [RowKit.intOf]; omega
          · have HTO : Hid (O.take k = O) := Lib.hid (List.take_of_length_le (by have := HLO.out; omega))
            have hx : Ext w wr := Chg.ext ((Chg.of_ext (HX1.out.trans HX2.out)).trans HC.out (fun _ _ e => e)) (fun i hi e => by omega)
            have HE := Lib.hid hx
            clear hx
            have hle := HTT.out.le
            have hI := HI.out
            rw [HTO.out] at hI
            have hfb := HFB.out
            rcases hI with ⟨rfl, h2, h3⟩ | ⟨rfl, h2, h4⟩
            · rw [decide_eq_true (by omega)] at hfb
              subst hfb
              clear h2 h3
              go_wp2_with (go_at_call 10; refine (tab_len HTT.out).mono ?_; rintro e w' ⟨rfl, rfl⟩)
              go_ret
              exact ⟨rfl, HE.out⟩
            · rw [decide_eq_false (by omega)] at hfb
              subst hfb
              clear h4
              subst h2
              go_wp2_with (go_at_call 10; refine (tab_len HTT.out).mono ?_; rintro e w' ⟨rfl, rfl⟩)
              go_ret
              exact ⟨rfl, HE.out⟩

end Go.Proofs.Ytabnngcaohgppaa
