/- BucketsCounts: plain, and the law's walk. -/
import Derived.Test.YthpindmcklennaaSeb
import Derived.Test.YthpindmcklennaaSlw
namespace Go.Proofs.Ythpindmcklennaa
open Go.RowKit Go.Lib Go.Sort

/-- What a window has of its points. -/
def winR (wd : Int) (z : Int) (g : Ag) : Prop := 1 ≤ g.n ∧ z ≤ g.f.t ∧ g.l.t < z + wd
theorem gatL_win {wd st off : Int} (h1 : 1 ≤ st) (h2 : st ≤ wd) (l : List Pt) : ∀ q ∈ gatL wd st off l, winR wd q.1 q.2 :=
  gatL_all (R := winR wd) l (fun p _ x hx g hg => by
    have hm := (mem_winL h1 h2).1 hx
    unfold winR
    rcases hg with rfl | ⟨g1, g2, g3⟩
    · simp [agM, Ag.zero, agOf]
      omega
    · have k1 := ordI_t (agOf p).f g.f
      have k2 := ordI_t (agOf p).l g.l
      have e1 : (agOf p).f.t = p.t := rfl
      have e2 : (agOf p).l.t = p.t := rfl
      have e3 : (agOf p).n = 1 := rfl
      unfold agM
      rw [if_neg (by omega)]
      refine ⟨?_, ?_, ?_⟩
      · show 1 ≤ g.n + (agOf p).n; omega
      · show x.1 ≤ (if ordI (agOf p).f g.f < 0 then (agOf p).f else g.f).t
        by_cases h : ordI (agOf p).f g.f < 0
        · rw [if_pos h]; omega
        · rw [if_neg h]; omega
      · show (if 0 < ordI (agOf p).l g.l then (agOf p).l else g.l).t < x.1 + wd
        by_cases h : 0 < ordI (agOf p).l g.l
        · rw [if_pos h]; omega
        · rw [if_neg h]; omega)

theorem ses_sum {gap : Int} {l : List Pt} {gs : List (List Pt)} (G : GrpOk gap l gs) : (gs.map List.length).sum = l.length := by
  rw [← G.flat, List.length_flatten]

/-- What was put in, while it is made. -/
structure CtR (w : World) (k : Nat) (P : List Pt) (t : Int) (v : Value) (wr : World) : Prop where
  made : MadeTo w 24 3 v k (pts P) wr
  ok : ∀ p ∈ P, 0 ≤ p.t ∧ p.t ≤ t ∧ (-9223372036854775808 ≤ p.v ∧ p.v ≤ 9223372036854775807)
  sort : P.Pairwise (fun a b => a.t ≤ b.t)
  bound : 0 ≤ t ∧ t ≤ 31 * (k : Int)

/-- The rows that the law reads: a bucket's cells. -/
theorem bk_cells {w : World} {b o : Nat} {bk : Bk} (h : w.rangeAt b o (bkc bk)) : w.cell? ⟨b, o, none⟩ = some (.int .i64 bk.lo) ∧ w.cell? ⟨b, o + 1, none⟩ = some (.int .i64 bk.hi) ∧ w.cell? ⟨b, o + 2, none⟩ = some (.int .i64 bk.a.n) ∧ w.cell? ⟨b, o + 7, none⟩ = some (.int .i64 bk.a.f.t) ∧ w.cell? ⟨b, o + 10, none⟩ = some (.int .i64 bk.a.l.t) :=
  ⟨h 0 _ rfl, h 1 _ rfl, h 2 _ rfl, h 7 _ rfl, h 10 _ rfl⟩

def cntB (B : List Bk) : Int := (B.map (fun b => b.a.n)).sum
theorem cntB_take {B : List Bk} {k : Nat} {b : Bk} (h : B[k]? = some b) : cntB (B.take (k + 1)) = cntB (B.take k) + b.a.n := by
  unfold cntB
  rw [List.take_add_one, h]
  simp
theorem cntB_le (B : List Bk) (h : ∀ b ∈ B, 0 ≤ b.a.n) (k : Nat) : 0 ≤ cntB (B.take k) ∧ cntB (B.take k) ≤ cntB B := by
  induction B generalizing k with
  | nil => simp [cntB]
  | cons q m ih =>
    have h1 := h q List.mem_cons_self
    have h2 := fun k => ih (fun p hp => h p (List.mem_cons_of_mem _ hp)) k
    cases k with
    | zero =>
      have := (h2 m.length)
      rw [List.take_length] at this
      simp only [cntB, List.take_zero, List.map_nil, List.sum_nil, List.map_cons, List.sum_cons] at this ⊢
      omega
    | succ k =>
      have := h2 k
      simp only [cntB, List.take_succ_cons, List.map_cons, List.sum_cons] at this ⊢
      omega

set_option maxHeartbeats 16000000 in
set_option maxRecDepth 100000 in
theorem counts_walk (w : World) (a : Option Addr) (n c : Nat) (l : List Pt) (width gap0 : Int) (hl : Src w 3 (.slice a n c) n (pts l)) (hn : n < 4611686018427387904) (hfit : ∀ p ∈ l, p.fits) :
    Calls Try.prog 6 #[.slice a n c, .int .i64 width, .int .i64 gap0] w fun e w' => e = .returned (.bool true) ∧ Ext w w' := by
  have HL := Lib.hid hl
  have HF := Lib.hid hfit
  clear hl hfit
  have hb1 := i64_and63 width
  have hb2 := i64_and63 gap0
  obtain ⟨p7, hp7, hp7'⟩ : ∃ p7 : Nat, width % 64 = (p7 : Int) ∧ p7 ≤ 63 := ⟨(width % 64).toNat, by omega, by omega⟩
  obtain ⟨s15, hs15, hs15'⟩ : ∃ s15 : Nat, gap0 % 64 = (s15 : Int) ∧ s15 ≤ 63 := ⟨(gap0 % 64).toNat, by omega, by omega⟩
  rw [hp7] at hb1
  rw [hs15] at hb2
  clear hp7 hs15
  go_enter Try.func6, Try.ntmps6
  go_wp2_with fail
  obtain ⟨wd, hwd, hwd1, hwd8⟩ : ∃ wd : Nat, 1 + (p7 : Int) = (wd : Int) ∧ 1 ≤ wd ∧ wd ≤ 64 := ⟨p7 + 1, by omega, by omega, by omega⟩
  obtain ⟨gap, hgap, hgap1, hgap16⟩ : ∃ gap : Nat, 1 + (s15 : Int) = (gap : Int) ∧ 1 ≤ gap ∧ gap ≤ 64 := ⟨s15 + 1, by omega, by omega, by omega⟩
  rw [hwd, hgap]
  have HPS := Lib.hid (And.intro hwd1 (And.intro hwd8 (And.intro hgap1 hgap16)))
  clear hwd hgap hb1 hb2 hp7' hs15' hwd1 hwd8 hgap1 hgap16
  go_loopw [7, 8, 9] (fun s7 s8 s9 wr => ∃ (k : Nat) (va : Option Addr) (vc : Nat) (P : List Pt) (t : Int), k ≤ n ∧ k ≤ 100 ∧ s7 = .slice va k vc ∧ s8 = .int .i64 t ∧ s9 = .int .i64 k ∧ Hid (CtR w k P t s7 wr)) (fun _ _ i _ => 100 - (RowKit.intOf i).toNat)
  case atStart => exact ⟨0, none, 0, [], 0, by omega, by omega, rfl, rfl, rfl, Lib.hid ⟨⟨Row.nil _ _ _, fun g hg => by simp [Value.ownBlock] at hg, Ext.refl w⟩, by simp, by simp, by omega, by omega⟩⟩
  case round =>
    obtain ⟨k, va, vc, P, t, hk, hk60, rfl, rfl, rfl, HR⟩ := hrel
    by_cases hlt : k < n ∧ k < 100
    · obtain ⟨hlt, hlt2⟩ := hlt
      obtain ⟨b, so, p, rfl, hp, d0, d1, d2⟩ := pts_src HL.out hlt
      have HFP := Lib.hid (HF.out p (List.mem_of_getElem? hp))
      have HC : Hid (∀ W', Ext w W' → W'.cell? ⟨b, so + k * 3, none⟩ = some (.int .i64 p.t) ∧ W'.cell? ⟨b, so + k * 3 + 1, none⟩ = some (.int .i64 p.v)) := Lib.hid (fun W' hx => ⟨(hx.cell (p := ⟨b, so + k * 3, none⟩) (World.block_lt_of_cell? w _ d0)).trans d0, (hx.cell (p := ⟨b, so + k * 3 + 1, none⟩) (World.block_lt_of_cell? w _ d1)).trans d1⟩)
      obtain ⟨c0, c1⟩ := HC.out _ HR.out.made.ext
      clear d0 d1 d2
      have e0 := i64_and31 p.t
      obtain ⟨x, hx, hx0, hx1⟩ : ∃ x : Int, p.t % 32 = x ∧ 0 ≤ x ∧ x < 32 := ⟨_, rfl, by omega, by omega⟩
      rw [hx] at e0
      have htb := HR.out.bound
      have HXY := Lib.hid (And.intro hx0 hx1)
      have hsum : t + x ≤ 9223372036854775807 := by omega
      have hsum0 : -9223372036854775808 ≤ t + x := by omega
      clear hx hx0 hx1 hp htb
      obtain ⟨pt, pv, ps⟩ := p
      simp only at c0 c1 e0
      go_wp2_with (refine wpList_append_start elem_pt rfl _ _ rfl rfl rfl (Start.row (HR.out.made.row.alloc _) HR.out.made.own) (HR.out.made.ext.alloc _) (src_pt' (p := (⟨t + x, pv, 0⟩ : Pt)) (heap_alloc_new wr (.cells #[.int .i64 (t + x), .int .i64 pv, .int .i64 0] 24 (0, 0)))) (by omega) (by unfold maxLen; omega) (by omega) ?_; rintro v' w5 ha; obtain ⟨va', vc', rfl⟩ := ha.row.shape; have HA := Lib.hid ha; clear ha)
      refine ⟨⟨k + 1, va', vc', P ++ [⟨t + x, pv, 0⟩], t + x, by omega, by omega, rfl, by go_num, by go_num, Lib.hid ⟨?_, ?_, ?_, ?_⟩⟩, ?_⟩
      · rw [pts_append]; exact HA.out
      · have h1 := HR.out.bound
        have h2 := HXY.out
        intro q hq
        rcases List.mem_append.1 hq with hq | hq
        · have := HR.out.ok q hq
          omega
        · simp at hq; subst hq; have := HFP.out.2.1; simp only at this ⊢; omega
      · rw [List.pairwise_append]
        refine ⟨HR.out.sort, by simp, fun q hq r hr => ?_⟩
        simp at hr; subst hr
        have h1 := HR.out.ok q hq
        have h2 := HXY.out
        simp only
        omega
      · have h1 := HR.out.bound
        have h2 := HXY.out
        omega
      · simp [RowKit.intOf]; omega
    · have hkk : ¬ k < n ∨ ¬ k < 100 := by omega
      have HKK := Lib.hid hkk
      have HWN : Hid (windowB (wd : Int) (wd : Int) 0 = true) := Lib.hid (by
        have h0 := HPS.out
        unfold windowB
        simp only [Bool.and_eq_true, decide_eq_true_eq]
        omega)
      clear hkk
      rcases HKK.out with hx | hx
      case' inl => go_wp2_with fail
      case' inr =>
        by_cases hx2 : k < n
        case' pos => go_wp2_with fail
        case' neg => go_wp2_with fail
      all_goals
        have HPL : Hid (P.length = k) := Lib.hid (src_len (HR.out.made.row.src (pts_one P)))
        have HCAP : Hid (k ≤ vc) := Lib.hid (by
          rcases HR.out.made.row.2 with ⟨e, h⟩ | ⟨g, cap, cur, e, _, _, h, _⟩
          · cases e; omega
          · cases e; exact h)
        refine (windows_any wr va k vc P wd wd 0 (HR.out.made.row.src (pts_one P)) (by omega) (fun p hp => (HR.out.ok p hp).2.2)).mono ?_
        intro e w5 hpost
        unfold winPost at hpost
        rw [if_pos ⟨HWN.out, by
          rw [List.any_eq_false]
          intro p hp
          have h1 := HR.out.ok p hp
          have h2 := HR.out.bound
          have : timeB p.t = true := by unfold timeB; simp only [Bool.and_eq_true, decide_eq_true_eq]; omega
          simp [this]⟩] at hpost
        obtain ⟨v, rfl, ds, hperm, hsort, hmd⟩ := hpost
        obtain ⟨wa, wc, rfl⟩ := hmd.row.shape
        have HMD := Lib.hid hmd
        have HDS := Lib.hid hperm
        clear hmd hperm hsort
        go_wp2_with fail
        refine (bsessions_any w5 va k vc P gap ((HR.out.made.row.ext HMD.out.ext).src (pts_one P)) (by omega) HCAP.out (fun p hp => (HR.out.ok p hp).2.2)).mono ?_
        intro e w6 hpost
        have HSES : Hid (sesOk (gap : Int) (P.map (·.t))) := Lib.hid (by
          have h0 := HPS.out
          refine ⟨⟨by omega, by omega, ?_⟩, ?_⟩
          · rw [List.all_eq_true]
            intro x hx
            obtain ⟨p, hp, rfl⟩ := List.mem_map.1 hx
            have h1 := HR.out.ok p hp
            have h2 := HR.out.bound
            unfold timeB; simp only [Bool.and_eq_true, decide_eq_true_eq]; omega
          · rw [List.pairwise_map]; exact HR.out.sort)
        unfold bsPost at hpost
        rcases hpost with ⟨_, v, rfl, hmd⟩ | ⟨hno, _⟩
        case' inr => exact absurd HSES.out hno
        obtain ⟨sa, sc, rfl⟩ := hmd.row.shape
        have HMS := Lib.hid hmd
        clear hmd
        go_wp2_with fail
        have HSUM1 : Hid (cntB (ds.map (bkOf wd)) = k ∧ (∀ b ∈ ds.map (bkOf wd), 0 ≤ b.a.n) ∧ ∀ b ∈ ds.map (bkOf wd), winR wd b.lo b.a ∧ b.hi = b.lo + wd ∧ 0 ≤ b.lo + wd ∧ b.lo ≤ 4000) := Lib.hid (by
          have hw1 := HPS.out
          have hW := gatL_win (wd := wd) (st := wd) (off := 0) (by omega) (by omega) P
          have hW2 := gatL_keys (wd := wd) (st := wd) (off := 0) P
          have hall : ∀ b ∈ ds.map (bkOf wd), winR wd b.lo b.a ∧ b.hi = b.lo + wd ∧ 0 ≤ b.lo + wd ∧ b.lo ≤ 4000 := by
            intro b hb
            obtain ⟨q, hq, rfl⟩ := List.mem_map.1 hb
            have hq' := HDS.out.subset hq
            obtain ⟨p, hp, x, hx, e⟩ := hW2 q hq'
            have h3 := (mem_winL (by omega) (by omega)).1 hx
            have h4 := HR.out.ok p hp
            have h5 := HR.out.bound
            exact ⟨hW q hq', rfl, by simp only [bkOf]; omega, by simp only [bkOf]; omega⟩
          refine ⟨?_, fun b hb => by have := (hall b hb).1.1; omega, hall⟩
          have hNp : ∀ t, winN (wd : Int) (wd : Int) 0 t = 1 := fun t => by
            have := winN_parts (st := (wd : Int)) (off := 0) (t := t) (p := 1) (by omega) (by omega)
            simpa using this
          have h6 := (sum_gatL (wd := wd) (st := wd) (off := 0) hNp P).1
          rw [← sumN_perm HDS.out, HPL.out] at h6
          have e : cntB (ds.map (bkOf wd)) = sumN ds := by unfold cntB sumN; rw [List.map_map]; rfl
          rw [e, h6]; simp)
        have HSUM2 : Hid (cntB (sesL gap P) = k ∧ (∀ b ∈ sesL gap P, 0 ≤ b.a.n) ∧ ∀ b ∈ sesL gap P, b.a.f.t = b.lo ∧ b.a.l.t = b.hi - gap ∧ 0 ≤ b.hi ∧ b.hi ≤ 8000) := Lib.hid (by
          have G := grp_ok (gap := (gap : Int)) (by have := HPS.out; omega) P HR.out.sort
          have hg : ∀ g ∈ grp gap P, (agA g).f.t = gLo g ∧ (agA g).l.t = gHi g ∧ (agA g).n = g.length ∧ 0 ≤ gHi g ∧ gHi g ≤ 4000 := fun g hgm => by
            have h1 := ses_ends (gap := (gap : Int)) (G.some g hgm) (G.within g hgm)
            have h2 := agA_ends g (G.some g hgm)
            have h3 := HR.out.ok _ (by rw [← G.flat]; exact List.mem_flatten.2 ⟨g, hgm, h2.2.2.1⟩)
            have h4 := HR.out.bound
            exact ⟨h1.1, h1.2.1, h1.2.2, by omega, by omega⟩
          refine ⟨?_, ?_, ?_⟩
          · have h1 := ses_sum G
            have e : ∀ gs : List (List Pt), (∀ g ∈ gs, (agA g).n = g.length) → cntB (gs.map (sesBk gap)) = ((gs.map List.length).sum : Nat) := by
              intro gs
              induction gs with
              | nil => intro _; simp [cntB]
              | cons g gs ih =>
                intro h
                have h2 := ih (fun g' hg' => h g' (List.mem_cons_of_mem _ hg'))
                have h3 := h g List.mem_cons_self
                simp only [cntB, List.map_cons, List.sum_cons, sesBk] at h2 ⊢
                rw [h2, h3]
                omega
            unfold sesL
            rw [e _ (fun g hgm => (hg g hgm).2.2.1), h1, HPL.out]
          · intro b hb
            obtain ⟨g, hgm, rfl⟩ := List.mem_map.1 hb
            have := (hg g hgm).2.2.1
            simp only [sesBk]
            omega
          · intro b hb
            obtain ⟨g, hgm, rfl⟩ := List.mem_map.1 hb
            have h1 := hg g hgm
            have h2 := HPS.out
            simp only [sesBk]
            omega)
        have HM1 := Lib.hid ((HMD.out.row.ext HMS.out.ext).src (bks_one _))
        have HM2 := Lib.hid (HMS.out.row.src (bks_one _))
        have HEX := Lib.hid (HR.out.made.ext.trans (HMD.out.ext.trans HMS.out.ext))
        have HL1 : Hid ((ds.map (bkOf wd)).length = ds.length) := Lib.hid (by simp)
        obtain ⟨B1, hB1⟩ : ∃ B1, B1 = ds.map (bkOf wd) := ⟨_, rfl⟩
        obtain ⟨m1, hm1⟩ : ∃ m1, m1 = ds.length := ⟨_, rfl⟩
        obtain ⟨B2, hB2⟩ : ∃ B2, B2 = sesL gap P := ⟨_, rfl⟩
        obtain ⟨m2, hm2⟩ : ∃ m2, m2 = B2.length := ⟨_, rfl⟩
        rw [← hB2] at HSUM2 HM2 ⊢
        rw [← hm2] at HM2 ⊢
        rw [← hm1] at HM1 HL1 ⊢
        rw [← hB1] at HM1 HSUM1 HL1
        have HL2 := Lib.hid hm2.symm
        have HN2 : Hid (m1 ≤ 6400 ∧ m2 ≤ 100) := Lib.hid (by
          have h1 := gatL_len (wd := wd) (st := wd) (off := 0) HWN.out P
          rw [HPL.out, ← HDS.out.length_eq, ← hm1] at h1
          have G := grp_ok (gap := (gap : Int)) (by have := HPS.out; omega) P HR.out.sort
          have h2 := spL_len gap (P.map (·.t))
          rw [G.spans] at h2
          rw [hm2, hB2]
          unfold sesL
          have h3 := HPL.out
          simp at h2 ⊢
          omega)
        clear hB1 hm1 hB2 hm2 HMD HDS HMS HSES
        go_wp2_with fail
        go_loopw [14, 16] (fun s14 s16 wq => ∃ j : Nat, j ≤ m1 ∧ s14 = .int .i64 (cntB (B1.take j)) ∧ s16 = .int .i64 j ∧ Hid (Ext w6 wq)) (fun _ i _ => m1 - (RowKit.intOf i).toNat)
        case atStart => exact ⟨0, by omega, by simp [cntB], rfl, Lib.hid (Ext.refl _)⟩
        case round =>
          obtain ⟨j, hj, rfl, rfl, HX⟩ := hrel
          by_cases hjm : j < m1
          · obtain ⟨b', so', bk, rfl, hbk, hrg⟩ := enc_src bkc_len (by decide) (HM1.out.ext HX.out) hjm
            obtain ⟨z0, z1, z2, z7, z10⟩ := bk_cells hrg
            have hts := cntB_take hbk
            have htn := cntB_le B1 HSUM1.out.2.1 (j + 1)
            rw [HSUM1.out.1, hts] at htn
            have hbb := HSUM1.out.2.2 bk (List.mem_of_getElem? hbk)
            unfold winR at hbb
            have HT := Lib.hid hts
            obtain ⟨x, hx⟩ : ∃ x, x = cntB (B1.take j) := ⟨_, rfl⟩
            rw [← hx] at htn HT ⊢
            obtain ⟨lo, hi, bn, bs, bmn, bmx, bf, bl⟩ := bk
            simp only at z0 z1 z2 z7 z10 hbb htn HT
            have hn0 := HSUM1.out.2.1 _ (List.mem_of_getElem? hbk)
            have hx0 := (cntB_le B1 HSUM1.out.2.1 j).1
            rw [← hx] at hx0
            simp only at hn0
            have g1 : x + bn ≤ 9223372036854775807 := by omega
            have g2 : -9223372036854775808 ≤ x + bn := by omega
            have hd1 : decide (bf.t < lo) = false := by simp; omega
            have hd2 : decide (hi ≤ bl.t) = false := by simp; omega
            have hd3 : IntKind.i64.wrap (hi - lo) = (wd : Int) := by rw [IntWalk.i64_in _ (by have := HPS.out; omega)]; omega
            clear hx hts htn hbb hn0 hx0 hbk hrg
            go_wp2_with fail
            refine wp_region_split_lit [] [0, 1, 2, 3, 4, 5, 6, 7, 8, 9, 10, 11, 12, 13, 14, 15, 16, 17, 18, 19, 20, 21, 22, 23, 24, 25, 26, 27, 28, 29, 30, 31, 32, 33, 34, 35, 36, 37, 38, 39, 40, 41, 42, 43, 44, 45, 46] [] (by kernel_rfl) (by kernel_rfl) (fun _ _ dd _ _ hh => by cases dd <;> exact hh) ?_
            simp only [pickOps, List.getElem?_cons_succ, List.getElem?_cons_zero]
            refine wpQuiet_nil ?_
            repeat (go_big_quiet_step (fail))
            refine wpQuiet_nil ?_
            intro w7 hw'
            have HX7 : Hid (Ext w6 w7) := Lib.hid (by obtain ⟨k, rfl⟩ := hw'; exact HX.out.trans (Ext.drewN _ _))
            clear hw'
            have HN3 := HN2.out.1
            go_wp2_with fail
            refine ⟨⟨j + 1, hjm, by rw [HT.out], ?_, HX7⟩, ?_⟩
            · first
                | exact int_succ j
                | go_num
            · simp [RowKit.intOf]; omega
          · have htk : B1.take j = B1 := List.take_of_length_le (by have := HL1.out; omega)
            rw [htk, HSUM1.out.1]
            clear htk
            go_wp2_with fail
            go_loopw [15, 17] (fun s15 s17 wq => ∃ j : Nat, j ≤ m2 ∧ s15 = .int .i64 (cntB (B2.take j)) ∧ s17 = .int .i64 j ∧ Hid (Ext w6 wq)) (fun _ i _ => m2 - (RowKit.intOf i).toNat)
            case atStart => exact ⟨0, by omega, by simp [cntB], rfl, HX⟩
            case round =>
              clear HX
              obtain ⟨j2, hj2, rfl, rfl, HX⟩ := hrel
              by_cases hjm2 : j2 < m2
              · obtain ⟨b', so', bk, rfl, hbk, hrg⟩ := enc_src bkc_len (by decide) (HM2.out.ext HX.out) hjm2
                obtain ⟨z0, z1, z2, z7, z10⟩ := bk_cells hrg
                have hts := cntB_take hbk
                have htn := cntB_le B2 HSUM2.out.2.1 (j2 + 1)
                rw [HSUM2.out.1, hts] at htn
                have hbb := HSUM2.out.2.2 bk (List.mem_of_getElem? hbk)
                have HT := Lib.hid hts
                obtain ⟨x, hx⟩ : ∃ x, x = cntB (B2.take j2) := ⟨_, rfl⟩
                rw [← hx] at htn HT ⊢
                have hn0 := HSUM2.out.2.1 _ (List.mem_of_getElem? hbk)
                have hx0 := (cntB_le B2 HSUM2.out.2.1 j2).1
                rw [← hx] at hx0
                obtain ⟨lo, hi, bn, bs, bmn, bmx, bf, bl⟩ := bk
                simp only at z0 z1 z2 z7 z10 hbb htn HT hn0
                obtain ⟨q1, q2, q3, q4⟩ := hbb
                have g1 : x + bn ≤ 9223372036854775807 := by omega
                have g2 : -9223372036854775808 ≤ x + bn := by omega
                rw [q1] at z7
                have hd3 : IntKind.i64.wrap (hi - (gap : Int)) = bl.t := by rw [IntWalk.i64_in _ (by have := HPS.out; omega)]; omega
                clear hx hts htn hn0 hx0 hbk hrg q1 q2 q3 q4
                go_wp2_with fail
                refine wp_region_split_lit [] [0, 1, 2, 3, 4, 5, 6, 7, 8, 9, 10, 11, 12, 13, 14, 15, 16, 17, 18, 19, 20, 21, 22, 23, 24, 25, 26, 27, 28, 29, 30, 31] [] (by kernel_rfl) (by kernel_rfl) (fun _ _ dd _ _ hh => by cases dd <;> exact hh) ?_
                simp only [pickOps, List.getElem?_cons_succ, List.getElem?_cons_zero]
                refine wpQuiet_nil ?_
                repeat (go_big_quiet_step (fail))
                refine wpQuiet_nil ?_
                intro w7 hw'
                have HX7 : Hid (Ext w6 w7) := Lib.hid (by obtain ⟨k, rfl⟩ := hw'; exact HX.out.trans (Ext.drewN _ _))
                clear hw'
                have HN4 := HN2.out.2
                go_wp2_with fail
                refine ⟨⟨j2 + 1, hjm2, by rw [HT.out], ?_, HX7⟩, ?_⟩
                · first
                    | exact int_succ j2
                    | go_num
                · simp [RowKit.intOf]; omega
              · have htk : B2.take j2 = B2 := List.take_of_length_le (by have := HL2.out; omega)
                rw [htk, HSUM2.out.1]
                clear htk
                go_wp2_with fail
                go_ret
                exact ⟨rfl, HEX.out.trans HX.out⟩
end Go.Proofs.Ythpindmcklennaa
