/- The document's put: a bucket's points into the windows that have a time. -/
import Derived.Test.YtokllgdbmnmieaaGreatR21a
import Derived.Test.YtokllgdbmnmieaaGreatR09w
import Derived.Deep.DeepCutAuto
import Derived.Test.YtokllgdbmnmieaaGreatFtp
namespace Go.Proofs.YtokllgdbmnmieaaGreat
open Go.RowKit Go.Lib Go.Sort

/-- So far: the row of buckets, in the row that came or a newer one. -/
structure PuR (w0 w1 : World) (v0 : Value) (L : List Bk) (va : Option Addr) (n vc : Nat) (wr : World) : Prop where
  made : MadeTo w0 92 19 (.slice va n vc) n (rbs L) wr
  len : L.length = n
  chg : Chg (fun i => v0.ownBlock = some i) w1 wr
  own : ∀ g, (Value.slice va n vc).ownBlock = some g → v0.ownBlock = some g ∨ w1.heap.size ≤ g
theorem PuR.ext {w0 w1 wr w' : World} {v0 : Value} {L : List Bk} {va : Option Addr} {n vc : Nat} (h : PuR w0 w1 v0 L va n vc wr) (hx : Ext wr w') : PuR w0 w1 v0 L va n vc w' :=
  ⟨⟨h.made.row.ext hx, h.made.own, h.made.ext.trans hx⟩, h.len, h.chg.trans (Chg.of_ext (S := fun _ => False) hx) (fun _ _ e => e.elim), h.own⟩
theorem PuR.write {w0 w1 wr w' : World} {v0 : Value} {L L' : List Bk} {b so n vc : Nat} (h : PuR w0 w1 v0 L (some ⟨b, so, none⟩) n vc wr) (hr : Row w' 92 19 (.slice (some ⟨b, so, none⟩) n vc) n (rbs L')) (hl : L'.length = n) (hc : Chg (· = b) wr w') :
    PuR w0 w1 v0 L' (some ⟨b, so, none⟩) n vc w' := by
  have ho := h.made.own b rfl
  refine ⟨⟨hr, h.made.own, ((Chg.of_ext h.made.ext).trans hc (fun _ _ e => e)).ext (fun i hi e => by omega)⟩, hl, h.chg.trans hc (fun i hi e => ?_), h.own⟩
  subst e
  rcases h.own i rfl with h1 | h1
  · exact h1
  · omega
theorem PuR.append {w0 w1 wr w' : World} {v0 : Value} {L L' : List Bk} {va va' : Option Addr} {n vc vc' : Nat} (h : PuR w0 w1 v0 L va n vc wr) (hsz : w1.heap.size ≤ wr.heap.size) (ha : Appended wr 92 19 (.slice va n vc) (n + 1) (rbs L ++ rbs L') (.slice va' (n + 1) vc') w') (hl : L'.length = 1) :
    PuR w0 w1 v0 (L ++ L') va' (n + 1) vc' w' := by
  have hc0 := h.made.ext.size
  refine ⟨⟨by rw [rbs_append]; exact ha.row, fun g hg => ?_, ?_⟩, by rw [List.length_append, h.len, hl], h.chg.trans ha.chg (fun i hi e => ?_), fun g hg => ?_⟩
  · rcases ha.loc with e | e
    · exact h.made.own g (e ▸ hg)
    · rw [e] at hg; cases hg; exact hc0
  · exact ((Chg.of_ext h.made.ext).trans ha.chg (fun _ _ e => e)).ext (fun i hi e => by have := h.made.own i e; omega)
  · rcases h.own i e with h1 | h1
    · exact h1
    · omega
  · rcases ha.loc with e | e
    · exact h.own g (e ▸ hg)
    · rw [e] at hg; cases hg; exact .inr hsz

theorem putB_bnd {a : Ag} {K A : Nat} (ha : a.bnd A) (x : Int × Int) : ∀ (L : List Bk), (∀ b ∈ L, b.a.bnd K) → ∀ b ∈ putB a x L, b.a.bnd (K + A)
  | [], _, b, hb => by
    simp [putB] at hb; subst hb
    exact agM_bnd (zero_bnd K) ha
  | c :: l, h, b, hb => by
    have hc := h c List.mem_cons_self
    simp only [putB] at hb
    split at hb
    · rcases List.mem_cons.1 hb with e | hb
      · rw [e]; exact hc.mono (by omega)
      · exact putB_bnd ha x l (fun b' hb' => h b' (List.mem_cons_of_mem _ hb')) b hb
    · split at hb
      · rcases List.mem_cons.1 hb with e | hb
        · rw [e]; exact agM_bnd hc ha
        · exact (h b (List.mem_cons_of_mem _ hb)).mono (by omega)
      · rcases List.mem_cons.1 hb with e | hb
        · rw [e]; exact agM_bnd (zero_bnd K) ha
        · exact (h b hb).mono (by omega)
theorem putSL_bnd {a : Ag} {A : Nat} (ha : a.bnd A) : ∀ (l : List (Int × Int)) (L : List Bk) (K : Nat), (∀ b ∈ L, b.a.bnd K) → ∀ b ∈ putSL L a l, b.a.bnd (K + l.length * A)
  | [], L, K, h => by simpa [putSL] using h
  | x :: l, L, K, h => by
    have := putSL_bnd ha l (putB a x L) (K + A) (putB_bnd ha x L h)
    intro p hp
    exact (this p hp).mono (by simp only [List.length_cons, Nat.succ_mul]; omega)
theorem putB_len (a : Ag) (x : Int × Int) (L : List Bk) : (putB a x L).length ≤ L.length + 1 := by
  induction L with
  | nil => simp [putB]
  | cons c l ih => simp only [putB]; split <;> (try split) <;> simp <;> omega
theorem putSL_len {a : Ag} : ∀ (l : List (Int × Int)) (L : List Bk), (putSL L a l).length ≤ L.length + l.length
  | [], L => by simp [putSL]
  | x :: l, L => by
    have := putSL_len (a := a) l (putB a x L)
    have h2 := putB_len a x L
    have e : putSL L a (x :: l) = putSL (putB a x L) a l := rfl
    rw [e]
    simp only [List.length_cons]
    omega
theorem putSL_take {L : List Bk} {a : Ag} {l : List (Int × Int)} {k : Nat} {p : Int × Int} (h : l[k]? = some p) : putSL L a (l.take (k + 1)) = putB a p (putSL L a (l.take k)) := by
  unfold putSL
  rw [List.take_add_one, h, List.foldl_append]
  rfl

theorem shift_step {L : List Bk} {p : Nat} {b st : Bk} (h : L[p]? = some b) : (L.take (p + 1) ++ st :: L.drop (p + 1)).set (p + 1) b = L.take p ++ b :: L.drop p := by
  obtain ⟨hp, e⟩ := List.getElem?_eq_some_iff.1 h
  have hl : (L.take (p + 1)).length = p + 1 := by rw [List.length_take]; omega
  rw [List.set_append_right _ _ (by omega), hl, Nat.sub_self, List.set_cons_zero, List.take_add_one, h, List.drop_eq_getElem_cons hp, e]
  simp
theorem set_at {L : List Bk} {k : Nat} {b st : Bk} (hk : k ≤ L.length) : (L.take k ++ st :: L.drop k).set k b = L.take k ++ b :: L.drop k := by
  have hl : (L.take k).length = k := by rw [List.length_take]; omega
  rw [List.set_append_right _ _ (by omega), hl, Nat.sub_self, List.set_cons_zero]
theorem get_at {L : List Bk} {k : Nat} {st : Bk} (hk : k ≤ L.length) : (L.take k ++ st :: L.drop k)[k]? = some st := by
  have hl : (L.take k).length = k := by rw [List.length_take]; omega
  rw [List.getElem?_append_right (by omega), hl, Nat.sub_self]; rfl
theorem get_below {L : List Bk} {k p : Nat} {st : Bk} (hp : p < k) (hk : k ≤ L.length) : (L.take k ++ st :: L.drop k)[p]? = L[p]? := by
  rw [List.getElem?_append_left (by rw [List.length_take]; omega), List.getElem?_take, if_pos hp]
theorem len_at {L : List Bk} {k : Nat} {st : Bk} (hk : k ≤ L.length) : (L.take k ++ st :: L.drop k).length = L.length + 1 := by
  simp; omega
theorem rbc_all (b : Bk) : (rbc b).toArray.all (·.oneCell') = true := by
  rw [Array.all_eq_true_iff_forall_mem]
  intro v hv
  exact rbc_one b v (by simpa using hv)

set_option maxHeartbeats 4000000 in
set_option maxRecDepth 100000 in
theorem rput_any {w0 w : World} {a0 : Option Addr} {n0 c0 : Nat} {L0 : List Bk} (hm0 : MadeTo w0 92 19 (.slice a0 n0 c0) n0 (rbs L0) w) (hl0 : L0.length = n0) (wd st off t : Int) (a : Ag) (K A : Nat) (hv : windowB wd st off = true) (ht : timeB t = true)
    (hm : ∀ b ∈ L0, b.a.bnd K) (ha : a.bnd A) (ha1 : 1 ≤ a.n) (hk : K + 64 * A ≤ 1125899906842624) (hlen : n0 ≤ 60000) :
    Calls Tryz.prog 53 #[.slice a0 n0 c0, .int .i64 wd, .int .i64 st, .int .i64 off, .int .i64 t, .agg (agR a)] w fun e w' => ∃ v n, e = .returned (.tuple #[v, .int .i64 0]) ∧ MadeTo w0 92 19 v n (rbs (putSL L0 a (winL wd st off t))) w' ∧ (putSL L0 a (winL wd st off t)).length = n := by
  have HOF := Lib.hid (fun W => rof09_any wd st off t W hv ht)
  have HM0 := Lib.hid hm0
  have HM := Lib.hid (And.intro hm (And.intro ha (And.intro ha1 (And.intro hk (And.intro hlen hl0)))))
  have HW := Lib.hid (winN_le (t := t) hv)
  have HLN0 := Lib.hid (winL_len wd st off t)
  clear hm0 hm ha ha1 hk hlen hl0 hv ht
  obtain ⟨N, hN⟩ : ∃ n, n = winN wd st off t := ⟨_, rfl⟩
  obtain ⟨XS, hXS⟩ : ∃ l, l = winL wd st off t := ⟨_, rfl⟩
  simp only [← hN, ← hXS] at HOF
  rw [← hN] at HW
  rw [← hN, ← hXS] at HLN0
  rw [← hXS]
  clear hN hXS
  obtain ⟨AC, hAC⟩ : ∃ A : Array Value, A = agR a := ⟨_, rfl⟩
  have HA := Lib.hid hAC
  rw [← hAC]
  clear hAC
  go_enter Tryz.func53, Tryz.ntmps53
  go_wp2_with fail
  refine (HOF.out _).mono ?_
  rintro e w1 ⟨v, rfl, hm1⟩
  obtain ⟨sa, sc, rfl⟩ := hm1.row.shape
  have HS1 := Lib.hid (hm1.row.src (sps_one XS))
  have HB1 : Hid (w1.heap[w.heap.size]? = some (.cells AC 90 (0, 0))) := Lib.hid ((hm1.ext.block (block_lt (heap_alloc_new w _))).trans (heap_alloc_new w _))
  have HX1 := Lib.hid (((Ext.refl w).alloc (.cells AC 90 (0, 0))).trans hm1.ext)
  have HO1 := Lib.hid hm1.own
  have HVL : Hid (∀ g, (Value.slice a0 n0 c0).ownBlock = some g → g < w.heap.size) := Lib.hid (fun g hg => HM0.out.row.lt hg)
  have HPU : Hid (PuR w0 w1 (.slice a0 n0 c0) L0 a0 n0 c0 w1) := Lib.hid ⟨⟨HM0.out.row.ext HX1.out, HM0.out.own, HM0.out.ext.trans HX1.out⟩, HM.out.2.2.2.2.2, Chg.refl _ _, fun g hg => .inl hg⟩
  clear hm1 HOF
  go_wp2_with fail
  go_loopw [0, 16] (fun s0 s16 wr => ∃ (i n vc : Nat) (va : Option Addr), i ≤ N ∧ s16 = .int .i64 i ∧ s0 = .slice va n vc ∧ n ≤ 60000 + i ∧ Hid (PuR w0 w1 (.slice a0 n0 c0) (putSL L0 a (XS.take i)) va n vc wr)) (fun _ i _ => N - (RowKit.intOf i).toNat)
  case atStart => exact ⟨0, n0, c0, a0, by omega, rfl, rfl, by have := HM.out.2.2.2.2.1; omega, by simpa [putSL] using HPU⟩
  case round =>
    obtain ⟨i, n, vc, va, hi, rfl, rfl, hn60, HR⟩ := hrel
    have hN64 : N ≤ 64 := HW.out
    by_cases hlt : i < N
    · have HSr : Hid (∀ w', Chg (fun i => (Value.slice a0 n0 c0).ownBlock = some i) w1 w' → Src w' 2 (.slice sa N sc) N (sps XS)) := Lib.hid (fun w' hc => HS1.out.chg hc (fun g hg e => by have h1 := HO1.out g hg; have h2 := HVL.out g e; simp at h1; omega))
      obtain ⟨sb, so, x, rfl, hx, z0, z1⟩ := sps_src (HSr.out _ HR.out.chg) hlt
      have HX := Lib.hid hx
      have HZZ : Hid (∀ w', Ext wr w' → w'.cell? ⟨sb, so + i * 2, none⟩ = some (.int .i64 x.1) ∧ w'.cell? ⟨sb, so + i * 2 + 1, none⟩ = some (.int .i64 x.2)) := Lib.hid (fun w' hx => ⟨(hx.cell (World.block_lt_of_cell? wr _ z0)).trans z0, (hx.cell (World.block_lt_of_cell? wr _ z1)).trans z1⟩)
      obtain ⟨L, hL⟩ : ∃ L, L = putSL L0 a (XS.take i) := ⟨_, rfl⟩
      have HL := Lib.hid hL
      rw [← hL] at HR
      clear hx hL z0 z1
      obtain ⟨x1, x2⟩ := x
      simp only at HZZ
      obtain ⟨ka, hka⟩ : ∃ ka, ka = kAt x1 L := ⟨_, rfl⟩
      have HKA := Lib.hid hka
      have hkan : ka ≤ n := by rw [hka, ← HR.out.len]; exact kAt_le _ _
      clear hka
      go_wp2_with fail
      go_loopw [17] (fun s17 wz => ∃ k : Nat, k ≤ ka ∧ s17 = .int .i64 k ∧ Hid (Ext wr wz)) (fun i _ => ka - (RowKit.intOf i).toNat)
      case atStart => exact ⟨0, by omega, rfl, Lib.hid (Ext.refl _)⟩
      case round =>
        obtain ⟨k, hk, rfl, HE⟩ := hrel
        obtain ⟨z0, z1⟩ := HZZ.out _ HE.out
        by_cases hkk : k < ka
        · have hkn : k < n := by omega
          obtain ⟨ob, oo, bk, rfl, hbk, hrg⟩ := enc_src rbc_len (by decide) ((HR.out.made.row.src (rbs_one _)).ext HE.out) hkn
          have q0 : wr.cell? ⟨ob, oo + k * 19, none⟩ = some (.int .i64 bk.lo) := hrg 0 _ rfl
          have hlo : bk.lo < x1 := kAt_lt (L := L) (i := k) (by rw [← HKA.out]; exact hkk) hbk
          have hd1 : decide (bk.lo < x1) = true := by simp; omega
          clear hbk hrg z1
          go_wp2_with fail
          refine wp_region_split_lit [] [0, 1, 2, 3, 4, 5, 6, 7, 8, 9, 10, 11, 12, 13, 14, 15, 16] [] (by kernel_rfl) (by kernel_rfl) (fun _ _ dd _ _ hh => by cases dd <;> exact hh) ?_
          simp only [pickOps, List.getElem?_cons_succ, List.getElem?_cons_zero]
          refine wpQuiet_nil ?_
          repeat (go_big_quiet_step (fail))
          refine wpQuiet_nil ?_
          intro w7 hw'
          have HX7 : Hid (Ext wr w7) := Lib.hid (by obtain ⟨k, rfl⟩ := hw'; exact Ext.drewN _ _)
          clear hw'
          go_wp2_with fail
          exact ⟨⟨k + 1, by omega, by go_num, Lib.hid (HE.out.trans HX7.out)⟩, by simp [RowKit.intOf]; omega⟩
        · obtain rfl : k = ka := by omega
          have HPE := Lib.hid (HR.out.ext HE.out)
          rcases Nat.lt_or_ge k n with hkn | hkn
          · obtain ⟨ob, oo, bk, rfl, hbk, hrg⟩ := enc_src rbc_len (by decide) (HPE.out.made.row.src (rbs_one _)) hkn
            have q0 : wr.cell? ⟨ob, oo + k * 19, none⟩ = some (.int .i64 bk.lo) := hrg 0 _ rfl
            have hlo : ¬ bk.lo < x1 := kAt_ge (L := L) (z := x1) (by rw [← HKA.out]; exact hbk)
            have hd1 : decide (bk.lo < x1) = false := by simp; omega
            have hkne : ((k : Int) == (n : Int)) = false := by simp; omega
            have HBK := Lib.hid hbk
            clear hbk hrg
            go_wp2_with fail
            refine wp_region_split_lit [] [0, 1, 2, 3, 4, 5, 6, 7, 8, 9, 10, 11, 12, 13, 14, 15, 16] [] (by kernel_rfl) (by kernel_rfl) (fun _ _ dd _ _ hh => by cases dd <;> exact hh) ?_
            simp only [pickOps, List.getElem?_cons_succ, List.getElem?_cons_zero]
            refine wpQuiet_nil ?_
            repeat (go_big_quiet_step (fail))
            refine wpQuiet_nil ?_
            intro w7 hw'
            have HX7 : Hid (Ext wr w7) := Lib.hid (by obtain ⟨k, rfl⟩ := hw'; exact Ext.drewN _ _)
            have q1 : w7.cell? ⟨ob, oo + k * 19, none⟩ = some (.int .i64 bk.lo) := by obtain ⟨k, rfl⟩ := hw'; exact q0
            have y0 : w7.cell? ⟨sb, so + i * 2, none⟩ = some (.int .i64 x1) := by obtain ⟨k, rfl⟩ := hw'; exact z0
            clear hw' q0 z0 z1 hd1
            by_cases hlx : bk.lo = x1
            · rw [hlx] at q1
              go_wp2_with fail
              refine wp_region_split_lit [] [0, 1, 2, 3, 4, 5, 6, 7, 8, 9, 10, 11, 12, 13, 14, 15, 16] [] (by kernel_rfl) (by kernel_rfl) (fun _ _ dd _ _ hh => by cases dd <;> exact hh) ?_
              simp only [pickOps, List.getElem?_cons_succ, List.getElem?_cons_zero]
              refine wpQuiet_nil ?_
              repeat (go_big_quiet_step (fail))
              refine wpQuiet_nil ?_
              intro w8 hw'
              have HX8 : Hid (Ext wr w8) := Lib.hid (by obtain ⟨k, rfl⟩ := hw'; exact HX7.out.trans (Ext.drewN _ _))
              clear hw' q1 y0
              go_wp2_with fail
              have HTL : Hid (∃ bk, L[k]? = some bk ∧ putB a (x1, x2) L = L.set k ⟨bk.lo, bk.hi, agM bk.a a⟩ ∧ bk.a.bnd (K + i * A) ∧ PuR w0 w1 (.slice a0 n0 c0) L (some ⟨ob, oo, none⟩) n vc w8) := Lib.hid ⟨bk, HBK.out, by have h1 := HKA.out; have h2 := putB_old (a := a) (x := (x1, x2)) (L := L) (b := bk) (by rw [← h1]; exact HBK.out) hlx; rw [← h1] at h2; exact h2, by
                have h1 := putSL_bnd HM.out.2.1 (XS.take i) L0 K HM.out.1 bk (by rw [← HL.out]; exact List.mem_of_getElem? HBK.out)
                have h2 : (XS.take i).length = i := by rw [List.length_take]; have := HLN0.out; omega
                rw [h2] at h1
                exact h1, HPE.out.ext HX8.out⟩
              obtain ⟨bk, t1, t2, t3, t4⟩ := HTL.out
              have HBKT := Lib.hid t1
              have HPBT := Lib.hid t2
              have HBDT := Lib.hid t3
              have HPUT := Lib.hid t4
              clear t1 t2 t3 t4 HTL
              try simp only [Act.put]
              obtain ⟨ob2, oo2, bk2, heq, hb2, hrg⟩ := enc_src rbc_len (by decide) (HPUT.out.made.row.src (rbs_one _)) (show k < n by omega)
              simp only [Option.some.injEq, Addr.mk.injEq, and_true] at heq
              obtain ⟨rfl, rfl⟩ := heq
              rw [HBKT.out] at hb2
              cases hb2
              have HRGT := Lib.hid hrg
              clear hrg
              have HBA : Hid (w8.heap[w.heap.size]? = some (.cells AC 90 (0, 0))) := Lib.hid ((HPUT.out.chg.block _ (block_lt HB1.out) (fun e => by have := HVL.out _ e; omega)).trans HB1.out)
              have HIA : Hid ((Tryz.prog.info? 90).map (·.size) = some AC.size) := Lib.hid (by rw [HA.out]; exact ar_info)
              have f0 : ∀ (d : Nat) (f : Nat → Obj) (os : Array Obj), (Instr.loadAt 90 (.pointer (some ⟨ob, oo + k * 19 + 2, none⟩))).run Tryz.prog (turned w8 (fun _ => false) d f os) = .ok (.agg (agR bk.a)) (turned w8 (fun _ => false) d f os) := fun d f os => by
                have h1 := run_loadAt_mid (P := Tryz.prog) (turned w8 (fun _ => false) d f os) ob (oo + k * 19 + 2) 90 (agR bk.a).toList _ (fun i u hu => by
                  have h2 := HRGT.out (2 + i) u (by rw [Nat.add_comm]; exact hu)
                  have h3 := cell_turned (T := fun _ => false) h2 rfl d f os
                  rw [← Nat.add_assoc] at h3
                  exact h3) Tryz.underlying90 rfl ar_info
                simpa using h1
              have f1 := fun (d : Nat) (f : Nat → Obj) (os : Array Obj) => load_box_turned (P := Tryz.prog) (ty := 90) HBA.out (T := fun _ => false) rfl Tryz.underlying90 rfl HIA.out d f os
              obtain ⟨R, hR⟩ : ∃ R : Array Value, R = agR (agM bk.a a) := ⟨_, rfl⟩
              have HR' := Lib.hid hR
              have HCALL : Hid (∀ W, Calls Tryz.prog 92 #[.agg (agR bk.a), .agg AC] W fun e w' => e = .returned (.tuple #[.agg R, .int .i64 0]) ∧ Ext W w') := Lib.hid (fun W => by
                obtain ⟨m1, m2, m3, m4, m5, m6⟩ := HM.out
                have hg1 := HBDT.out
                have hi64 : i * A ≤ 64 * A := Nat.mul_le_mul_right _ (by omega)
                have hg2 : bk.a.bnd (K + 64 * A) := hg1.mono (by omega)
                have ha2 : a.bnd (K + 64 * A) := m2.mono (by omega)
                rw [hR, HA.out]
                refine rMerge_any bk.a a W (bnd_fine hg2 m4) (bnd_fine ha2 m4) m3 ?_
                unfold Ag.bnd at hg2 ha2
                unfold sumOk
                omega)
              clear hR
              have HIR : Hid ((Tryz.prog.info? 90).map (·.size) = some R.size ∧ R.all (·.oneCell') = true ∧ R.size = 17) := Lib.hid ⟨by rw [HR'.out]; exact ar_info, by rw [HR'.out]; simp [agR, Value.oneCell'], by rw [HR'.out]; rfl⟩
              refine wp_region_plan 12 (fun w' => ∃ p : Turned, w' = turned w8 (fun _ => false) p.d p.f p.os) (.reads [0, 1, 2, 3, 4, 5] (.two 6 (.reads [7, 8, 9] (.one 10 (.one 11 (.one 12 .done)))) 10 (.one 6 (.reads [7, 8, 9] (.one 11 (.one 12 .done)))))) (by kernel_rfl) (by kernel_rfl) (fun _ _ dd _ _ hh => by cases dd <;> exact hh) ?_ ?_
              · exact turned_of_ext (Ext.drewN w8 1)
              refine wpPlan_reads ?_
              simp only [pickOps, List.getElem?_cons_succ, List.getElem?_cons_zero]
              repeat (first | (refine wpQuiet_load_box rfl _ _ rfl _ _ rfl (fun w hw => by obtain ⟨p, rfl⟩ := hw; exact f0 p.d p.f p.os) ?_) | (refine wpQuiet_load_box rfl _ _ rfl _ _ rfl (fun w hw => by obtain ⟨p, rfl⟩ := hw; exact f1 p.d p.f p.os) ?_) | (go_big_quiet_step (fail)))
              refine wpQuiet_nil ?_
              clear f0 f1
              refine wpPlan_two ?goA ?goB
              case' goA =>
                simp only [pickOps, List.getElem?_cons_succ, List.getElem?_cons_zero]
                go_wp2_with fail
                refine (HCALL.out _).mono ?_
                rintro e w4 ⟨rfl, hx4⟩
                have HX4 := Lib.hid ((Ext.drewN w8 1).trans hx4)
                clear hx4
                go_wp2_with fail
                refine thenX_mk (turned_of_ext HX4.out) (wpPlan_reads ?_)
                simp only [pickOps, List.getElem?_cons_succ, List.getElem?_cons_zero]
                repeat (go_big_quiet_step (fail))
                refine wpQuiet_nil ?_
                refine wpPlan_one ?_
                simp only [pickOps, List.getElem?_cons_succ, List.getElem?_cons_zero]
                go_wp2_with fail
                refine thenX_mk (turned_of_ext (HX4.out.alloc _)) (wpPlan_one ?_)
                simp only [pickOps, List.getElem?_cons_succ, List.getElem?_cons_zero]
                obtain ⟨bx, hbx⟩ : ∃ bx, bx = w4.heap.size := ⟨_, rfl⟩
                have HB4 := Lib.hid (heap_alloc_new w4 (.cells #[.int .i64 0, .int .i64 0, .int .i64 0, .int .i64 0, .int .i64 0, .int .i64 0, .int .i64 0, .int .i64 0, .int .i64 0, .int .i64 0, .int .i64 0, .int .i64 0, .int .i64 0, .int .i64 0, .int .i64 0, .int .i64 0, .int .i64 0] 90 (0, 0)))
                have HX5 : Hid (Ext w8 (w4.alloc (.cells #[.int .i64 0, .int .i64 0, .int .i64 0, .int .i64 0, .int .i64 0, .int .i64 0, .int .i64 0, .int .i64 0, .int .i64 0, .int .i64 0, .int .i64 0, .int .i64 0, .int .i64 0, .int .i64 0, .int .i64 0, .int .i64 0, .int .i64 0] 90 (0, 0)))) := Lib.hid (HX4.out.alloc _)
                have HBX : Hid (w8.heap.size ≤ bx) := Lib.hid (by rw [hbx]; exact HX4.out.size)
                rw [← hbx] at HB4
                rw [← hbx]
                generalize w4.alloc (.cells #[.int .i64 0, .int .i64 0, .int .i64 0, .int .i64 0, .int .i64 0, .int .i64 0, .int .i64 0, .int .i64 0, .int .i64 0, .int .i64 0, .int .i64 0, .int .i64 0, .int .i64 0, .int .i64 0, .int .i64 0, .int .i64 0, .int .i64 0] 90 (0, 0)) = w5 at *
                clear HX4 hbx
              case' goB =>
                simp only [pickOps, List.getElem?_cons_succ, List.getElem?_cons_zero]
                go_wp2_with fail
                obtain ⟨bx, hbx⟩ : ∃ bx, bx = w8.heap.size := ⟨_, rfl⟩
                refine thenX_mk (turned_of_ext ((Ext.drewN w8 1).alloc _)) (wpPlan_one ?_)
                simp only [pickOps, List.getElem?_cons_succ, List.getElem?_cons_zero]
                go_wp2_with fail
                refine (HCALL.out _).mono ?_
                rintro e w5 ⟨rfl, hx4⟩
                have HX5 : Hid (Ext w8 w5) := Lib.hid (((Ext.drewN w8 1).alloc _).trans hx4)
                have HBX : Hid (w8.heap.size ≤ bx) := Lib.hid (by rw [hbx]; exact Nat.le_refl _)
                have HB4 : Hid (w5.heap[bx]? = some (.cells #[.int .i64 0, .int .i64 0, .int .i64 0, .int .i64 0, .int .i64 0, .int .i64 0, .int .i64 0, .int .i64 0, .int .i64 0, .int .i64 0, .int .i64 0, .int .i64 0, .int .i64 0, .int .i64 0, .int .i64 0, .int .i64 0, .int .i64 0] 90 (0, 0))) := Lib.hid (by
                  rw [hbx]
                  have h0 := heap_alloc_new (w8.drewN 1) (.cells #[.int .i64 0, .int .i64 0, .int .i64 0, .int .i64 0, .int .i64 0, .int .i64 0, .int .i64 0, .int .i64 0, .int .i64 0, .int .i64 0, .int .i64 0, .int .i64 0, .int .i64 0, .int .i64 0, .int .i64 0, .int .i64 0, .int .i64 0] 90 (0, 0))
                  exact (hx4.block (block_lt h0)).trans h0)
                clear hx4
                go_wp2_with fail
                refine thenX_mk (turned_of_ext HX5.out) (wpPlan_reads ?_)
                simp only [pickOps, List.getElem?_cons_succ, List.getElem?_cons_zero]
                repeat (go_big_quiet_step (fail))
                refine wpQuiet_nil ?_
                refine wpPlan_one ?_
                simp only [pickOps, List.getElem?_cons_succ, List.getElem?_cons_zero]
                rw [← hbx]
                clear hbx
              all_goals
                refine wpList_store_box rfl _ _ _ rfl _ _ _ _ rfl rfl HB4.out (by rw [HIR.out.2.2]; rfl) HIR.out.1 HIR.out.2.1 ?_
                rintro w6 hb6 hc6
                have HB6 := Lib.hid hb6
                have HX6 : Hid (Ext w8 w6) := Lib.hid (((Chg.of_ext (S := fun _ => False) HX5.out).trans hc6 (fun i hi e => by have := HBX.out; omega)).ext (fun _ _ e => e))
                clear hb6 hc6 HX5 HB4 HCALL
                go_wp2_with fail
                refine thenX_mk (turned_of_ext HX6.out) (wpPlan_one ?_)
                simp only [pickOps, List.getElem?_cons_succ, List.getElem?_cons_zero]
                go_wp2_with fail
                refine thenX_last (wpPlan_done ?_)
                have HP6 := Lib.hid (HPUT.out.ext HX6.out)
                obtain ⟨old, new, o1, o2, o3, o4⟩ := row_part rbc_len (by decide) HP6.out.made.row (p := ⟨bk.lo, bk.hi, agM bk.a a⟩) HBKT.out 2 R.toList (by rw [Array.length_toList, HIR.out.2.2]; decide) (by rw [HR'.out]; rfl)
                have HO := Lib.hid (And.intro o1 (And.intro o2 (And.intro o3 o4)))
                clear o1 o2 o3 o4
                go_wp2_with (first | (refine wpList_load_box rfl _ _ rfl _ _ _ _ _ rfl HB6.out Tryz.underlying90 rfl HIR.out.1 ?_) | (refine wpList_store_part rfl _ _ _ rfl ob (oo + k * 19 + 2) old R new _ rfl rfl HO.out.1 (by have := HO.out.2.1; rw [← Nat.add_assoc] at this; simpa using this) (by have := HO.out.2.2.1; rw [← Nat.add_assoc] at this; simpa using this) HIR.out.1 HIR.out.2.1 ?_; rintro wz hb8 hc8; have HZ8 := Lib.hid (And.intro hb8 hc8); clear hb8 hc8))
                have HPF := Lib.hid (HP6.out.write (HO.out.2.2.2 _ HZ8.out.1) (by rw [List.length_set]; exact HPUT.out.len) HZ8.out.2)
                refine ⟨⟨i + 1, n, vc, _, by omega, by go_num, rfl, by omega, Lib.hid ?_⟩, by simp [RowKit.intOf]; omega⟩
                rw [putSL_take HX.out, ← HL.out, HPBT.out]
                exact HPF.out
            · have hd2 : (bk.lo == x1) = false := by simp; omega
              have HLX := Lib.hid hlx
              have hd3 : (bk.lo != x1) = true := by simp; omega
              go_wp2_with fail
              refine wp_region_split_lit [] [0, 1, 2, 3, 4, 5, 6, 7, 8, 9, 10, 11, 12, 13, 14, 15, 16] [] (by kernel_rfl) (by kernel_rfl) (fun _ _ dd _ _ hh => by cases dd <;> exact hh) ?_
              simp only [pickOps, List.getElem?_cons_succ, List.getElem?_cons_zero]
              refine wpQuiet_nil ?_
              repeat (go_big_quiet_step (fail))
              refine wpQuiet_nil ?_
              intro w8 hw'
              have HX8 : Hid (Ext wr w8) := Lib.hid (by obtain ⟨k, rfl⟩ := hw'; exact HX7.out.trans (Ext.drewN _ _))
              clear hw' q1 y0
              have HX8' := Lib.hid (HX8.out.alloc (.cells #[.int .i64 0, .int .i64 0, .int .i64 0, .int .i64 0, .int .i64 0, .int .i64 0, .int .i64 0, .int .i64 0, .int .i64 0, .int .i64 0, .int .i64 0, .int .i64 0, .int .i64 0, .int .i64 0, .int .i64 0, .int .i64 0, .int .i64 0, .int .i64 0, .int .i64 0] 92 (0, 0)))
              have HNE : Hid (∀ b, L[kAt x1 L]? = some b → b.lo ≠ x1) := Lib.hid (by
                intro b hb
                rw [← HKA.out] at hb
                rw [HBK.out] at hb
                cases hb
                exact HLX.out)
              go_wp2_with (first | (refine wpList_append_to elem_rbk rfl _ _ rfl rfl rfl (((HPE.out.made.row).ext HX8.out).alloc _) (enc_one (p := (⟨0, 0, Ag.zero⟩ : Bk)) (enc := rbc) (heap_alloc_new w8 _) (by simp [rbc, agR, Ag.zero]) rfl (rbc_one _)) (by unfold maxLen; omega) (by omega) ?_; rintro v' w9 ha; obtain ⟨va', vc', rfl⟩ := ha.row.shape; have HA9 := Lib.hid ha; clear ha))
              have HP9 : Hid (PuR w0 w1 (.slice a0 n0 c0) (L ++ [⟨0, 0, Ag.zero⟩]) va' (n + 1) vc' w9) := Lib.hid ((HPE.out.ext HX8'.out).append (by have h1 := HPE.out.chg.size; have h2 := HX8'.out.size; omega) HA9.out rfl)
              have hLn : L.length = n := HPE.out.len
              have HLn := Lib.hid hLn
              clear hLn
              have HX9 : Hid (w1.heap.size ≤ w9.heap.size) := Lib.hid HP9.out.chg.size
              go_loopw [18] (fun s18 wz => ∃ (j : Nat) (sx : Bk), k ≤ j ∧ j ≤ n ∧ s18 = .int .i64 j ∧ Hid (PuR w0 w1 (.slice a0 n0 c0) (L.take j ++ sx :: L.drop j) va' (n + 1) vc' wz)) (fun i _ => (RowKit.intOf i).toNat)
              case atStart =>
                refine ⟨n, ⟨0, 0, Ag.zero⟩, by omega, by omega, by go_num, Lib.hid ?_⟩
                have h := HP9.out
                rw [List.take_of_length_le (by have := HLn.out; omega), List.drop_of_length_le (by have := HLn.out; omega)]
                exact h
              case round =>
                obtain ⟨j, sx, hj1, hj2, rfl, HJ⟩ := hrel
                rcases Nat.lt_or_ge k j with hjk | hjk
                · obtain ⟨p, rfl⟩ : ∃ p, j = p + 1 := ⟨j - 1, by omega⟩
                  have hpn : p < n + 1 := by omega
                  obtain ⟨qb, qo, b, rfl, hb, hrg⟩ := enc_src rbc_len (by decide) (HJ.out.made.row.src (rbs_one _)) hpn
                  have hb2 : L[p]? = some b := by rw [get_below (by omega) (by have := HLn.out; omega)] at hb; exact hb
                  have hat := get_at (L := L) (k := p + 1) (st := sx) (by have := HLn.out; omega)
                  obtain ⟨old, new, o1, o2, o3, o4⟩ := row_part rbc_len (by decide) HJ.out.made.row (p := b) hat 0 (rbc b) (by simp [rbc_len]) (by simp [rbc_len])
                  rw [shift_step hb2] at o4
                  have HO := Lib.hid (And.intro o1 (And.intro o2 (And.intro o3 o4)))
                  have HRG := Lib.hid hrg
                  have HB2 := Lib.hid hb2
                  have hjp : ((p + 1 : Nat) : Int) - 1 = (p : Int) := by omega
                  obtain ⟨j, hj⟩ : ∃ j, j = p + 1 := ⟨_, rfl⟩
                  rw [← hj] at hjp hj1 hj2 hjk HO ⊢
                  have HJP := Lib.hid hj
                  clear o1 o2 o3 o4 hat hb hb2 hrg hj
                  go_wp2_with (first | (refine wpList_load_mid rfl _ _ rfl qb (qo + p * 19) rfl (rbc b) _ HRG.out Tryz.underlying92 rfl rb_info ?_) | (refine wpList_store_part rfl _ _ _ rfl qb (qo + j * 19) old (rbc b).toArray new _ rfl rfl HO.out.1 (by have := HO.out.2.1; simpa using this) (by have := HO.out.2.2.1; simpa using this) rb_info (rbc_all b) ?_; rintro wy hb4 hc4; have HY4 := Lib.hid (And.intro hb4 hc4); clear hb4 hc4))
                  have HJY := Lib.hid (HJ.out.write (HO.out.2.2.2 _ HY4.out.1) (by rw [len_at (by have := HLn.out; omega)]; rw [HLn.out]) HY4.out.2)
                  exact ⟨⟨p, b, by have := HJP.out; omega, by have := HJP.out; omega, by first | rfl | (rw [← hjp]) | (rw [hjp]), HJY⟩, by have := HJP.out; simp [RowKit.intOf]; omega⟩
                · obtain rfl : j = k := by omega
                  obtain ⟨sb', so', x', hsx, hx', y0, y1⟩ := sps_src (HSr.out _ HJ.out.chg) hlt
                  simp only [Option.some.injEq, Addr.mk.injEq, and_true] at hsx
                  obtain ⟨rfl, rfl⟩ := hsx
                  rw [HX.out] at hx'
                  cases hx'
                  simp only at y0 y1
                  have hjl : j ≤ L.length := by rw [HLn.out]; omega
                  obtain ⟨qb, qo, b, rfl, hb, hrg⟩ := enc_src rbc_len (by decide) (HJ.out.made.row.src (rbs_one _)) (show j < n + 1 by omega)
                  have HN19 : Hid (rbc ⟨x1, x2, Ag.zero⟩ = (#[.int .i64 x1, .int .i64 x2, .int .i64 0, .int .i64 0, .int .i64 0, .int .i64 0, .int .i64 0, .int .i64 0, .int .i64 0, .int .i64 0, .int .i64 0, .int .i64 0, .int .i64 0, .int .i64 0, .int .i64 0, .int .i64 0, .int .i64 0, .int .i64 0, .int .i64 0] : Array Value).toList) := Lib.hid (by simp [rbc, agR, Ag.zero])
                  obtain ⟨old, new, o1, o2, o3, o4⟩ := row_part rbc_len (by decide) HJ.out.made.row (p := ⟨x1, x2, Ag.zero⟩) (get_at hjl) 0 (rbc ⟨x1, x2, Ag.zero⟩) (by simp [rbc_len]) (by simp [rbc_len])
                  rw [set_at hjl] at o4
                  rw [HN19.out] at o2 o3
                  have HO := Lib.hid (And.intro o1 (And.intro o2 (And.intro o3 o4)))
                  clear o1 o2 o3 o4 hb hrg
                  go_wp2_with fail
                  refine wp_region_split_lit [] [0, 1, 2, 3, 4, 5, 6, 7, 8, 9, 10, 11, 12, 13] [14] (by kernel_rfl) (by kernel_rfl) (fun _ _ dd _ _ hh => by cases dd <;> exact hh) ?_
                  simp only [pickOps, List.getElem?_cons_succ, List.getElem?_cons_zero]
                  refine wpQuiet_nil ?_
                  repeat (go_big_quiet_step (fail))
                  refine wpQuiet_nil ?_
                  intro wd8 hw'
                  obtain ⟨y, rfl⟩ := hw'
                  clear y0 y1
                  go_wp2_with (refine wpList_store_part rfl _ _ _ rfl qb (qo + j * 19) old #[.int .i64 x1, .int .i64 x2, .int .i64 0, .int .i64 0, .int .i64 0, .int .i64 0, .int .i64 0, .int .i64 0, .int .i64 0, .int .i64 0, .int .i64 0, .int .i64 0, .int .i64 0, .int .i64 0, .int .i64 0, .int .i64 0, .int .i64 0, .int .i64 0, .int .i64 0] new _ rfl rfl HO.out.1 (by have := HO.out.2.1; simpa using this) (by have := HO.out.2.2.1; simpa using this) rb_info (by simp [Value.oneCell']) ?_; rintro wy hb4 hc4; have HY4 := Lib.hid (And.intro hb4 hc4); clear hb4 hc4)
                  have HPT := Lib.hid ((HJ.out.ext (Ext.drewN _ y)).write (HO.out.2.2.2 _ HY4.out.1) (by rw [len_at hjl, HLn.out]) HY4.out.2)
                  have HBT : Hid ((L.take j ++ (⟨x1, x2, Ag.zero⟩ : Bk) :: L.drop j)[j]? = some ⟨x1, x2, Ag.zero⟩) := Lib.hid (get_at hjl)
                  have HPB : Hid (putB a (x1, x2) L = (L.take j ++ (⟨x1, x2, Ag.zero⟩ : Bk) :: L.drop j).set j ⟨x1, x2, agM Ag.zero a⟩) := Lib.hid (by rw [set_at hjl, putB_new (x := (x1, x2)) HNE.out, ← HKA.out])
                  have HTL : Hid (∃ bk, (L.take j ++ (⟨x1, x2, Ag.zero⟩ : Bk) :: L.drop j)[j]? = some bk ∧ putB a (x1, x2) L = (L.take j ++ (⟨x1, x2, Ag.zero⟩ : Bk) :: L.drop j).set j ⟨bk.lo, bk.hi, agM bk.a a⟩ ∧ bk.a.bnd (K + i * A) ∧ PuR w0 w1 (.slice a0 n0 c0) (L.take j ++ (⟨x1, x2, Ag.zero⟩ : Bk) :: L.drop j) (some ⟨qb, qo, none⟩) (n + 1) vc' wy) := Lib.hid ⟨_, HBT.out, HPB.out, zero_bnd _, HPT.out⟩
                  clear HBT HPB HPT HO HY4
                  obtain ⟨bk, t1, t2, t3, t4⟩ := HTL.out
                  have HBKT := Lib.hid t1
                  have HPBT := Lib.hid t2
                  have HBDT := Lib.hid t3
                  have HPUT := Lib.hid t4
                  clear t1 t2 t3 t4 HTL
                  try simp only [Act.put]
                  obtain ⟨ob2, oo2, bk2, heq, hb2, hrg⟩ := enc_src rbc_len (by decide) (HPUT.out.made.row.src (rbs_one _)) (show j < (n + 1) by omega)
                  simp only [Option.some.injEq, Addr.mk.injEq, and_true] at heq
                  obtain ⟨rfl, rfl⟩ := heq
                  rw [HBKT.out] at hb2
                  cases hb2
                  have HRGT := Lib.hid hrg
                  clear hrg
                  have HBA : Hid (wy.heap[w.heap.size]? = some (.cells AC 90 (0, 0))) := Lib.hid ((HPUT.out.chg.block _ (block_lt HB1.out) (fun e => by have := HVL.out _ e; omega)).trans HB1.out)
                  have HIA : Hid ((Tryz.prog.info? 90).map (·.size) = some AC.size) := Lib.hid (by rw [HA.out]; exact ar_info)
                  have f0 : ∀ (d : Nat) (f : Nat → Obj) (os : Array Obj), (Instr.loadAt 90 (.pointer (some ⟨qb, qo + j * 19 + 2, none⟩))).run Tryz.prog (turned wy (fun _ => false) d f os) = .ok (.agg (agR bk.a)) (turned wy (fun _ => false) d f os) := fun d f os => by
                    have h1 := run_loadAt_mid (P := Tryz.prog) (turned wy (fun _ => false) d f os) qb (qo + j * 19 + 2) 90 (agR bk.a).toList _ (fun i u hu => by
                      have h2 := HRGT.out (2 + i) u (by rw [Nat.add_comm]; exact hu)
                      have h3 := cell_turned (T := fun _ => false) h2 rfl d f os
                      rw [← Nat.add_assoc] at h3
                      exact h3) Tryz.underlying90 rfl ar_info
                    simpa using h1
                  have f1 := fun (d : Nat) (f : Nat → Obj) (os : Array Obj) => load_box_turned (P := Tryz.prog) (ty := 90) HBA.out (T := fun _ => false) rfl Tryz.underlying90 rfl HIA.out d f os
                  obtain ⟨R, hR⟩ : ∃ R : Array Value, R = agR (agM bk.a a) := ⟨_, rfl⟩
                  have HR' := Lib.hid hR
                  have HCALL : Hid (∀ W, Calls Tryz.prog 92 #[.agg (agR bk.a), .agg AC] W fun e w' => e = .returned (.tuple #[.agg R, .int .i64 0]) ∧ Ext W w') := Lib.hid (fun W => by
                    obtain ⟨m1, m2, m3, m4, m5, m6⟩ := HM.out
                    have hg1 := HBDT.out
                    have hi64 : i * A ≤ 64 * A := Nat.mul_le_mul_right _ (by omega)
                    have hg2 : bk.a.bnd (K + 64 * A) := hg1.mono (by omega)
                    have ha2 : a.bnd (K + 64 * A) := m2.mono (by omega)
                    rw [hR, HA.out]
                    refine rMerge_any bk.a a W (bnd_fine hg2 m4) (bnd_fine ha2 m4) m3 ?_
                    unfold Ag.bnd at hg2 ha2
                    unfold sumOk
                    omega)
                  clear hR
                  have HIR : Hid ((Tryz.prog.info? 90).map (·.size) = some R.size ∧ R.all (·.oneCell') = true ∧ R.size = 17) := Lib.hid ⟨by rw [HR'.out]; exact ar_info, by rw [HR'.out]; simp [agR, Value.oneCell'], by rw [HR'.out]; rfl⟩
                  refine wp_region_plan 12 (fun w' => ∃ p : Turned, w' = turned wy (fun _ => false) p.d p.f p.os) (.reads [0, 1, 2, 3, 4, 5] (.two 6 (.reads [7, 8, 9] (.one 10 (.one 11 (.one 12 .done)))) 10 (.one 6 (.reads [7, 8, 9] (.one 11 (.one 12 .done)))))) (by kernel_rfl) (by kernel_rfl) (fun _ _ dd _ _ hh => by cases dd <;> exact hh) ?_ ?_
                  · exact turned_of_ext (Ext.drewN wy 1)
                  refine wpPlan_reads ?_
                  simp only [pickOps, List.getElem?_cons_succ, List.getElem?_cons_zero]
                  repeat (first | (refine wpQuiet_load_box rfl _ _ rfl _ _ rfl (fun w hw => by obtain ⟨p, rfl⟩ := hw; exact f0 p.d p.f p.os) ?_) | (refine wpQuiet_load_box rfl _ _ rfl _ _ rfl (fun w hw => by obtain ⟨p, rfl⟩ := hw; exact f1 p.d p.f p.os) ?_) | (go_big_quiet_step (fail)))
                  refine wpQuiet_nil ?_
                  clear f0 f1
                  refine wpPlan_two ?goA2 ?goB2
                  case' goA2 =>
                    simp only [pickOps, List.getElem?_cons_succ, List.getElem?_cons_zero]
                    go_wp2_with fail
                    refine (HCALL.out _).mono ?_
                    rintro e w4 ⟨rfl, hx4⟩
                    have HX4 := Lib.hid ((Ext.drewN wy 1).trans hx4)
                    clear hx4
                    go_wp2_with fail
                    refine thenX_mk (turned_of_ext HX4.out) (wpPlan_reads ?_)
                    simp only [pickOps, List.getElem?_cons_succ, List.getElem?_cons_zero]
                    repeat (go_big_quiet_step (fail))
                    refine wpQuiet_nil ?_
                    refine wpPlan_one ?_
                    simp only [pickOps, List.getElem?_cons_succ, List.getElem?_cons_zero]
                    go_wp2_with fail
                    refine thenX_mk (turned_of_ext (HX4.out.alloc _)) (wpPlan_one ?_)
                    simp only [pickOps, List.getElem?_cons_succ, List.getElem?_cons_zero]
                    obtain ⟨bx, hbx⟩ : ∃ bx, bx = w4.heap.size := ⟨_, rfl⟩
                    have HB4 := Lib.hid (heap_alloc_new w4 (.cells #[.int .i64 0, .int .i64 0, .int .i64 0, .int .i64 0, .int .i64 0, .int .i64 0, .int .i64 0, .int .i64 0, .int .i64 0, .int .i64 0, .int .i64 0, .int .i64 0, .int .i64 0, .int .i64 0, .int .i64 0, .int .i64 0, .int .i64 0] 90 (0, 0)))
                    have HX5 : Hid (Ext wy (w4.alloc (.cells #[.int .i64 0, .int .i64 0, .int .i64 0, .int .i64 0, .int .i64 0, .int .i64 0, .int .i64 0, .int .i64 0, .int .i64 0, .int .i64 0, .int .i64 0, .int .i64 0, .int .i64 0, .int .i64 0, .int .i64 0, .int .i64 0, .int .i64 0] 90 (0, 0)))) := Lib.hid (HX4.out.alloc _)
                    have HBX : Hid (wy.heap.size ≤ bx) := Lib.hid (by rw [hbx]; exact HX4.out.size)
                    rw [← hbx] at HB4
                    rw [← hbx]
                    generalize w4.alloc (.cells #[.int .i64 0, .int .i64 0, .int .i64 0, .int .i64 0, .int .i64 0, .int .i64 0, .int .i64 0, .int .i64 0, .int .i64 0, .int .i64 0, .int .i64 0, .int .i64 0, .int .i64 0, .int .i64 0, .int .i64 0, .int .i64 0, .int .i64 0] 90 (0, 0)) = w5 at *
                    clear HX4 hbx
                  case' goB2 =>
                    simp only [pickOps, List.getElem?_cons_succ, List.getElem?_cons_zero]
                    go_wp2_with fail
                    obtain ⟨bx, hbx⟩ : ∃ bx, bx = wy.heap.size := ⟨_, rfl⟩
                    refine thenX_mk (turned_of_ext ((Ext.drewN wy 1).alloc _)) (wpPlan_one ?_)
                    simp only [pickOps, List.getElem?_cons_succ, List.getElem?_cons_zero]
                    go_wp2_with fail
                    refine (HCALL.out _).mono ?_
                    rintro e w5 ⟨rfl, hx4⟩
                    have HX5 : Hid (Ext wy w5) := Lib.hid (((Ext.drewN wy 1).alloc _).trans hx4)
                    have HBX : Hid (wy.heap.size ≤ bx) := Lib.hid (by rw [hbx]; exact Nat.le_refl _)
                    have HB4 : Hid (w5.heap[bx]? = some (.cells #[.int .i64 0, .int .i64 0, .int .i64 0, .int .i64 0, .int .i64 0, .int .i64 0, .int .i64 0, .int .i64 0, .int .i64 0, .int .i64 0, .int .i64 0, .int .i64 0, .int .i64 0, .int .i64 0, .int .i64 0, .int .i64 0, .int .i64 0] 90 (0, 0))) := Lib.hid (by
                      rw [hbx]
                      have h0 := heap_alloc_new (wy.drewN 1) (.cells #[.int .i64 0, .int .i64 0, .int .i64 0, .int .i64 0, .int .i64 0, .int .i64 0, .int .i64 0, .int .i64 0, .int .i64 0, .int .i64 0, .int .i64 0, .int .i64 0, .int .i64 0, .int .i64 0, .int .i64 0, .int .i64 0, .int .i64 0] 90 (0, 0))
                      exact (hx4.block (block_lt h0)).trans h0)
                    clear hx4
                    go_wp2_with fail
                    refine thenX_mk (turned_of_ext HX5.out) (wpPlan_reads ?_)
                    simp only [pickOps, List.getElem?_cons_succ, List.getElem?_cons_zero]
                    repeat (go_big_quiet_step (fail))
                    refine wpQuiet_nil ?_
                    refine wpPlan_one ?_
                    simp only [pickOps, List.getElem?_cons_succ, List.getElem?_cons_zero]
                    rw [← hbx]
                    clear hbx
                  all_goals
                    refine wpList_store_box rfl _ _ _ rfl _ _ _ _ rfl rfl HB4.out (by rw [HIR.out.2.2]; rfl) HIR.out.1 HIR.out.2.1 ?_
                    rintro w6 hb6 hc6
                    have HB6 := Lib.hid hb6
                    have HX6 : Hid (Ext wy w6) := Lib.hid (((Chg.of_ext (S := fun _ => False) HX5.out).trans hc6 (fun i hi e => by have := HBX.out; omega)).ext (fun _ _ e => e))
                    clear hb6 hc6 HX5 HB4 HCALL
                    go_wp2_with fail
                    refine thenX_mk (turned_of_ext HX6.out) (wpPlan_one ?_)
                    simp only [pickOps, List.getElem?_cons_succ, List.getElem?_cons_zero]
                    go_wp2_with fail
                    refine thenX_last (wpPlan_done ?_)
                    have HP6 := Lib.hid (HPUT.out.ext HX6.out)
                    obtain ⟨old, new, o1, o2, o3, o4⟩ := row_part rbc_len (by decide) HP6.out.made.row (p := ⟨bk.lo, bk.hi, agM bk.a a⟩) HBKT.out 2 R.toList (by rw [Array.length_toList, HIR.out.2.2]; decide) (by rw [HR'.out]; rfl)
                    have HO := Lib.hid (And.intro o1 (And.intro o2 (And.intro o3 o4)))
                    clear o1 o2 o3 o4
                    go_wp2_with (first | (refine wpList_load_box rfl _ _ rfl _ _ _ _ _ rfl HB6.out Tryz.underlying90 rfl HIR.out.1 ?_) | (refine wpList_store_part rfl _ _ _ rfl qb (qo + j * 19 + 2) old R new _ rfl rfl HO.out.1 (by have := HO.out.2.1; rw [← Nat.add_assoc] at this; simpa using this) (by have := HO.out.2.2.1; rw [← Nat.add_assoc] at this; simpa using this) HIR.out.1 HIR.out.2.1 ?_; rintro wz hb8 hc8; have HZ8 := Lib.hid (And.intro hb8 hc8); clear hb8 hc8))
                    have HPF := Lib.hid (HP6.out.write (HO.out.2.2.2 _ HZ8.out.1) (by rw [List.length_set]; exact HPUT.out.len) HZ8.out.2)
                    refine ⟨⟨i + 1, (n + 1), vc', _, by omega, by go_num, rfl, by omega, Lib.hid ?_⟩, by simp [RowKit.intOf]; omega⟩
                    rw [putSL_take HX.out, ← HL.out, HPBT.out]
                    exact HPF.out
          · obtain rfl : k = n := by omega
            have hkn' : ¬ k < k := by omega
            go_wp2_with fail
            refine wp_region_split_lit [] [0, 1, 2, 3, 4, 5, 6, 7, 8, 9, 10, 11, 12, 13, 14, 15, 16] [] (by kernel_rfl) (by kernel_rfl) (fun _ _ dd _ _ hh => by cases dd <;> exact hh) ?_
            simp only [pickOps, List.getElem?_cons_succ, List.getElem?_cons_zero]
            refine wpQuiet_nil ?_
            repeat (go_big_quiet_step (fail))
            refine wpQuiet_nil ?_
            intro w7 hw'
            have HX7 : Hid (Ext wr w7) := Lib.hid (by obtain ⟨k, rfl⟩ := hw'; exact Ext.drewN _ _)
            clear hw' z0 z1
            go_wp2_with fail
            refine wp_region_split_lit [] [0, 1, 2, 3, 4, 5, 6, 7, 8, 9, 10, 11, 12, 13, 14, 15, 16] [] (by kernel_rfl) (by kernel_rfl) (fun _ _ dd _ _ hh => by cases dd <;> exact hh) ?_
            simp only [pickOps, List.getElem?_cons_succ, List.getElem?_cons_zero]
            refine wpQuiet_nil ?_
            repeat (go_big_quiet_step (fail))
            refine wpQuiet_nil ?_
            intro w8 hw'
            have HX8 : Hid (Ext wr w8) := Lib.hid (by obtain ⟨k, rfl⟩ := hw'; exact HX7.out.trans (Ext.drewN _ _))
            clear hw'
            have HX8' := Lib.hid (HX8.out.alloc (.cells #[.int .i64 0, .int .i64 0, .int .i64 0, .int .i64 0, .int .i64 0, .int .i64 0, .int .i64 0, .int .i64 0, .int .i64 0, .int .i64 0, .int .i64 0, .int .i64 0, .int .i64 0, .int .i64 0, .int .i64 0, .int .i64 0, .int .i64 0, .int .i64 0, .int .i64 0] 92 (0, 0)))
            have HNE : Hid (∀ b, L[kAt x1 L]? = some b → b.lo ≠ x1) := Lib.hid (by
                intro b hb
                rw [← HKA.out] at hb
                have := (List.getElem?_eq_some_iff.1 hb).1
                have := HR.out.len
                omega)
            go_wp2_with (first | (refine wpList_append_to elem_rbk rfl _ _ rfl rfl rfl (((HPE.out.made.row).ext HX8.out).alloc _) (enc_one (p := (⟨0, 0, Ag.zero⟩ : Bk)) (enc := rbc) (heap_alloc_new w8 _) (by simp [rbc, agR, Ag.zero]) rfl (rbc_one _)) (by unfold maxLen; omega) (by omega) ?_; rintro v' w9 ha; obtain ⟨va', vc', rfl⟩ := ha.row.shape; have HA9 := Lib.hid ha; clear ha))
            have HP9 : Hid (PuR w0 w1 (.slice a0 n0 c0) (L ++ [⟨0, 0, Ag.zero⟩]) va' (k + 1) vc' w9) := Lib.hid ((HPE.out.ext HX8'.out).append (by have h1 := HPE.out.chg.size; have h2 := HX8'.out.size; omega) HA9.out rfl)
            have hLn : L.length = k := HPE.out.len
            have HLn := Lib.hid hLn
            clear hLn
            have HX9 : Hid (w1.heap.size ≤ w9.heap.size) := Lib.hid HP9.out.chg.size
            go_loopw [18] (fun s18 wz => ∃ (j : Nat) (sx : Bk), k ≤ j ∧ j ≤ k ∧ s18 = .int .i64 j ∧ Hid (PuR w0 w1 (.slice a0 n0 c0) (L.take j ++ sx :: L.drop j) va' (k + 1) vc' wz)) (fun i _ => (RowKit.intOf i).toNat)
            case atStart =>
              refine ⟨k, ⟨0, 0, Ag.zero⟩, by omega, by omega, by go_num, Lib.hid ?_⟩
              have h := HP9.out
              rw [List.take_of_length_le (by have := HLn.out; omega), List.drop_of_length_le (by have := HLn.out; omega)]
              exact h
            case round =>
              obtain ⟨j, sx, hj1, hj2, rfl, HJ⟩ := hrel
              rcases Nat.lt_or_ge k j with hjk | hjk
              · exfalso; omega
              · obtain rfl : j = k := by omega
                obtain ⟨sb', so', x', hsx, hx', y0, y1⟩ := sps_src (HSr.out _ HJ.out.chg) hlt
                simp only [Option.some.injEq, Addr.mk.injEq, and_true] at hsx
                obtain ⟨rfl, rfl⟩ := hsx
                rw [HX.out] at hx'
                cases hx'
                simp only at y0 y1
                have hjl : j ≤ L.length := by rw [HLn.out]; omega
                obtain ⟨qb, qo, b, rfl, hb, hrg⟩ := enc_src rbc_len (by decide) (HJ.out.made.row.src (rbs_one _)) (show j < j + 1 by omega)
                have HN19 : Hid (rbc ⟨x1, x2, Ag.zero⟩ = (#[.int .i64 x1, .int .i64 x2, .int .i64 0, .int .i64 0, .int .i64 0, .int .i64 0, .int .i64 0, .int .i64 0, .int .i64 0, .int .i64 0, .int .i64 0, .int .i64 0, .int .i64 0, .int .i64 0, .int .i64 0, .int .i64 0, .int .i64 0, .int .i64 0, .int .i64 0] : Array Value).toList) := Lib.hid (by simp [rbc, agR, Ag.zero])
                obtain ⟨old, new, o1, o2, o3, o4⟩ := row_part rbc_len (by decide) HJ.out.made.row (p := ⟨x1, x2, Ag.zero⟩) (get_at hjl) 0 (rbc ⟨x1, x2, Ag.zero⟩) (by simp [rbc_len]) (by simp [rbc_len])
                rw [set_at hjl] at o4
                rw [HN19.out] at o2 o3
                have HO := Lib.hid (And.intro o1 (And.intro o2 (And.intro o3 o4)))
                clear o1 o2 o3 o4 hb hrg
                go_wp2_with fail
                refine wp_region_split_lit [] [0, 1, 2, 3, 4, 5, 6, 7, 8, 9, 10, 11, 12, 13] [14] (by kernel_rfl) (by kernel_rfl) (fun _ _ dd _ _ hh => by cases dd <;> exact hh) ?_
                simp only [pickOps, List.getElem?_cons_succ, List.getElem?_cons_zero]
                refine wpQuiet_nil ?_
                repeat (go_big_quiet_step (fail))
                refine wpQuiet_nil ?_
                intro wd8 hw'
                obtain ⟨y, rfl⟩ := hw'
                clear y0 y1
                go_wp2_with (refine wpList_store_part rfl _ _ _ rfl qb (qo + j * 19) old #[.int .i64 x1, .int .i64 x2, .int .i64 0, .int .i64 0, .int .i64 0, .int .i64 0, .int .i64 0, .int .i64 0, .int .i64 0, .int .i64 0, .int .i64 0, .int .i64 0, .int .i64 0, .int .i64 0, .int .i64 0, .int .i64 0, .int .i64 0, .int .i64 0, .int .i64 0] new _ rfl rfl HO.out.1 (by have := HO.out.2.1; simpa using this) (by have := HO.out.2.2.1; simpa using this) rb_info (by simp [Value.oneCell']) ?_; rintro wy hb4 hc4; have HY4 := Lib.hid (And.intro hb4 hc4); clear hb4 hc4)
                have HPT := Lib.hid ((HJ.out.ext (Ext.drewN _ y)).write (HO.out.2.2.2 _ HY4.out.1) (by rw [len_at hjl, HLn.out]) HY4.out.2)
                have HBT : Hid ((L.take j ++ (⟨x1, x2, Ag.zero⟩ : Bk) :: L.drop j)[j]? = some ⟨x1, x2, Ag.zero⟩) := Lib.hid (get_at hjl)
                have HPB : Hid (putB a (x1, x2) L = (L.take j ++ (⟨x1, x2, Ag.zero⟩ : Bk) :: L.drop j).set j ⟨x1, x2, agM Ag.zero a⟩) := Lib.hid (by rw [set_at hjl, putB_new (x := (x1, x2)) HNE.out, ← HKA.out])
                have HTL : Hid (∃ bk, (L.take j ++ (⟨x1, x2, Ag.zero⟩ : Bk) :: L.drop j)[j]? = some bk ∧ putB a (x1, x2) L = (L.take j ++ (⟨x1, x2, Ag.zero⟩ : Bk) :: L.drop j).set j ⟨bk.lo, bk.hi, agM bk.a a⟩ ∧ bk.a.bnd (K + i * A) ∧ PuR w0 w1 (.slice a0 n0 c0) (L.take j ++ (⟨x1, x2, Ag.zero⟩ : Bk) :: L.drop j) (some ⟨qb, qo, none⟩) (j + 1) vc' wy) := Lib.hid ⟨_, HBT.out, HPB.out, zero_bnd _, HPT.out⟩
                clear HBT HPB HPT HO HY4
                obtain ⟨bk, t1, t2, t3, t4⟩ := HTL.out
                have HBKT := Lib.hid t1
                have HPBT := Lib.hid t2
                have HBDT := Lib.hid t3
                have HPUT := Lib.hid t4
                clear t1 t2 t3 t4 HTL
                try simp only [Act.put]
                obtain ⟨ob2, oo2, bk2, heq, hb2, hrg⟩ := enc_src rbc_len (by decide) (HPUT.out.made.row.src (rbs_one _)) (show j < (j + 1) by omega)
                simp only [Option.some.injEq, Addr.mk.injEq, and_true] at heq
                obtain ⟨rfl, rfl⟩ := heq
                rw [HBKT.out] at hb2
                cases hb2
                have HRGT := Lib.hid hrg
                clear hrg
                have HBA : Hid (wy.heap[w.heap.size]? = some (.cells AC 90 (0, 0))) := Lib.hid ((HPUT.out.chg.block _ (block_lt HB1.out) (fun e => by have := HVL.out _ e; omega)).trans HB1.out)
                have HIA : Hid ((Tryz.prog.info? 90).map (·.size) = some AC.size) := Lib.hid (by rw [HA.out]; exact ar_info)
                have f0 : ∀ (d : Nat) (f : Nat → Obj) (os : Array Obj), (Instr.loadAt 90 (.pointer (some ⟨qb, qo + j * 19 + 2, none⟩))).run Tryz.prog (turned wy (fun _ => false) d f os) = .ok (.agg (agR bk.a)) (turned wy (fun _ => false) d f os) := fun d f os => by
                  have h1 := run_loadAt_mid (P := Tryz.prog) (turned wy (fun _ => false) d f os) qb (qo + j * 19 + 2) 90 (agR bk.a).toList _ (fun i u hu => by
                    have h2 := HRGT.out (2 + i) u (by rw [Nat.add_comm]; exact hu)
                    have h3 := cell_turned (T := fun _ => false) h2 rfl d f os
                    rw [← Nat.add_assoc] at h3
                    exact h3) Tryz.underlying90 rfl ar_info
                  simpa using h1
                have f1 := fun (d : Nat) (f : Nat → Obj) (os : Array Obj) => load_box_turned (P := Tryz.prog) (ty := 90) HBA.out (T := fun _ => false) rfl Tryz.underlying90 rfl HIA.out d f os
                obtain ⟨R, hR⟩ : ∃ R : Array Value, R = agR (agM bk.a a) := ⟨_, rfl⟩
                have HR' := Lib.hid hR
                have HCALL : Hid (∀ W, Calls Tryz.prog 92 #[.agg (agR bk.a), .agg AC] W fun e w' => e = .returned (.tuple #[.agg R, .int .i64 0]) ∧ Ext W w') := Lib.hid (fun W => by
                  obtain ⟨m1, m2, m3, m4, m5, m6⟩ := HM.out
                  have hg1 := HBDT.out
                  have hi64 : i * A ≤ 64 * A := Nat.mul_le_mul_right _ (by omega)
                  have hg2 : bk.a.bnd (K + 64 * A) := hg1.mono (by omega)
                  have ha2 : a.bnd (K + 64 * A) := m2.mono (by omega)
                  rw [hR, HA.out]
                  refine rMerge_any bk.a a W (bnd_fine hg2 m4) (bnd_fine ha2 m4) m3 ?_
                  unfold Ag.bnd at hg2 ha2
                  unfold sumOk
                  omega)
                clear hR
                have HIR : Hid ((Tryz.prog.info? 90).map (·.size) = some R.size ∧ R.all (·.oneCell') = true ∧ R.size = 17) := Lib.hid ⟨by rw [HR'.out]; exact ar_info, by rw [HR'.out]; simp [agR, Value.oneCell'], by rw [HR'.out]; rfl⟩
                refine wp_region_plan 12 (fun w' => ∃ p : Turned, w' = turned wy (fun _ => false) p.d p.f p.os) (.reads [0, 1, 2, 3, 4, 5] (.two 6 (.reads [7, 8, 9] (.one 10 (.one 11 (.one 12 .done)))) 10 (.one 6 (.reads [7, 8, 9] (.one 11 (.one 12 .done)))))) (by kernel_rfl) (by kernel_rfl) (fun _ _ dd _ _ hh => by cases dd <;> exact hh) ?_ ?_
                · exact turned_of_ext (Ext.drewN wy 1)
                refine wpPlan_reads ?_
                simp only [pickOps, List.getElem?_cons_succ, List.getElem?_cons_zero]
                repeat (first | (refine wpQuiet_load_box rfl _ _ rfl _ _ rfl (fun w hw => by obtain ⟨p, rfl⟩ := hw; exact f0 p.d p.f p.os) ?_) | (refine wpQuiet_load_box rfl _ _ rfl _ _ rfl (fun w hw => by obtain ⟨p, rfl⟩ := hw; exact f1 p.d p.f p.os) ?_) | (go_big_quiet_step (fail)))
                refine wpQuiet_nil ?_
                clear f0 f1
                refine wpPlan_two ?goA3 ?goB3
                case' goA3 =>
                  simp only [pickOps, List.getElem?_cons_succ, List.getElem?_cons_zero]
                  go_wp2_with fail
                  refine (HCALL.out _).mono ?_
                  rintro e w4 ⟨rfl, hx4⟩
                  have HX4 := Lib.hid ((Ext.drewN wy 1).trans hx4)
                  clear hx4
                  go_wp2_with fail
                  refine thenX_mk (turned_of_ext HX4.out) (wpPlan_reads ?_)
                  simp only [pickOps, List.getElem?_cons_succ, List.getElem?_cons_zero]
                  repeat (go_big_quiet_step (fail))
                  refine wpQuiet_nil ?_
                  refine wpPlan_one ?_
                  simp only [pickOps, List.getElem?_cons_succ, List.getElem?_cons_zero]
                  go_wp2_with fail
                  refine thenX_mk (turned_of_ext (HX4.out.alloc _)) (wpPlan_one ?_)
                  simp only [pickOps, List.getElem?_cons_succ, List.getElem?_cons_zero]
                  obtain ⟨bx, hbx⟩ : ∃ bx, bx = w4.heap.size := ⟨_, rfl⟩
                  have HB4 := Lib.hid (heap_alloc_new w4 (.cells #[.int .i64 0, .int .i64 0, .int .i64 0, .int .i64 0, .int .i64 0, .int .i64 0, .int .i64 0, .int .i64 0, .int .i64 0, .int .i64 0, .int .i64 0, .int .i64 0, .int .i64 0, .int .i64 0, .int .i64 0, .int .i64 0, .int .i64 0] 90 (0, 0)))
                  have HX5 : Hid (Ext wy (w4.alloc (.cells #[.int .i64 0, .int .i64 0, .int .i64 0, .int .i64 0, .int .i64 0, .int .i64 0, .int .i64 0, .int .i64 0, .int .i64 0, .int .i64 0, .int .i64 0, .int .i64 0, .int .i64 0, .int .i64 0, .int .i64 0, .int .i64 0, .int .i64 0] 90 (0, 0)))) := Lib.hid (HX4.out.alloc _)
                  have HBX : Hid (wy.heap.size ≤ bx) := Lib.hid (by rw [hbx]; exact HX4.out.size)
                  rw [← hbx] at HB4
                  rw [← hbx]
                  generalize w4.alloc (.cells #[.int .i64 0, .int .i64 0, .int .i64 0, .int .i64 0, .int .i64 0, .int .i64 0, .int .i64 0, .int .i64 0, .int .i64 0, .int .i64 0, .int .i64 0, .int .i64 0, .int .i64 0, .int .i64 0, .int .i64 0, .int .i64 0, .int .i64 0] 90 (0, 0)) = w5 at *
                  clear HX4 hbx
                case' goB3 =>
                  simp only [pickOps, List.getElem?_cons_succ, List.getElem?_cons_zero]
                  go_wp2_with fail
                  obtain ⟨bx, hbx⟩ : ∃ bx, bx = wy.heap.size := ⟨_, rfl⟩
                  refine thenX_mk (turned_of_ext ((Ext.drewN wy 1).alloc _)) (wpPlan_one ?_)
                  simp only [pickOps, List.getElem?_cons_succ, List.getElem?_cons_zero]
                  go_wp2_with fail
                  refine (HCALL.out _).mono ?_
                  rintro e w5 ⟨rfl, hx4⟩
                  have HX5 : Hid (Ext wy w5) := Lib.hid (((Ext.drewN wy 1).alloc _).trans hx4)
                  have HBX : Hid (wy.heap.size ≤ bx) := Lib.hid (by rw [hbx]; exact Nat.le_refl _)
                  have HB4 : Hid (w5.heap[bx]? = some (.cells #[.int .i64 0, .int .i64 0, .int .i64 0, .int .i64 0, .int .i64 0, .int .i64 0, .int .i64 0, .int .i64 0, .int .i64 0, .int .i64 0, .int .i64 0, .int .i64 0, .int .i64 0, .int .i64 0, .int .i64 0, .int .i64 0, .int .i64 0] 90 (0, 0))) := Lib.hid (by
                    rw [hbx]
                    have h0 := heap_alloc_new (wy.drewN 1) (.cells #[.int .i64 0, .int .i64 0, .int .i64 0, .int .i64 0, .int .i64 0, .int .i64 0, .int .i64 0, .int .i64 0, .int .i64 0, .int .i64 0, .int .i64 0, .int .i64 0, .int .i64 0, .int .i64 0, .int .i64 0, .int .i64 0, .int .i64 0] 90 (0, 0))
                    exact (hx4.block (block_lt h0)).trans h0)
                  clear hx4
                  go_wp2_with fail
                  refine thenX_mk (turned_of_ext HX5.out) (wpPlan_reads ?_)
                  simp only [pickOps, List.getElem?_cons_succ, List.getElem?_cons_zero]
                  repeat (go_big_quiet_step (fail))
                  refine wpQuiet_nil ?_
                  refine wpPlan_one ?_
                  simp only [pickOps, List.getElem?_cons_succ, List.getElem?_cons_zero]
                  rw [← hbx]
                  clear hbx
                all_goals
                  refine wpList_store_box rfl _ _ _ rfl _ _ _ _ rfl rfl HB4.out (by rw [HIR.out.2.2]; rfl) HIR.out.1 HIR.out.2.1 ?_
                  rintro w6 hb6 hc6
                  have HB6 := Lib.hid hb6
                  have HX6 : Hid (Ext wy w6) := Lib.hid (((Chg.of_ext (S := fun _ => False) HX5.out).trans hc6 (fun i hi e => by have := HBX.out; omega)).ext (fun _ _ e => e))
                  clear hb6 hc6 HX5 HB4 HCALL
                  go_wp2_with fail
                  refine thenX_mk (turned_of_ext HX6.out) (wpPlan_one ?_)
                  simp only [pickOps, List.getElem?_cons_succ, List.getElem?_cons_zero]
                  go_wp2_with fail
                  refine thenX_last (wpPlan_done ?_)
                  have HP6 := Lib.hid (HPUT.out.ext HX6.out)
                  obtain ⟨old, new, o1, o2, o3, o4⟩ := row_part rbc_len (by decide) HP6.out.made.row (p := ⟨bk.lo, bk.hi, agM bk.a a⟩) HBKT.out 2 R.toList (by rw [Array.length_toList, HIR.out.2.2]; decide) (by rw [HR'.out]; rfl)
                  have HO := Lib.hid (And.intro o1 (And.intro o2 (And.intro o3 o4)))
                  clear o1 o2 o3 o4
                  go_wp2_with (first | (refine wpList_load_box rfl _ _ rfl _ _ _ _ _ rfl HB6.out Tryz.underlying90 rfl HIR.out.1 ?_) | (refine wpList_store_part rfl _ _ _ rfl qb (qo + j * 19 + 2) old R new _ rfl rfl HO.out.1 (by have := HO.out.2.1; rw [← Nat.add_assoc] at this; simpa using this) (by have := HO.out.2.2.1; rw [← Nat.add_assoc] at this; simpa using this) HIR.out.1 HIR.out.2.1 ?_; rintro wz hb8 hc8; have HZ8 := Lib.hid (And.intro hb8 hc8); clear hb8 hc8))
                  have HPF := Lib.hid (HP6.out.write (HO.out.2.2.2 _ HZ8.out.1) (by rw [List.length_set]; exact HPUT.out.len) HZ8.out.2)
                  refine ⟨⟨i + 1, (j + 1), vc', _, by omega, by go_num, rfl, by omega, Lib.hid ?_⟩, by simp [RowKit.intOf]; omega⟩
                  rw [putSL_take HX.out, ← HL.out, HPBT.out]
                  exact HPF.out
    · obtain rfl : i = N := by omega
      have hlt0 : decide ((i : Int) < (i : Int)) = false := by simp
      go_wp2_with fail
      go_ret2
      have h := HR.out
      rw [List.take_of_length_le (by have := HLN0.out; omega)] at h
      exact ⟨_, n, rfl, h.made, h.len⟩
end Go.Proofs.YtokllgdbmnmieaaGreat

/-! Plain: points put into sorted windows, one behind the other, are the windows of the map, sorted. -/

namespace Go.Proofs.YtokllgdbmnmieaaGreat
open Go.RowKit Go.Lib Go.Sort

/-- The document's windows. -/
def docL (wd st off : Int) (l : List Pt) : List Bk := l.foldl (fun L p => putSL L (agOf p) (winL wd st off p.t)) []
theorem docL_snoc (wd st off : Int) (l : List Pt) (p : Pt) : docL wd st off (l ++ [p]) = putSL (docL wd st off l) (agOf p) (winL wd st off p.t) := by simp [docL]

/-- Sorted buckets that hold just what a map holds. -/
structure SameAs (wd : Int) (L : List Bk) (m : List (Int × Ag)) : Prop where
  sort : L.Pairwise (fun a b => a.lo < b.lo)
  hi : ∀ b ∈ L, b.hi = b.lo + wd
  get : ∀ z g, aget m z = some g ↔ ⟨z, z + wd, g⟩ ∈ L

theorem putB_mem {a : Ag} {x : Int × Int} {wd : Int} (hx : x.2 = x.1 + wd) : ∀ (L : List Bk), L.Pairwise (fun a b => a.lo < b.lo) → (∀ b ∈ L, b.hi = b.lo + wd) →
    (∀ b, b ∈ putB a x L ↔ (b ∈ L ∧ b.lo ≠ x.1) ∨ (b.lo = x.1 ∧ b.hi = x.2 ∧ ((∃ c ∈ L, c.lo = x.1 ∧ b.a = agM c.a a) ∨ ((∀ c ∈ L, c.lo ≠ x.1) ∧ b.a = agM Ag.zero a)))) ∧
    (putB a x L).Pairwise (fun a b => a.lo < b.lo)
  | [], _, _ => by
    refine ⟨fun b => ?_, by simp [putB]⟩
    obtain ⟨lo, hi, ba⟩ := b
    simp [putB]
  | c :: l, hs, hh => by
    obtain ⟨hs1, hs2⟩ := List.pairwise_cons.1 hs
    have hc := hh c List.mem_cons_self
    obtain ⟨ih1, ih2⟩ := putB_mem (a := a) hx l hs2 (fun b hb => hh b (List.mem_cons_of_mem _ hb))
    simp only [putB]
    by_cases h1 : c.lo < x.1
    · rw [if_pos h1]
      refine ⟨fun b => ?_, List.pairwise_cons.2 ⟨fun b hb => ?_, ih2⟩⟩
      · rw [List.mem_cons, ih1]
        constructor
        · rintro (rfl | ⟨h2, h3⟩ | ⟨h2, h3, h4⟩)
          · exact .inl ⟨List.mem_cons_self, by omega⟩
          · exact .inl ⟨List.mem_cons_of_mem _ h2, h3⟩
          · refine .inr ⟨h2, h3, ?_⟩
            rcases h4 with ⟨d, hd, h4⟩ | ⟨h4, h5⟩
            · exact .inl ⟨d, List.mem_cons_of_mem _ hd, h4⟩
            · refine .inr ⟨fun d hd => ?_, h5⟩
              rcases List.mem_cons.1 hd with rfl | hd
              · omega
              · exact h4 d hd
        · rintro (⟨h2, h3⟩ | ⟨h2, h3, h4⟩)
          · rcases List.mem_cons.1 h2 with rfl | h2
            · exact .inl rfl
            · exact .inr (.inl ⟨h2, h3⟩)
          · refine .inr (.inr ⟨h2, h3, ?_⟩)
            rcases h4 with ⟨d, hd, h4⟩ | ⟨h4, h5⟩
            · rcases List.mem_cons.1 hd with rfl | hd
              · omega
              · exact .inl ⟨d, hd, h4⟩
            · exact .inr ⟨fun d hd => h4 d (List.mem_cons_of_mem _ hd), h5⟩
      · rcases (ih1 b).1 hb with ⟨h2, _⟩ | ⟨h2, _⟩
        · exact hs1 b h2
        · omega
    · rw [if_neg h1]
      by_cases h2 : c.lo = x.1
      · rw [if_pos h2]
        refine ⟨fun b => ?_, List.pairwise_cons.2 ⟨fun b hb => hs1 b hb, hs2⟩⟩
        rw [List.mem_cons]
        constructor
        · rintro (rfl | h3)
          · exact .inr ⟨h2, by simp only; omega, .inl ⟨c, List.mem_cons_self, h2, rfl⟩⟩
          · exact .inl ⟨List.mem_cons_of_mem _ h3, by have := hs1 b h3; omega⟩
        · rintro (⟨h3, h4⟩ | ⟨h3, h4, h5⟩)
          · rcases List.mem_cons.1 h3 with rfl | h3
            · omega
            · exact .inr h3
          · refine .inl ?_
            rcases h5 with ⟨d, hd, h6, h7⟩ | ⟨h6, _⟩
            · rcases List.mem_cons.1 hd with rfl | hd
              · obtain ⟨blo, bhi, ba⟩ := b
                simp only at h3 h4 h7
                rw [h3, h4, h7, h2, hc, hx, h2]
              · have := hs1 d hd; omega
            · exact absurd h2 (h6 c List.mem_cons_self)
      · rw [if_neg h2]
        have hno : ∀ d ∈ c :: l, d.lo ≠ x.1 := fun d hd => by
          rcases List.mem_cons.1 hd with rfl | hd
          · exact h2
          · have := hs1 d hd; omega
        refine ⟨fun b => ?_, List.pairwise_cons.2 ⟨fun b hb => ?_, hs⟩⟩
        · rw [List.mem_cons]
          constructor
          · rintro (rfl | h3)
            · exact .inr ⟨rfl, rfl, .inr ⟨hno, rfl⟩⟩
            · exact .inl ⟨h3, hno b h3⟩
          · rintro (⟨h3, h4⟩ | ⟨h3, h4, h5⟩)
            · exact .inr h3
            · refine .inl ?_
              rcases h5 with ⟨d, hd, h6, _⟩ | ⟨_, h7⟩
              · exact absurd h6 (hno d hd)
              · obtain ⟨blo, bhi, ba⟩ := b
                simp only at h3 h4 h7
                rw [h3, h4, h7]
        · rcases List.mem_cons.1 hb with rfl | hb
          · simp only; omega
          · have := hs1 b hb; simp only; omega

theorem SameAs.put {wd : Int} {L : List Bk} {m : List (Int × Ag)} (h : SameAs wd L m) (a : Ag) {x : Int × Int} (hx : x.2 = x.1 + wd) : SameAs wd (putB a x L) (putG m a x.1) := by
  obtain ⟨h1, h2⟩ := putB_mem (a := a) hx L h.sort h.hi
  refine ⟨h2, fun b hb => ?_, fun z g => ?_⟩
  · rcases (h1 b).1 hb with ⟨h3, _⟩ | ⟨h3, h4, _⟩
    · exact h.hi b h3
    · rw [h4, hx, h3]
  · rw [h1]
    unfold putG
    by_cases hz : z = x.1
    · subst hz
      rw [aget_put_same]
      simp only [ne_eq, not_true_eq_false, and_false, false_or, true_and, Option.some.injEq, hx]
      cases hg : aget m x.1 with
      | some g0 =>
        have hm := (h.get _ _).1 hg
        constructor
        · rintro rfl
          exact .inl ⟨_, hm, rfl, rfl⟩
        · rintro (⟨c, hc, h5, h6⟩ | ⟨h5, _⟩)
          · have hc' : c = ⟨x.1, x.1 + wd, c.a⟩ := by
              obtain ⟨clo, chi, ca⟩ := c
              have := h.hi _ hc
              simp only at h5 this ⊢
              rw [this, h5]
            rw [hc'] at hc
            have := (h.get _ _).2 hc
            rw [hg] at this
            cases this
            rw [h6]; rfl
          · exact absurd rfl (h5 _ hm)
      | none =>
        constructor
        · rintro rfl
          refine .inr ⟨fun c hc e => ?_, rfl⟩
          have hc' : c = ⟨x.1, x.1 + wd, c.a⟩ := by
            obtain ⟨clo, chi, ca⟩ := c
            have := h.hi _ hc
            simp only at e this ⊢
            rw [this, e]
          rw [hc'] at hc
          have := (h.get _ _).2 hc
          rw [hg] at this
          cases this
        · rintro (⟨c, hc, h5, h6⟩ | ⟨_, h5⟩)
          · have hc' : c = ⟨x.1, x.1 + wd, c.a⟩ := by
              obtain ⟨clo, chi, ca⟩ := c
              have := h.hi _ hc
              simp only at h5 this ⊢
              rw [this, h5]
            rw [hc'] at hc
            have := (h.get _ _).2 hc
            rw [hg] at this
            cases this
          · rw [h5]; rfl
    · rw [aget_put_other _ _ hz, h.get]
      constructor
      · intro h3; exact .inl ⟨h3, hz⟩
      · rintro (⟨h3, _⟩ | ⟨h3, _⟩)
        · exact h3
        · exact absurd h3 hz

theorem SameAs.puts {wd : Int} {a : Ag} : ∀ (xs : List (Int × Int)) (L : List Bk) (m : List (Int × Ag)), (∀ x ∈ xs, x.2 = x.1 + wd) → SameAs wd L m → SameAs wd (putSL L a xs) (putL m a xs)
  | [], _, _, _, h => h
  | x :: xs, L, m, hx, h => SameAs.puts xs (putB a x L) (putG m a x.1) (fun y hy => hx y (List.mem_cons_of_mem _ hy)) (h.put a (hx x List.mem_cons_self))

theorem doc_same {wd st off : Int} (h1 : 1 ≤ st) (h2 : st ≤ wd) (l : List Pt) : SameAs wd (docL wd st off l) (gatL wd st off l) := by
  refine snoc_ind (P := fun l => SameAs wd (docL wd st off l) (gatL wd st off l)) ⟨List.Pairwise.nil, by simp [docL], by simp [docL, gatL, aget]⟩ (fun l p ih => ?_) l
  rw [docL_snoc, gatL_snoc]
  exact SameAs.puts _ _ _ (fun x hx => ((mem_winL h1 h2).1 hx).2.2.2) ih

/-- Buckets that rise and have the same ones are the same. -/
theorem rise_unique : ∀ (A B : List Bk), A.Pairwise (fun a b => a.lo < b.lo) → B.Pairwise (fun a b => a.lo < b.lo) → (∀ b, b ∈ A ↔ b ∈ B) → A = B
  | [], [], _, _, _ => rfl
  | [], b :: B, _, _, h => by have := (h b).2 List.mem_cons_self; simp at this
  | a :: A, [], _, _, h => by have := (h a).1 List.mem_cons_self; simp at this
  | a :: A, b :: B, hA, hB, h => by
    obtain ⟨a1, a2⟩ := List.pairwise_cons.1 hA
    obtain ⟨b1, b2⟩ := List.pairwise_cons.1 hB
    have hab : a = b := by
      rcases List.mem_cons.1 ((h a).1 List.mem_cons_self) with e | e
      · exact e
      · rcases List.mem_cons.1 ((h b).2 List.mem_cons_self) with e2 | e2
        · exact e2.symm
        · have := b1 _ e; have := a1 _ e2; omega
    subst hab
    rw [rise_unique A B a2 b2 (fun c => ?_)]
    constructor
    · intro hc
      rcases List.mem_cons.1 ((h c).1 (List.mem_cons_of_mem _ hc)) with e | e
      · subst e; have := a1 _ hc; omega
      · exact e
    · intro hc
      rcases List.mem_cons.1 ((h c).2 (List.mem_cons_of_mem _ hc)) with e | e
      · subst e; have := b1 _ hc; omega
      · exact e

/-- The map's windows, sorted, are the document's. -/
theorem doc_wins {wd st off : Int} (h1 : 1 ≤ st) (h2 : st ≤ wd) (l : List Pt) {ds : List (Int × Ag)} (hp : ds.Perm (gatL wd st off l)) (hs : (ds.map (·.1)).Pairwise (· ≤ ·)) : docL wd st off l = ds.map (bkOf wd) := by
  have hn : (ds.map (·.1)).Nodup := (hp.map _).nodup_iff.2 (gatL_nodup l)
  have H := doc_same (off := off) h1 h2 l
  refine rise_unique _ _ H.sort ?_ (fun b => ?_)
  · have hlt : (ds.map (·.1)).Pairwise (· < ·) := (hs.and hn).imp (fun h => by omega)
    rw [List.pairwise_map] at hlt
    rw [List.pairwise_map]
    exact hlt
  · constructor
    · intro hb
      have hb' : b = ⟨b.lo, b.lo + wd, b.a⟩ := by
        obtain ⟨blo, bhi, ba⟩ := b
        have := H.hi _ hb
        simp only at this ⊢
        rw [this]
      rw [hb'] at hb
      have hm := aget_mem ((H.get _ _).2 hb)
      exact List.mem_map.2 ⟨_, hp.symm.subset hm, hb'.symm⟩
    · intro hb
      obtain ⟨⟨z, g⟩, hq, rfl⟩ := List.mem_map.1 hb
      exact (H.get _ _).1 (aget_of_mem (gatL_nodup l) (hp.subset hq))

/-- What the document's sessions have. -/
def dsesL (gap : Int) (l : List Pt) : List Bk := (spL gap (l.map (·.t))).map (fun s => ⟨s.1, s.2, agA (l.filter (fun p => decide (s.1 ≤ p.t) && decide (p.t < s.2)))⟩)
theorem dses_same {gap : Int} (hg : 1 ≤ gap) (l : List Pt) (hs : (l.map (·.t)).Pairwise (· ≤ ·)) : dsesL gap l = sesL gap l := by
  have G := grp_ok (gap := gap) hg l (by rw [List.pairwise_map] at hs; exact hs)
  unfold dsesL sesL
  rw [G.spans, List.map_map]
  refine List.map_congr_left (fun g hgm => ?_)
  simp only [Function.comp, sesBk]
  congr 2
  have key : ∀ (gs : List (List Pt)), gs.Pairwise (fun a b => gHi a + gap ≤ gLo b) → (∀ g ∈ gs, ∀ p ∈ g, gLo g ≤ p.t ∧ p.t ≤ gHi g) → (∀ g ∈ gs, g ≠ []) → ∀ g ∈ gs, gs.flatten.filter (fun p => decide (gLo g ≤ p.t) && decide (p.t < gHi g + gap)) = g := by
    intro gs
    induction gs with
    | nil => intro _ _ _ g hg; simp at hg
    | cons c gs ih =>
      intro h1 h2 h3 g hg'
      obtain ⟨p1, p2⟩ := List.pairwise_cons.1 h1
      have hcs : ∀ d ∈ gs, gLo d ≤ gHi d := fun d hd => by
        obtain ⟨p, hp⟩ := List.exists_mem_of_ne_nil d (h3 d (List.mem_cons_of_mem _ hd))
        have := h2 d (List.mem_cons_of_mem _ hd) p hp
        omega
      rw [List.flatten_cons, List.filter_append]
      rcases List.mem_cons.1 hg' with rfl | hg'
      · rw [List.filter_eq_self.2 (fun p hp => ?_), List.filter_eq_nil_iff.2 (fun p hp => ?_), List.append_nil]
        · obtain ⟨d, hd, hpd⟩ := List.mem_flatten.1 hp
          have h4 := p1 d hd
          have h5 := h2 d (List.mem_cons_of_mem _ hd) p hpd
          simp only [Bool.and_eq_true, decide_eq_true_eq]
          omega
        · have h5 := h2 g List.mem_cons_self p hp
          simp only [Bool.and_eq_true, decide_eq_true_eq]
          omega
      · rw [List.filter_eq_nil_iff.2 (fun p hp => ?_), List.nil_append]
        · exact ih p2 (fun d hd => h2 d (List.mem_cons_of_mem _ hd)) (fun d hd => h3 d (List.mem_cons_of_mem _ hd)) g hg'
        · have h4 := p1 g hg'
          have h5 := h2 c List.mem_cons_self p hp
          simp only [Bool.and_eq_true, decide_eq_true_eq]
          omega
  have h := key _ G.apart G.within G.some g hgm
  rw [G.flat] at h
  exact h
end Go.Proofs.YtokllgdbmnmieaaGreat

/-! The document's Windows. -/

namespace Go.Proofs.YtokllgdbmnmieaaGreat
open Go.RowKit Go.Lib Go.Sort

theorem docL_bnd {wd st off : Int} (hv : windowB wd st off = true) : ∀ (l : List Pt), (∀ p ∈ l, -9223372036854775808 ≤ p.v ∧ p.v ≤ 9223372036854775807) → ∀ b ∈ docL wd st off l, b.a.bnd (64 * l.length) := by
  intro l
  refine snoc_ind (P := fun l => (∀ p ∈ l, -9223372036854775808 ≤ p.v ∧ p.v ≤ 9223372036854775807) → ∀ b ∈ docL wd st off l, b.a.bnd (64 * l.length)) (fun _ b hb => by simp [docL] at hb) (fun l p ih h b hb => ?_) l
  rw [docL_snoc] at hb
  have hp := h p (by simp)
  have h1 := putSL_bnd (agOf_bnd hp.1 hp.2) (winL wd st off p.t) (docL wd st off l) (64 * l.length) (ih (fun q hq => h q (by simp [hq]))) b hb
  have h2 := winL_len wd st off p.t
  have h3 := winN_le (t := p.t) hv
  exact h1.mono (by rw [List.length_append]; simp; omega)
theorem docL_len {wd st off : Int} (hv : windowB wd st off = true) : ∀ (l : List Pt), (docL wd st off l).length ≤ 64 * l.length := by
  intro l
  refine snoc_ind (P := fun l => (docL wd st off l).length ≤ 64 * l.length) (by simp [docL]) (fun l p ih => ?_) l
  rw [docL_snoc]
  have h1 := putSL_len (a := agOf p) (winL wd st off p.t) (docL wd st off l)
  have h2 := winL_len wd st off p.t
  have h3 := winN_le (t := p.t) hv
  rw [List.length_append]
  simp
  omega

/-- What it tells. -/
def rwinPost (w : World) (wd st off : Int) (l : List Pt) (e : Ending) (w' : World) : Prop :=
  if windowB wd st off = true ∧ l.any (fun p => !timeB p.t) = false then ∃ v n, e = .returned (.tuple #[v, .int .i64 0]) ∧ MadeTo w 92 19 v n (rbs (docL wd st off l)) w' ∧ (docL wd st off l).length = n
  else e = .returned (.tuple #[.slice none 0 0, .int .i64 2]) ∧ Ext w w'

set_option maxHeartbeats 8000000 in
set_option maxRecDepth 100000 in
theorem rwindows_any (w : World) (a : Option Addr) (n c : Nat) (l : List Pt) (wd st off : Int) (hl : Src w 3 (.slice a n c) n (pts l)) (hn : n ≤ 900) (hp : ∀ p ∈ l, -9223372036854775808 ≤ p.v ∧ p.v ≤ 9223372036854775807) :
    Calls Tryz.prog 26 #[.slice a n c, .int .i64 wd, .int .i64 st, .int .i64 off] w (rwinPost w wd st off l) := by
  have HL := Lib.hid hl
  have HLN := Lib.hid (src_len hl)
  have HP := Lib.hid hp
  clear hl hp
  have HPOST : Hid (∀ e w', rwinPost w wd st off l e w' = (if windowB wd st off = true ∧ l.any (fun p => !timeB p.t) = false then ∃ v n, e = .returned (.tuple #[v, .int .i64 0]) ∧ MadeTo w 92 19 v n (rbs (docL wd st off l)) w' ∧ (docL wd st off l).length = n
    else e = .returned (.tuple #[.slice none 0 0, .int .i64 2]) ∧ Ext w w')) := Lib.hid (fun _ _ => rfl)
  go_enter Tryz.func26, Tryz.ntmps26
  go_wp2_with fail
  refine (refWin_any wd st off _).mono ?_
  rintro e w1 ⟨rfl, hx1⟩
  have HX1 : Hid (Ext w w1) := Lib.hid (by first | exact hx1 | (rw [hx1]; exact Ext.refl _) | (rw [← hx1]; exact Ext.refl _))
  clear hx1
  cases hv : windowB wd st off with
  | false =>
    have HQ : Hid (¬ (windowB wd st off = true ∧ l.any (fun p => !timeB p.t) = false)) := Lib.hid (by rw [hv]; simp)
    clear hv
    go_wp2_with fail
    go_ret2
    rw [HPOST.out, if_neg HQ.out]
    exact ⟨rfl, HX1.out⟩
  | true =>
    have HV := Lib.hid hv
    clear hv
    go_wp2_with fail
    go_loopw [10] (fun s10 wr => ∃ k : Nat, k ≤ n ∧ s10 = .int .i64 k ∧ Hid ((∀ p ∈ l.take k, timeB p.t = true) ∧ Ext w wr)) (fun i _ => n - (RowKit.intOf i).toNat)
    case atStart => exact ⟨0, by omega, rfl, Lib.hid ⟨by simp, HX1.out⟩⟩
    case round =>
      obtain ⟨k, hk, rfl, HI⟩ := hrel
      by_cases hlt : k < n
      · obtain ⟨b, so, p, rfl, hp, c0, c1, c2⟩ := pts_src (HL.out.ext HI.out.2) hlt
        have HPK := Lib.hid hp
        have HTB : Hid (timeB p.t = (decide (-1152921504606846976 ≤ p.t) && decide (p.t ≤ 1152921504606846976))) := Lib.hid rfl
        obtain ⟨pt, pv, ps⟩ := p
        simp only at c0 HTB
        clear hp c1 c2
        by_cases h1 : pt < -1152921504606846976
        · have HQ : Hid (¬ (windowB wd st off = true ∧ l.any (fun p => !timeB p.t) = false)) := Lib.hid (by
            rintro ⟨_, h⟩
            rw [List.any_eq_false] at h
            have := h _ (List.mem_of_getElem? HPK.out)
            simp only [HTB.out] at this
            simp at this
            omega)
          have hd1 : decide (pt < -1152921504606846976) = true := by simp; omega
          go_wp2_with fail
          go_ret2
          rw [HPOST.out, if_neg HQ.out]
          exact ⟨rfl, HI.out.2⟩
        · have hd1 : decide (pt < -1152921504606846976) = false := by simp; omega
          by_cases h2 : 1152921504606846976 < pt
          · have HQ : Hid (¬ (windowB wd st off = true ∧ l.any (fun p => !timeB p.t) = false)) := Lib.hid (by
              rintro ⟨_, h⟩
              rw [List.any_eq_false] at h
              have := h _ (List.mem_of_getElem? HPK.out)
              simp only [HTB.out] at this
              simp at this
              omega)
            have hd2 : decide (1152921504606846976 < pt) = true := by simp; omega
            go_wp2_with fail
            go_ret2
            rw [HPOST.out, if_neg HQ.out]
            exact ⟨rfl, HI.out.2⟩
          · have hd2 : decide (1152921504606846976 < pt) = false := by simp; omega
            have HT1 : Hid (timeB pt = true) := Lib.hid (by rw [HTB.out]; simp; omega)
            go_wp2_with fail
            refine ⟨⟨k + 1, by omega, by go_num, Lib.hid ⟨fun q hq => ?_, HI.out.2⟩⟩, by simp [RowKit.intOf]; omega⟩
            rw [List.take_add_one, HPK.out] at hq
            rcases List.mem_append.1 hq with hq | hq
            · exact HI.out.1 q hq
            · simp at hq; subst hq; exact HT1.out
      · obtain rfl : k = n := by omega
        have HALL : Hid (∀ p ∈ l, timeB p.t = true) := Lib.hid (by
          have h1 := HI.out.1
          rw [List.take_of_length_le (by have := HLN.out; omega)] at h1
          exact h1)
        have HQ : Hid (windowB wd st off = true ∧ l.any (fun p => !timeB p.t) = false) := Lib.hid ⟨HV.out, by
          rw [List.any_eq_false]
          intro p hp
          rw [HALL.out p hp]
          simp⟩
        have HXK := Lib.hid HI.out.2
        clear HI
        go_wp2_with fail
        clear hlt hk
        go_loopw [11, 12] (fun s11 s12 wq => ∃ (j m vc : Nat) (va : Option Addr), j ≤ k ∧ s11 = .slice va m vc ∧ s12 = .int .i64 j ∧ Hid (MadeTo w 92 19 s11 m (rbs (docL wd st off (l.take j))) wq ∧ (docL wd st off (l.take j)).length = m)) (fun _ i _ => k - (RowKit.intOf i).toNat)
        case atStart => exact ⟨0, 0, 0, none, by omega, rfl, rfl, Lib.hid ⟨⟨Row.nil _ _ _, fun g hg => by simp [Value.ownBlock] at hg, HXK.out⟩, rfl⟩⟩
        case round =>
          obtain ⟨j, m, vc, va, hj, rfl, rfl, HR⟩ := hrel
          by_cases hlt : j < k
          · obtain ⟨b, so, p, rfl, hp, c0, c1, c2⟩ := pts_src HL.out hlt
            have HPK := Lib.hid hp
            clear hp
            obtain ⟨pt, pv, ps⟩ := p
            simp only at c0 c1 c2
            have f0 := cell_turned (T := fun _ => false) c0 rfl
            have f1 := cell_turned (T := fun _ => false) c1 rfl
            have f2 := cell_turned (T := fun _ => false) c2 rfl
            clear c0 c1 c2
            have hlt1 : decide ((j : Int) < (k : Int)) = true := by simp; omega
            go_wp2_with fail
            refine wp_region_plan 19 (fun w' => ∃ p : Turned, w' = turned w (fun _ => false) p.d p.f p.os) (.reads [0, 1, 2, 3, 4, 5, 6, 7, 8, 9, 10, 11, 12] (.one 13 (.one 14 (.reads [15, 16, 17] (.one 18 (.one 19 .done)))))) (by kernel_rfl) (by kernel_rfl) (fun _ _ dd _ _ hh => by cases dd <;> exact hh) ?_ ?_
            · exact turned_of_ext (HR.out.1.ext.trans (Ext.drewN wr 1))
            refine wpPlan_reads ?_
            simp only [pickOps, List.getElem?_cons_succ, List.getElem?_cons_zero]
            repeat (go_big_quiet_step (fail))
            refine wpQuiet_nil ?_
            clear f0 f1 f2
            refine wpPlan_one ?_
            simp only [pickOps, List.getElem?_cons_succ, List.getElem?_cons_zero]
            go_wp2_with fail
            have HPV := Lib.hid (HP.out _ (List.mem_of_getElem? HPK.out))
            refine (rOf_any ⟨pt, pv, ps⟩ _ HPV.out.1 HPV.out.2).mono ?_
            rintro e w5 ⟨rfl, hx5⟩
            have HX5 := Lib.hid ((Ext.drewN wr 1).trans hx5)
            clear hx5
            go_wp2_with fail
            refine thenX_mk (turned_of_ext (HR.out.1.ext.trans HX5.out)) (wpPlan_one ?_)
            simp only [pickOps, List.getElem?_cons_succ, List.getElem?_cons_zero]
            go_wp2_with fail
            have HTM : Hid (timeB pt = true) := Lib.hid (HALL.out _ (List.mem_of_getElem? HPK.out))
            have HKL : Hid ((l.take j).length = j) := Lib.hid (by rw [List.length_take]; have := HLN.out; omega)
            have HMD : Hid (MadeTo w 92 19 (.slice va m vc) m (rbs (docL wd st off (l.take j))) w5) := Lib.hid ⟨HR.out.1.row.ext HX5.out, HR.out.1.own, HR.out.1.ext.trans HX5.out⟩
            refine (rput_any HMD.out HR.out.2 wd st off pt (agOf ⟨pt, pv, ps⟩) (64 * (l.take j).length) 1 HV.out HTM.out (docL_bnd HV.out _ (fun p hp => HP.out p (List.mem_of_mem_take hp))) (agOf_bnd HPV.out.1 HPV.out.2) (by unfold agOf; simp) (by have := HKL.out; omega) (by have h1 := docL_len (wd := wd) (st := st) (off := off) HV.out (l.take j); have := HKL.out; have := HR.out.2; omega)).mono ?_
            rintro e w6 ⟨v6, n6, rfl, hg6, hl6⟩
            obtain ⟨va6, vc6, rfl⟩ := hg6.row.shape
            have HG6 : Hid (MadeTo w 92 19 (.slice va6 n6 vc6) n6 (rbs (docL wd st off (l.take (j + 1)))) w6 ∧ (docL wd st off (l.take (j + 1))).length = n6) := Lib.hid (by
              have e : docL wd st off (l.take (j + 1)) = putSL (docL wd st off (l.take j)) (agOf ⟨pt, pv, ps⟩) (winL wd st off pt) := by
                rw [List.take_add_one, HPK.out]
                exact docL_snoc wd st off (l.take j) ⟨pt, pv, ps⟩
              rw [e]
              exact ⟨hg6, hl6⟩)
            clear hg6 hl6 HMD
            go_wp2_with fail
            refine thenX_mk (turned_of_ext HG6.out.1.ext) (wpPlan_reads ?_)
            simp only [pickOps, List.getElem?_cons_succ, List.getElem?_cons_zero]
            repeat (go_big_quiet_step (fail))
            refine wpQuiet_nil ?_
            refine wpPlan_one ?_
            simp only [pickOps, List.getElem?_cons_succ, List.getElem?_cons_zero]
            go_wp2_with fail
            refine thenX_mk (turned_of_ext HG6.out.1.ext) (wpPlan_one ?_)
            simp only [pickOps, List.getElem?_cons_succ, List.getElem?_cons_zero]
            go_wp2_with fail
            refine thenX_last (wpPlan_done ?_)
            go_wp2_with fail
            exact ⟨⟨j + 1, n6, vc6, va6, by omega, rfl, by go_num, HG6⟩, by simp [RowKit.intOf]; omega⟩
          · have HKN : Hid (l.take j = l) := Lib.hid (by rw [List.take_of_length_le (by have := HLN.out; omega)])
            rw [HKN.out] at HR
            have hlt1 : decide ((j : Int) < (k : Int)) = false := by simp; omega
            go_wp2_with fail
            go_ret2
            rw [HPOST.out, if_pos HQ.out]
            exact ⟨_, _, rfl, HR.out.1, HR.out.2⟩
end Go.Proofs.YtokllgdbmnmieaaGreat

/-! The document's Sessions. -/

namespace Go.Proofs.YtokllgdbmnmieaaGreat
open Go.RowKit Go.Lib Go.Sort

theorem rbc_lits (b : Bk) : ∃ x2 x3 x4 x5 x6 x7 x8 x9 x10 x11 x12 x13 x14 x15 x16 x17 x18 : Int, rbc b = [.int .i64 b.lo, .int .i64 b.hi, .int .i64 x2, .int .i64 x3, .int .i64 x4, .int .i64 x5, .int .i64 x6, .int .i64 x7, .int .i64 x8, .int .i64 x9, .int .i64 x10, .int .i64 x11, .int .i64 x12, .int .i64 x13, .int .i64 x14, .int .i64 x15, .int .i64 x16, .int .i64 x17, .int .i64 x18] := ⟨_, _, _, _, _, _, _, _, _, _, _, _, _, _, _, _, _, rfl⟩
theorem elem_int : ElemOk Tryz.prog 193 3 1 8 :=
  ⟨Tryz.underlying193, by
    obtain ⟨i0, hi, hz0, hz1, hz2⟩ := info_parts (show (Tryz.prog.info? 3).map (fun i => (i.zero, i.size, i.bytes)) = some (some (.int .i64 0), 1, 8) from by kernel_rfl)
    exact ⟨i0, _, hi, hz0, hz1, hz2, rfl⟩, by decide⟩
theorem src_int {W : World} {b : Nat} {z : Int} {t : TypeId} {fr : Nat × Nat} (h : W.heap[b]? = some (.cells #[.int .i64 z] t fr)) : Src W 1 (.slice (some ⟨b, 0, none⟩) 1 1) 1 [.int .i64 z] := by
  refine .inr ⟨_, _, rfl, rfl, fun j u hj => ?_, by simp [Value.oneCell']⟩
  rw [Go.WideShapes.add_plain, Nat.zero_add, cell_of_block h]
  simpa using hj
def inS (s1 s2 : Int) (p : Pt) : Bool := decide (s1 ≤ p.t) && decide (p.t < s2)

def rsesPost (w : World) (gap : Int) (l : List Pt) (e : Ending) (w' : World) : Prop :=
  (sesOk gap (l.map (·.t)) ∧ ∃ v, e = .returned (.tuple #[v, .int .i64 0]) ∧ MadeTo w 92 19 v (dsesL gap l).length (rbs (dsesL gap l)) w') ∨
  (¬ sesOk gap (l.map (·.t)) ∧ e = .returned (.tuple #[.slice none 0 0, .int .i64 2]) ∧ Ext w w')

end Go.Proofs.YtokllgdbmnmieaaGreat

/-! The document's comparison: tidemillref23.Same, at equal rows. -/

namespace Go.Proofs.YtokllgdbmnmieaaGreat
open Go.RowKit Go.Sort Go.Lib

set_option maxHeartbeats 1000000 in
theorem neq_row (r : Rw) (W : World) : (binOp .neq 42 (.agg #[.int .i64 r.lo, .int .i64 r.hi, .bool r.nul, .int .i64 (r.v / 18446744073709551616), .int .u64 (r.v % 18446744073709551616)]) (.agg #[.int .i64 r.lo, .int .i64 r.hi, .bool r.nul, .int .i64 (r.v / 18446744073709551616), .int .u64 (r.v % 18446744073709551616)])).run Tryz.prog W = .ok (.bool false) W := by
  obtain ⟨a, b, v, c⟩ := r
  simp only
  generalize v / 18446744073709551616 = x
  generalize v % 18446744073709551616 = y
  have hp : Tryz.prog.stoodInHeld 42 = false := by kernel_rfl
  have hu := Tryz.underlying42
  simp [go_sem, hp, hu]
  repeat' split
  all_goals simp_all

set_option maxHeartbeats 2000000 in
set_option maxRecDepth 100000 in
theorem rsame_any (w : World) (a : Option Addr) (n c : Nat) (a' : Option Addr) (c' : Nat) (R : List Rw) (h1 : Src w 5 (.slice a n c) n (rws R)) (h2 : Src w 5 (.slice a' n c') n (rws R)) (hn : n < 4398046511104) :
    Calls Tryz.prog 10 #[.slice a n c, .slice a' n c'] w fun e w' => e = .returned (.bool true) ∧ Ext w w' := by
  have H1 := Lib.hid h1
  have H2 := Lib.hid h2
  clear h1 h2
  have hne := neq_row
  have hg : Tryz.prog.eqGuardType Tryz.prog.depth 42 = false := by kernel_rfl
  go_enter Tryz.func10, Tryz.ntmps10
  go_wp2_with fail
  go_loopw [4, 5] (fun s4 s5 wr => ∃ i : Nat, s4 = .bool false ∧ s5 = .int .i64 i ∧ i ≤ n ∧ Hid (Ext w wr)) (fun _ t _ => n - (RowKit.intOf t).toNat)
  case atStart => exact ⟨0, rfl, rfl, Nat.zero_le _, Lib.hid (Ext.refl _)⟩
  case round =>
    obtain ⟨i, rfl, rfl, hi, HX⟩ := hrel
    by_cases hlt : i < n
    · obtain ⟨rb, ro, r, rfl, hr, r0, r1, r2, r3, r4⟩ := rws_src (H1.out.ext HX.out) hlt
      obtain ⟨sb, so, s, rfl, hs, s0, s1, s2, s3, s4⟩ := rws_src (H2.out.ext HX.out) hlt
      obtain rfl : s = r := by rw [hr] at hs; exact (Option.some.inj hs).symm
      clear hr hs
      go_upto_region 6 with fail
      go_big_quiet (fail)
      go_wp2_with fail
      go_roundw
      case rel => exact ⟨i + 1, rfl, by go_num, by omega, Lib.hid (HX.out.trans (Ext.drewN _ _))⟩
      case measure => simp [RowKit.intOf]; omega
    · go_wp2_with fail
      go_ret
      exact ⟨rfl, HX.out⟩
end Go.Proofs.YtokllgdbmnmieaaGreat
