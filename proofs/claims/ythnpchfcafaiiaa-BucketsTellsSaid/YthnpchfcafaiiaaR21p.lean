/- The document's put: a bucket's points into the windows that have a time. -/
import Derived.Test.YthnpchfcafaiiaaR21a
import Derived.Test.YthnpchfcafaiiaaR09b
import Derived.Deep.DeepCutAuto
namespace Go.Proofs.Ythnpchfcafaiiaa
open Go.RowKit Go.Lib Go.Sort

/-- So far: the row of buckets, in the row that came or a newer one. -/
structure PuR (w0 w1 : World) (v0 : Value) (L : List Bk) (va : Option Addr) (n vc : Nat) (wr : World) : Prop where
  made : MadeTo w0 80 19 (.slice va n vc) n (rbs L) wr
  len : L.length = n
  chg : Chg (fun i => v0.ownBlock = some i) w1 wr
  own : ∀ g, (Value.slice va n vc).ownBlock = some g → v0.ownBlock = some g ∨ w1.heap.size ≤ g
theorem PuR.ext {w0 w1 wr w' : World} {v0 : Value} {L : List Bk} {va : Option Addr} {n vc : Nat} (h : PuR w0 w1 v0 L va n vc wr) (hx : Ext wr w') : PuR w0 w1 v0 L va n vc w' :=
  ⟨⟨h.made.row.ext hx, h.made.own, h.made.ext.trans hx⟩, h.len, h.chg.trans (Chg.of_ext (S := fun _ => False) hx) (fun _ _ e => e.elim), h.own⟩
theorem PuR.write {w0 w1 wr w' : World} {v0 : Value} {L L' : List Bk} {b so n vc : Nat} (h : PuR w0 w1 v0 L (some ⟨b, so, none⟩) n vc wr) (hr : Row w' 80 19 (.slice (some ⟨b, so, none⟩) n vc) n (rbs L')) (hl : L'.length = n) (hc : Chg (· = b) wr w') :
    PuR w0 w1 v0 L' (some ⟨b, so, none⟩) n vc w' := by
  have ho := h.made.own b rfl
  refine ⟨⟨hr, h.made.own, ((Chg.of_ext h.made.ext).trans hc (fun _ _ e => e)).ext (fun i hi e => by omega)⟩, hl, h.chg.trans hc (fun i hi e => ?_), h.own⟩
  subst e
  rcases h.own i rfl with h1 | h1
  · exact h1
  · omega
theorem PuR.append {w0 w1 wr w' : World} {v0 : Value} {L L' : List Bk} {va va' : Option Addr} {n vc vc' : Nat} (h : PuR w0 w1 v0 L va n vc wr) (hsz : w1.heap.size ≤ wr.heap.size) (ha : Appended wr 80 19 (.slice va n vc) (n + 1) (rbs L ++ rbs L') (.slice va' (n + 1) vc') w') (hl : L'.length = 1) :
    PuR w0 w1 v0 (L ++ L') va' (n + 1) vc' w' := by
  have hc0 := h.made.ext.size
  refine ⟨⟨by rw [rbs_append]; exact ha.row, fun g hg => ?_, ?_⟩, by rw [List.length_append, h.len, hl], h.chg.trans ha.chg (fun i hi e => ?_), fun g hg => ?_⟩
  · rcases ha.loc with e | e
    · exact h.made.own g (e ▸ hg)
    · rw [e] at hg; cases hg; exact hc0
  · exact ((Chg.of_ext h.made.ext).trans ha.chg (fun _ _ e => e)).ext (fun i hi e => by have := h.made.own i e; omega)
  · rcases h.own i e with h1 | h1
    · exact h1
    · omega
  · rcases ha.loc with e | e
    · exact h.own g (e ▸ hg)
    · rw [e] at hg; cases hg; exact .inr hsz

theorem putB_bnd {a : Ag} {K A : Nat} (ha : a.bnd A) (x : Int × Int) : ∀ (L : List Bk), (∀ b ∈ L, b.a.bnd K) → ∀ b ∈ putB a x L, b.a.bnd (K + A)
  | [], _, b, hb => by
    simp [putB] at hb; subst hb
    exact agM_bnd (zero_bnd K) ha
  | c :: l, h, b, hb => by
    have hc := h c List.mem_cons_self
    simp only [putB] at hb
    split at hb
    · rcases List.mem_cons.1 hb with e | hb
      · rw [e]; exact hc.mono (by omega)
      · exact putB_bnd ha x l (fun b' hb' => h b' (List.mem_cons_of_mem _ hb')) b hb
    · split at hb
      · rcases List.mem_cons.1 hb with e | hb
        · rw [e]; exact agM_bnd hc ha
        · exact (h b (List.mem_cons_of_mem _ hb)).mono (by omega)
      · rcases List.mem_cons.1 hb with e | hb
        · rw [e]; exact agM_bnd (zero_bnd K) ha
        · exact (h b hb).mono (by omega)
theorem putSL_bnd {a : Ag} {A : Nat} (ha : a.bnd A) : ∀ (l : List (Int × Int)) (L : List Bk) (K : Nat), (∀ b ∈ L, b.a.bnd K) → ∀ b ∈ putSL L a l, b.a.bnd (K + l.length * A)
  | [], L, K, h => by simpa [putSL] using h
  | x :: l, L, K, h => by
    have := putSL_bnd ha l (putB a x L) (K + A) (putB_bnd ha x L h)
    intro p hp
    exact (this p hp).mono (by simp only [List.length_cons, Nat.succ_mul]; omega)
theorem putB_len (a : Ag) (x : Int × Int) (L : List Bk) : (putB a x L).length ≤ L.length + 1 := by
  induction L with
  | nil => simp [putB]
  | cons c l ih => simp only [putB]; split <;> (try split) <;> simp <;> omega
theorem putSL_len {a : Ag} : ∀ (l : List (Int × Int)) (L : List Bk), (putSL L a l).length ≤ L.length + l.length
  | [], L => by simp [putSL]
  | x :: l, L => by
    have := putSL_len (a := a) l (putB a x L)
    have h2 := putB_len a x L
    have e : putSL L a (x :: l) = putSL (putB a x L) a l := rfl
    rw [e]
    simp only [List.length_cons]
    omega
theorem putSL_take {L : List Bk} {a : Ag} {l : List (Int × Int)} {k : Nat} {p : Int × Int} (h : l[k]? = some p) : putSL L a (l.take (k + 1)) = putB a p (putSL L a (l.take k)) := by
  unfold putSL
  rw [List.take_add_one, h, List.foldl_append]
  rfl

theorem shift_step {L : List Bk} {p : Nat} {b st : Bk} (h : L[p]? = some b) : (L.take (p + 1) ++ st :: L.drop (p + 1)).set (p + 1) b = L.take p ++ b :: L.drop p := by
  obtain ⟨hp, e⟩ := List.getElem?_eq_some_iff.1 h
  have hl : (L.take (p + 1)).length = p + 1 := by rw [List.length_take]; omega
  rw [List.set_append_right _ _ (by omega), hl, Nat.sub_self, List.set_cons_zero, List.take_add_one, h, List.drop_eq_getElem_cons hp, e]
  simp
theorem set_at {L : List Bk} {k : Nat} {b st : Bk} (hk : k ≤ L.length) : (L.take k ++ st :: L.drop k).set k b = L.take k ++ b :: L.drop k := by
  have hl : (L.take k).length = k := by rw [List.length_take]; omega
  rw [List.set_append_right _ _ (by omega), hl, Nat.sub_self, List.set_cons_zero]
theorem get_at {L : List Bk} {k : Nat} {st : Bk} (hk : k ≤ L.length) : (L.take k ++ st :: L.drop k)[k]? = some st := by
  have hl : (L.take k).length = k := by rw [List.length_take]; omega
  rw [List.getElem?_append_right (by omega), hl, Nat.sub_self]; rfl
theorem get_below {L : List Bk} {k p : Nat} {st : Bk} (hp : p < k) (hk : k ≤ L.length) : (L.take k ++ st :: L.drop k)[p]? = L[p]? := by
  rw [List.getElem?_append_left (by rw [List.length_take]; omega), List.getElem?_take, if_pos hp]
theorem len_at {L : List Bk} {k : Nat} {st : Bk} (hk : k ≤ L.length) : (L.take k ++ st :: L.drop k).length = L.length + 1 := by
  simp; omega
theorem rbc_all (b : Bk) : (rbc b).toArray.all (·.oneCell') = true := by
  rw [Array.all_eq_true_iff_forall_mem]
  intro v hv
  exact rbc_one b v (by simpa using hv)

set_option maxHeartbeats 4000000 in
set_option maxRecDepth 100000 in
theorem rput_any {w0 w : World} {a0 : Option Addr} {n0 c0 : Nat} {L0 : List Bk} (hm0 : MadeTo w0 80 19 (.slice a0 n0 c0) n0 (rbs L0) w) (hl0 : L0.length = n0) (wd st off t : Int) (a : Ag) (K A : Nat) (hv : windowB wd st off = true) (ht : timeB t = true)
    (hm : ∀ b ∈ L0, b.a.bnd K) (ha : a.bnd A) (ha1 : 1 ≤ a.n) (hk : K + 64 * A ≤ 1125899906842624) (hlen : n0 ≤ 60000) :
    Calls Try.prog 20 #[.slice a0 n0 c0, .int .i64 wd, .int .i64 st, .int .i64 off, .int .i64 t, .agg (agR a)] w fun e w' => ∃ v n, e = .returned (.tuple #[v, .int .i64 0]) ∧ MadeTo w0 80 19 v n (rbs (putSL L0 a (winL wd st off t))) w' ∧ (putSL L0 a (winL wd st off t)).length = n := by
  have HOF := Lib.hid (fun W => rof09_any wd st off t W hv ht)
  have HM0 := Lib.hid hm0
  have HM := Lib.hid (And.intro hm (And.intro ha (And.intro ha1 (And.intro hk (And.intro hlen hl0)))))
  have HW := Lib.hid (winN_le (t := t) hv)
  have HLN0 := Lib.hid (winL_len wd st off t)
  clear hm0 hm ha ha1 hk hlen hl0 hv ht
  obtain ⟨N, hN⟩ : ∃ n, n = winN wd st off t := ⟨_, rfl⟩
  obtain ⟨XS, hXS⟩ : ∃ l, l = winL wd st off t := ⟨_, rfl⟩
  simp only [← hN, ← hXS] at HOF
  rw [← hN] at HW
  rw [← hN, ← hXS] at HLN0
  rw [← hXS]
  clear hN hXS
  obtain ⟨AC, hAC⟩ : ∃ A : Array Value, A = agR a := ⟨_, rfl⟩
  have HA := Lib.hid hAC
  rw [← hAC]
  clear hAC
  go_enter Try.func20, Try.ntmps20
  go_wp2_with fail
  refine (HOF.out _).mono ?_
  rintro e w1 ⟨v, rfl, hm1⟩
  obtain ⟨sa, sc, rfl⟩ := hm1.row.shape
  have HS1 := Lib.hid (hm1.row.src (sps_one XS))
  have HB1 : Hid (w1.heap[w.heap.size]? = some (.cells AC 66 (0, 0))) := Lib.hid ((hm1.ext.block (block_lt (heap_alloc_new w _))).trans (heap_alloc_new w _))
  have HX1 := Lib.hid (((Ext.refl w).alloc (.cells AC 66 (0, 0))).trans hm1.ext)
  have HO1 := Lib.hid hm1.own
  have HVL : Hid (∀ g, (Value.slice a0 n0 c0).ownBlock = some g → g < w.heap.size) := Lib.hid (fun g hg => HM0.out.row.lt hg)
  have HPU : Hid (PuR w0 w1 (.slice a0 n0 c0) L0 a0 n0 c0 w1) := Lib.hid ⟨⟨HM0.out.row.ext HX1.out, HM0.out.own, HM0.out.ext.trans HX1.out⟩, HM.out.2.2.2.2.2, Chg.refl _ _, fun g hg => .inl hg⟩
  clear hm1 HOF
  go_wp2_with fail
  go_loopw [0, 16] (fun s0 s16 wr => ∃ (i n vc : Nat) (va : Option Addr), i ≤ N ∧ s16 = .int .i64 i ∧ s0 = .slice va n vc ∧ n ≤ 60000 + i ∧ Hid (PuR w0 w1 (.slice a0 n0 c0) (putSL L0 a (XS.take i)) va n vc wr)) (fun _ i _ => N - (RowKit.intOf i).toNat)
  case atStart => exact ⟨0, n0, c0, a0, by omega, rfl, rfl, by have := HM.out.2.2.2.2.1; omega, by simpa [putSL] using HPU⟩
  case round =>
    obtain ⟨i, n, vc, va, hi, rfl, rfl, hn60, HR⟩ := hrel
    have hN64 : N ≤ 64 := HW.out
    by_cases hlt : i < N
    · have HSr : Hid (∀ w', Chg (fun i => (Value.slice a0 n0 c0).ownBlock = some i) w1 w' → Src w' 2 (.slice sa N sc) N (sps XS)) := Lib.hid (fun w' hc => HS1.out.chg hc (fun g hg e => by have h1 := HO1.out g hg; have h2 := HVL.out g e; simp at h1; omega))
      obtain ⟨sb, so, x, rfl, hx, z0, z1⟩ := sps_src (HSr.out _ HR.out.chg) hlt
      have HX := Lib.hid hx
      have HZZ : Hid (∀ w', Ext wr w' → w'.cell? ⟨sb, so + i * 2, none⟩ = some (.int .i64 x.1) ∧ w'.cell? ⟨sb, so + i * 2 + 1, none⟩ = some (.int .i64 x.2)) := Lib.hid (fun w' hx => ⟨(hx.cell (World.block_lt_of_cell? wr _ z0)).trans z0, (hx.cell (World.block_lt_of_cell? wr _ z1)).trans z1⟩)
      obtain ⟨L, hL⟩ : ∃ L, L = putSL L0 a (XS.take i) := ⟨_, rfl⟩
      have HL := Lib.hid hL
      rw [← hL] at HR
      clear hx hL z0 z1
      obtain ⟨x1, x2⟩ := x
      simp only at HZZ
      obtain ⟨ka, hka⟩ : ∃ ka, ka = kAt x1 L := ⟨_, rfl⟩
      have HKA := Lib.hid hka
      have hkan : ka ≤ n := by rw [hka, ← HR.out.len]; exact kAt_le _ _
      clear hka
      go_wp2_with fail
      go_loopw [17] (fun s17 wz => ∃ k : Nat, k ≤ ka ∧ s17 = .int .i64 k ∧ Hid (Ext wr wz)) (fun i _ => ka - (RowKit.intOf i).toNat)
      case atStart => exact ⟨0, by omega, rfl, Lib.hid (Ext.refl _)⟩
      case round =>
        obtain ⟨k, hk, rfl, HE⟩ := hrel
        obtain ⟨z0, z1⟩ := HZZ.out _ HE.out
        by_cases hkk : k < ka
        · have hkn : k < n := by omega
          obtain ⟨ob, oo, bk, rfl, hbk, hrg⟩ := enc_src rbc_len (by decide) ((HR.out.made.row.src (rbs_one _)).ext HE.out) hkn
          have q0 : wr.cell? ⟨ob, oo + k * 19, none⟩ = some (.int .i64 bk.lo) := hrg 0 _ rfl
          have hlo : bk.lo < x1 := kAt_lt (L := L) (i := k) (by rw [← HKA.out]; exact hkk) hbk
          have hd1 : decide (bk.lo < x1) = true := by simp; omega
          clear hbk hrg z1
          go_wp2_with fail
          refine wp_region_split_lit [] [0, 1, 2, 3, 4, 5, 6, 7, 8, 9, 10, 11, 12, 13, 14, 15, 16] [] (by kernel_rfl) (by kernel_rfl) (fun _ _ dd _ _ hh => by cases dd <;> exact hh) ?_
          simp only [pickOps, List.getElem?_cons_succ, List.getElem?_cons_zero]
          refine wpQuiet_nil ?_
          repeat (go_big_quiet_step (fail))
          refine wpQuiet_nil ?_
          intro w7 hw'
          have HX7 : Hid (Ext wr w7) := Lib.hid (by obtain ⟨k, rfl⟩ := hw'; exact Ext.drewN _ _)
          clear hw'
          go_wp2_with fail
          exact ⟨⟨k + 1, by omega, by go_num, Lib.hid (HE.out.trans HX7.out)⟩, by simp [RowKit.intOf]; omega⟩
        · obtain rfl : k = ka := by omega
          have HPE := Lib.hid (HR.out.ext HE.out)
          rcases Nat.lt_or_ge k n with hkn | hkn
          · obtain ⟨ob, oo, bk, rfl, hbk, hrg⟩ := enc_src rbc_len (by decide) (HPE.out.made.row.src (rbs_one _)) hkn
            have q0 : wr.cell? ⟨ob, oo + k * 19, none⟩ = some (.int .i64 bk.lo) := hrg 0 _ rfl
            have hlo : ¬ bk.lo < x1 := kAt_ge (L := L) (z := x1) (by rw [← HKA.out]; exact hbk)
            have hd1 : decide (bk.lo < x1) = false := by simp; omega
            have hkne : ((k : Int) == (n : Int)) = false := by simp; omega
            have HBK := Lib.hid hbk
            clear hbk hrg
            go_wp2_with fail
            refine wp_region_split_lit [] [0, 1, 2, 3, 4, 5, 6, 7, 8, 9, 10, 11, 12, 13, 14, 15, 16] [] (by kernel_rfl) (by kernel_rfl) (fun _ _ dd _ _ hh => by cases dd <;> exact hh) ?_
            simp only [pickOps, List.getElem?_cons_succ, List.getElem?_cons_zero]
            refine wpQuiet_nil ?_
            repeat (go_big_quiet_step (fail))
            refine wpQuiet_nil ?_
            intro w7 hw'
            have HX7 : Hid (Ext wr w7) := Lib.hid (by obtain ⟨k, rfl⟩ := hw'; exact Ext.drewN _ _)
            have q1 : w7.cell? ⟨ob, oo + k * 19, none⟩ = some (.int .i64 bk.lo) := by obtain ⟨k, rfl⟩ := hw'; exact q0
            have y0 : w7.cell? ⟨sb, so + i * 2, none⟩ = some (.int .i64 x1) := by obtain ⟨k, rfl⟩ := hw'; exact z0
            clear hw' q0 z0 z1 hd1
            by_cases hlx : bk.lo = x1
            · rw [hlx] at q1
              go_wp2_with fail
              refine wp_region_split_lit [] [0, 1, 2, 3, 4, 5, 6, 7, 8, 9, 10, 11, 12, 13, 14, 15, 16] [] (by kernel_rfl) (by kernel_rfl) (fun _ _ dd _ _ hh => by cases dd <;> exact hh) ?_
              simp only [pickOps, List.getElem?_cons_succ, List.getElem?_cons_zero]
              refine wpQuiet_nil ?_
              repeat (go_big_quiet_step (fail))
              refine wpQuiet_nil ?_
              intro w8 hw'
              have HX8 : Hid (Ext wr w8) := Lib.hid (by obtain ⟨k, rfl⟩ := hw'; exact HX7.out.trans (Ext.drewN _ _))
              clear hw' q1 y0
              go_wp2_with fail
              have HTL : Hid (∃ bk, L[k]? = some bk ∧ putB a (x1, x2) L = L.set k ⟨bk.lo, bk.hi, agM bk.a a⟩ ∧ bk.a.bnd (K + i * A) ∧ PuR w0 w1 (.slice a0 n0 c0) L (some ⟨ob, oo, none⟩) n vc w8) := Lib.hid ⟨bk, HBK.out, by have h1 := HKA.out; have h2 := putB_old (a := a) (x := (x1, x2)) (L := L) (b := bk) (by rw [← h1]; exact HBK.out) hlx; rw [← h1] at h2; exact h2, by
                have h1 := putSL_bnd HM.out.2.1 (XS.take i) L0 K HM.out.1 bk (by rw [← HL.out]; exact List.mem_of_getElem? HBK.out)
                have h2 : (XS.take i).length = i := by rw [List.length_take]; have := HLN0.out; omega
                rw [h2] at h1
                exact h1, HPE.out.ext HX8.out⟩
              obtain ⟨bk, t1, t2, t3, t4⟩ := HTL.out
              have HBKT := Lib.hid t1
              have HPBT := Lib.hid t2
              have HBDT := Lib.hid t3
              have HPUT := Lib.hid t4
              clear t1 t2 t3 t4 HTL
              try simp only [Act.put]
              obtain ⟨ob2, oo2, bk2, heq, hb2, hrg⟩ := enc_src rbc_len (by decide) (HPUT.out.made.row.src (rbs_one _)) (show k < n by omega)
              simp only [Option.some.injEq, Addr.mk.injEq, and_true] at heq
              obtain ⟨rfl, rfl⟩ := heq
              rw [HBKT.out] at hb2
              cases hb2
              have HRGT := Lib.hid hrg
              clear hrg
              have HBA : Hid (w8.heap[w.heap.size]? = some (.cells AC 66 (0, 0))) := Lib.hid ((HPUT.out.chg.block _ (block_lt HB1.out) (fun e => by have := HVL.out _ e; omega)).trans HB1.out)
              have HIA : Hid ((Try.prog.info? 66).map (·.size) = some AC.size) := Lib.hid (by rw [HA.out]; exact ar_info)
              have f0 : ∀ (d : Nat) (f : Nat → Obj) (os : Array Obj), (Instr.loadAt 66 (.pointer (some ⟨ob, oo + k * 19 + 2, none⟩))).run Try.prog (turned w8 (fun _ => false) d f os) = .ok (.agg (agR bk.a)) (turned w8 (fun _ => false) d f os) := fun d f os => by
                have h1 := run_loadAt_mid (P := Try.prog) (turned w8 (fun _ => false) d f os) ob (oo + k * 19 + 2) 66 (agR bk.a).toList _ (fun i u hu => by
                  have h2 := HRGT.out (2 + i) u (by rw [Nat.add_comm]; exact hu)
                  have h3 := cell_turned (T := fun _ => false) h2 rfl d f os
                  rw [← Nat.add_assoc] at h3
                  exact h3) Try.underlying66 rfl ar_info
                simpa using h1
              have f1 := fun (d : Nat) (f : Nat → Obj) (os : Array Obj) => load_box_turned (P := Try.prog) (ty := 66) HBA.out (T := fun _ => false) rfl Try.underlying66 rfl HIA.out d f os
              obtain ⟨R, hR⟩ : ∃ R : Array Value, R = agR (agM bk.a a) := ⟨_, rfl⟩
              have HR' := Lib.hid hR
              have HCALL : Hid (∀ W, Calls Try.prog 25 #[.agg (agR bk.a), .agg AC] W fun e w' => e = .returned (.tuple #[.agg R, .int .i64 0]) ∧ Ext W w') := Lib.hid (fun W => by
                obtain ⟨m1, m2, m3, m4, m5, m6⟩ := HM.out
                have hg1 := HBDT.out
                have hi64 : i * A ≤ 64 * A := Nat.mul_le_mul_right _ (by omega)
                have hg2 : bk.a.bnd (K + 64 * A) := hg1.mono (by omega)
                have ha2 : a.bnd (K + 64 * A) := m2.mono (by omega)
                rw [hR, HA.out]
                refine rMerge_any bk.a a W (bnd_fine hg2 m4) (bnd_fine ha2 m4) m3 ?_
                unfold Ag.bnd at hg2 ha2
                unfold sumOk
                omega)
              clear hR
              have HIR : Hid ((Try.prog.info? 66).map (·.size) = some R.size ∧ R.all (·.oneCell') = true ∧ R.size = 17) := Lib.hid ⟨by rw [HR'.out]; exact ar_info, by rw [HR'.out]; simp [agR, Value.oneCell'], by rw [HR'.out]; rfl⟩
              refine wp_region_plan 12 (fun w' => ∃ p : Turned, w' = turned w8 (fun _ => false) p.d p.f p.os) (.reads [0, 1, 2, 3, 4, 5] (.two 6 (.reads [7, 8, 9] (.one 10 (.one 11 (.one 12 .done)))) 10 (.one 6 (.reads [7, 8, 9] (.one 11 (.one 12 .done)))))) (by kernel_rfl) (by kernel_rfl) (fun _ _ dd _ _ hh => by cases dd <;> exact hh) ?_ ?_
              · exact turned_of_ext (Ext.drewN w8 1)
              refine wpPlan_reads ?_
              simp only [pickOps, List.getElem?_cons_succ, List.getElem?_cons_zero]
              repeat (first | (refine wpQuiet_load_box rfl _ _ rfl _ _ rfl (fun w hw => by obtain ⟨p, rfl⟩ := hw; exact f0 p.d p.f p.os) ?_) | (refine wpQuiet_load_box rfl _ _ rfl _ _ rfl (fun w hw => by obtain ⟨p, rfl⟩ := hw; exact f1 p.d p.f p.os) ?_) | (go_big_quiet_step (fail)))
              refine wpQuiet_nil ?_
              clear f0 f1
              refine wpPlan_two ?goA ?goB
              case' goA =>
                simp only [pickOps, List.getElem?_cons_succ, List.getElem?_cons_zero]
                go_wp2_with fail
                refine (HCALL.out _).mono ?_
                rintro e w4 ⟨rfl, hx4⟩
                have HX4 := Lib.hid ((Ext.drewN w8 1).trans hx4)
                clear hx4
                go_wp2_with fail
                refine thenX_mk (turned_of_ext HX4.out) (wpPlan_reads ?_)
                simp only [pickOps, List.getElem?_cons_succ, List.getElem?_cons_zero]
                repeat (go_big_quiet_step (fail))
                refine wpQuiet_nil ?_
                refine wpPlan_one ?_
                simp only [pickOps, List.getElem?_cons_succ, List.getElem?_cons_zero]
                go_wp2_with fail
                refine thenX_mk (turned_of_ext (HX4.out.alloc _)) (wpPlan_one ?_)
                simp only [pickOps, List.getElem?_cons_succ, List.getElem?_cons_zero]
                obtain ⟨bx, hbx⟩ : ∃ bx, bx = w4.heap.size := ⟨_, rfl⟩
                have HB4 := Lib.hid (heap_alloc_new w4 (.cells #[.int .i64 0, .int .i64 0, .int .i64 0, .int .i64 0, .int .i64 0, .int .i64 0, .int .i64 0, .int .i64 0, .int .i64 0, .int .i64 0, .int .i64 0, .int .i64 0, .int .i64 0, .int .i64 0, .int .i64 0, .int .i64 0, .int .i64 0] 66 (0, 0)))
                have HX5 : Hid (Ext w8 (w4.alloc (.cells #[.int .i64 0, .int .i64 0, .int .i64 0, .int .i64 0, .int .i64 0, .int .i64 0, .int .i64 0, .int .i64 0, .int .i64 0, .int .i64 0, .int .i64 0, .int .i64 0, .int .i64 0, .int .i64 0, .int .i64 0, .int .i64 0, .int .i64 0] 66 (0, 0)))) := Lib.hid (HX4.out.alloc _)
                have HBX : Hid (w8.heap.size ≤ bx) := Lib.hid (by rw [hbx]; exact HX4.out.size)
                rw [← hbx] at HB4
                rw [← hbx]
                generalize w4.alloc (.cells #[.int .i64 0, .int .i64 0, .int .i64 0, .int .i64 0, .int .i64 0, .int .i64 0, .int .i64 0, .int .i64 0, .int .i64 0, .int .i64 0, .int .i64 0, .int .i64 0, .int .i64 0, .int .i64 0, .int .i64 0, .int .i64 0, .int .i64 0] 66 (0, 0)) = w5 at *
                clear HX4 hbx
              case' goB =>
                simp only [pickOps, List.getElem?_cons_succ, List.getElem?_cons_zero]
                go_wp2_with fail
                obtain ⟨bx, hbx⟩ : ∃ bx, bx = w8.heap.size := ⟨_, rfl⟩
                refine thenX_mk (turned_of_ext ((Ext.drewN w8 1).alloc _)) (wpPlan_one ?_)
                simp only [pickOps, List.getElem?_cons_succ, List.getElem?_cons_zero]
                go_wp2_with fail
                refine (HCALL.out _).mono ?_
                rintro e w5 ⟨rfl, hx4⟩
                have HX5 : Hid (Ext w8 w5) := Lib.hid (((Ext.drewN w8 1).alloc _).trans hx4)
                have HBX : Hid (w8.heap.size ≤ bx) := Lib.hid (by rw [hbx]; exact Nat.le_refl _)
                have HB4 : Hid (w5.heap[bx]? = some (.cells #[.int .i64 0, .int .i64 0, .int .i64 0, .int .i64 0, .int .i64 0, .int .i64 0, .int .i64 0, .int .i64 0, .int .i64 0, .int .i64 0, .int .i64 0, .int .i64 0, .int .i64 0, .int .i64 0, .int .i64 0, .int .i64 0, .int .i64 0] 66 (0, 0))) := Lib.hid (by
                  rw [hbx]
                  have h0 := heap_alloc_new (w8.drewN 1) (.cells #[.int .i64 0, .int .i64 0, .int .i64 0, .int .i64 0, .int .i64 0, .int .i64 0, .int .i64 0, .int .i64 0, .int .i64 0, .int .i64 0, .int .i64 0, .int .i64 0, .int .i64 0, .int .i64 0, .int .i64 0, .int .i64 0, .int .i64 0] 66 (0, 0))
                  exact (hx4.block (block_lt h0)).trans h0)
                clear hx4
                go_wp2_with fail
                refine thenX_mk (turned_of_ext HX5.out) (wpPlan_reads ?_)
                simp only [pickOps, List.getElem?_cons_succ, List.getElem?_cons_zero]
                repeat (go_big_quiet_step (fail))
                refine wpQuiet_nil ?_
                refine wpPlan_one ?_
                simp only [pickOps, List.getElem?_cons_succ, List.getElem?_cons_zero]
                rw [← hbx]
                clear hbx
              all_goals
                refine wpList_store_box rfl _ _ _ rfl _ _ _ _ rfl rfl HB4.out (by rw [HIR.out.2.2]; rfl) HIR.out.1 HIR.out.2.1 ?_
                rintro w6 hb6 hc6
                have HB6 := Lib.hid hb6
                have HX6 : Hid (Ext w8 w6) := Lib.hid (((Chg.of_ext (S := fun _ => False) HX5.out).trans hc6 (fun i hi e => by have := HBX.out; omega)).ext (fun _ _ e => e))
                clear hb6 hc6 HX5 HB4 HCALL
                go_wp2_with fail
                refine thenX_mk (turned_of_ext HX6.out) (wpPlan_one ?_)
                simp only [pickOps, List.getElem?_cons_succ, List.getElem?_cons_zero]
                go_wp2_with fail
                refine thenX_last (wpPlan_done ?_)
                have HP6 := Lib.hid (HPUT.out.ext HX6.out)
                obtain ⟨old, new, o1, o2, o3, o4⟩ := row_part rbc_len (by decide) HP6.out.made.row (p := ⟨bk.lo, bk.hi, agM bk.a a⟩) HBKT.out 2 R.toList (by rw [Array.length_toList, HIR.out.2.2]; decide) (by rw [HR'.out]; rfl)
                have HO := Lib.hid (And.intro o1 (And.intro o2 (And.intro o3 o4)))
                clear o1 o2 o3 o4
                go_wp2_with (first | (refine wpList_load_box rfl _ _ rfl _ _ _ _ _ rfl HB6.out Try.underlying66 rfl HIR.out.1 ?_) | (refine wpList_store_part rfl _ _ _ rfl ob (oo + k * 19 + 2) old R new _ rfl rfl HO.out.1 (by have := HO.out.2.1; rw [← Nat.add_assoc] at this; simpa using this) (by have := HO.out.2.2.1; rw [← Nat.add_assoc] at this; simpa using this) HIR.out.1 HIR.out.2.1 ?_; rintro wz hb8 hc8; have HZ8 := Lib.hid (And.intro hb8 hc8); clear hb8 hc8))
                have HPF := Lib.hid (HP6.out.write (HO.out.2.2.2 _ HZ8.out.1) (by rw [List.length_set]; exact HPUT.out.len) HZ8.out.2)
                refine ⟨⟨i + 1, n, vc, _, by omega, by go_num, rfl, by omega, Lib.hid ?_⟩, by simp [RowKit.intOf]; omega⟩
                rw [putSL_take HX.out, ← HL.out, HPBT.out]
                exact HPF.out
            · have hd2 : (bk.lo == x1) = false := by simp; omega
              have HLX := Lib.hid hlx
              have hd3 : (bk.lo != x1) = true := by simp; omega
              go_wp2_with fail
              refine wp_region_split_lit [] [0, 1, 2, 3, 4, 5, 6, 7, 8, 9, 10, 11, 12, 13, 14, 15, 16] [] (by kernel_rfl) (by kernel_rfl) (fun _ _ dd _ _ hh => by cases dd <;> exact hh) ?_
              simp only [pickOps, List.getElem?_cons_succ, List.getElem?_cons_zero]
              refine wpQuiet_nil ?_
              repeat (go_big_quiet_step (fail))
              refine wpQuiet_nil ?_
              intro w8 hw'
              have HX8 : Hid (Ext wr w8) := Lib.hid (by obtain ⟨k, rfl⟩ := hw'; exact HX7.out.trans (Ext.drewN _ _))
              clear hw' q1 y0
              have HX8' := Lib.hid (HX8.out.alloc (.cells #[.int .i64 0, .int .i64 0, .int .i64 0, .int .i64 0, .int .i64 0, .int .i64 0, .int .i64 0, .int .i64 0, .int .i64 0, .int .i64 0, .int .i64 0, .int .i64 0, .int .i64 0, .int .i64 0, .int .i64 0, .int .i64 0, .int .i64 0, .int .i64 0, .int .i64 0] 80 (0, 0)))
              have HNE : Hid (∀ b, L[kAt x1 L]? = some b → b.lo ≠ x1) := Lib.hid (by
                intro b hb
                rw [← HKA.out] at hb
                rw [HBK.out] at hb
                cases hb
                exact HLX.out)
              go_wp2_with (first | (refine wpList_append_to elem_rbk rfl _ _ rfl rfl rfl (((HPE.out.made.row).ext HX8.out).alloc _) (enc_one (p := (⟨0, 0, Ag.zero⟩ : Bk)) (enc := rbc) (heap_alloc_new w8 _) (by simp [rbc, agR, Ag.zero]) rfl (rbc_one _)) (by unfold maxLen; omega) (by omega) ?_; rintro v' w9 ha; obtain ⟨va', vc', rfl⟩ := ha.row.shape; have HA9 := Lib.hid ha; clear ha))
              have HP9 : Hid (PuR w0 w1 (.slice a0 n0 c0) (L ++ [⟨0, 0, Ag.zero⟩]) va' (n + 1) vc' w9) := Lib.hid ((HPE.out.ext HX8'.out).append (by have h1 := HPE.out.chg.size; have h2 := HX8'.out.size; omega) HA9.out rfl)
              have hLn : L.length = n := HPE.out.len
              have HLn := Lib.hid hLn
              clear hLn
              have HX9 : Hid (w1.heap.size ≤ w9.heap.size) := Lib.hid HP9.out.chg.size
              go_loopw [18] (fun s18 wz => ∃ (j : Nat) (sx : Bk), k ≤ j ∧ j ≤ n ∧ s18 = .int .i64 j ∧ Hid (PuR w0 w1 (.slice a0 n0 c0) (L.take j ++ sx :: L.drop j) va' (n + 1) vc' wz)) (fun i _ => (RowKit.intOf i).toNat)
              case atStart =>
                refine ⟨n, ⟨0, 0, Ag.zero⟩, by omega, by omega, by go_num, Lib.hid ?_⟩
                have h := HP9.out
                rw [List.take_of_length_le (by have := HLn.out; omega), List.drop_of_length_le (by have := HLn.out; omega)]
                exact h
              case round =>
                obtain ⟨j, sx, hj1, hj2, rfl, HJ⟩ := hrel
                rcases Nat.lt_or_ge k j with hjk | hjk
                · obtain ⟨p, rfl⟩ : ∃ p, j = p + 1 := ⟨j - 1, by omega⟩
                  have hpn : p < n + 1 := by omega
                  obtain ⟨qb, qo, b, rfl, hb, hrg⟩ := enc_src rbc_len (by decide) (HJ.out.made.row.src (rbs_one _)) hpn
                  have hb2 : L[p]? = some b := by rw [get_below (by omega) (by have := HLn.out; omega)] at hb; exact hb
                  have hat := get_at (L := L) (k := p + 1) (st := sx) (by have := HLn.out; omega)
                  obtain ⟨old, new, o1, o2, o3, o4⟩ := row_part rbc_len (by decide) HJ.out.made.row (p := b) hat 0 (rbc b) (by simp [rbc_len]) (by simp [rbc_len])
                  rw [shift_step hb2] at o4
                  have HO := Lib.hid (And.intro o1 (And.intro o2 (And.intro o3 o4)))
                  have HRG := Lib.hid hrg
                  have HB2 := Lib.hid hb2
                  have hjp : ((p + 1 : Nat) : Int) - 1 = (p : Int) := by omega
                  obtain ⟨j, hj⟩ : ∃ j, j = p + 1 := ⟨_, rfl⟩
                  rw [← hj] at hjp hj1 hj2 hjk HO ⊢
                  have HJP := Lib.hid hj
                  clear o1 o2 o3 o4 hat hb hb2 hrg hj
                  go_wp2_with (first | (refine wpList_load_mid rfl _ _ rfl qb (qo + p * 19) rfl (rbc b) _ HRG.out Try.underlying80 rfl rb_info ?_) | (refine wpList_store_part rfl _ _ _ rfl qb (qo + j * 19) old (rbc b).toArray new _ rfl rfl HO.out.1 (by have := HO.out.2.1; simpa using this) (by have := HO.out.2.2.1; simpa using this) rb_info (rbc_all b) ?_; rintro wy hb4 hc4; have HY4 := Lib.hid (And.intro hb4 hc4); clear hb4 hc4))
                  have HJY := Lib.hid (HJ.out.write (HO.out.2.2.2 _ HY4.out.1) (by rw [len_at (by have := HLn.out; omega)]; rw [HLn.out]) HY4.out.2)
                  exact ⟨⟨p, b, by have := HJP.out; omega, by have := HJP.out; omega, by first | rfl | (rw [← hjp]) | (rw [hjp]), HJY⟩, by have := HJP.out; simp [RowKit.intOf]; omega⟩
                · obtain rfl : j = k := by omega
                  obtain ⟨sb', so', x', hsx, hx', y0, y1⟩ := sps_src (HSr.out _ HJ.out.chg) hlt
                  simp only [Option.some.injEq, Addr.mk.injEq, and_true] at hsx
                  obtain ⟨rfl, rfl⟩ := hsx
                  rw [HX.out] at hx'
                  cases hx'
                  simp only at y0 y1
                  have hjl : j ≤ L.length := by rw [HLn.out]; omega
                  obtain ⟨qb, qo, b, rfl, hb, hrg⟩ := enc_src rbc_len (by decide) (HJ.out.made.row.src (rbs_one _)) (show j < n + 1 by omega)
                  have HN19 : Hid (rbc ⟨x1, x2, Ag.zero⟩ = (#[.int .i64 x1, .int .i64 x2, .int .i64 0, .int .i64 0, .int .i64 0, .int .i64 0, .int .i64 0, .int .i64 0, .int .i64 0, .int .i64 0, .int .i64 0, .int .i64 0, .int .i64 0, .int .i64 0, .int .i64 0, .int .i64 0, .int .i64 0, .int .i64 0, .int .i64 0] : Array Value).toList) := Lib.hid (by simp [rbc, agR, Ag.zero])
                  obtain ⟨old, new, o1, o2, o3, o4⟩ := row_part rbc_len (by decide) HJ.out.made.row (p := ⟨x1, x2, Ag.zero⟩) (get_at hjl) 0 (rbc ⟨x1, x2, Ag.zero⟩) (by simp [rbc_len]) (by simp [rbc_len])
                  rw [set_at hjl] at o4
                  rw [HN19.out] at o2 o3
                  have HO := Lib.hid (And.intro o1 (And.intro o2 (And.intro o3 o4)))
                  clear o1 o2 o3 o4 hb hrg
                  go_wp2_with fail
                  refine wp_region_split_lit [] [0, 1, 2, 3, 4, 5, 6, 7, 8, 9, 10, 11, 12, 13] [14] (by kernel_rfl) (by kernel_rfl) (fun _ _ dd _ _ hh => by cases dd <;> exact hh) ?_
                  simp only [pickOps, List.getElem?_cons_succ, List.getElem?_cons_zero]
                  refine wpQuiet_nil ?_
                  repeat (go_big_quiet_step (fail))
                  refine wpQuiet_nil ?_
                  intro wd8 hw'
                  obtain ⟨y, rfl⟩ := hw'
                  clear y0 y1
                  go_wp2_with (refine wpList_store_part rfl _ _ _ rfl qb (qo + j * 19) old #[.int .i64 x1, .int .i64 x2, .int .i64 0, .int .i64 0, .int .i64 0, .int .i64 0, .int .i64 0, .int .i64 0, .int .i64 0, .int .i64 0, .int .i64 0, .int .i64 0, .int .i64 0, .int .i64 0, .int .i64 0, .int .i64 0, .int .i64 0, .int .i64 0, .int .i64 0] new _ rfl rfl HO.out.1 (by have := HO.out.2.1; simpa using this) (by have := HO.out.2.2.1; simpa using this) rb_info (by simp [Value.oneCell']) ?_; rintro wy hb4 hc4; have HY4 := Lib.hid (And.intro hb4 hc4); clear hb4 hc4)
                  have HPT := Lib.hid ((HJ.out.ext (Ext.drewN _ y)).write (HO.out.2.2.2 _ HY4.out.1) (by rw [len_at hjl, HLn.out]) HY4.out.2)
                  have HBT : Hid ((L.take j ++ (⟨x1, x2, Ag.zero⟩ : Bk) :: L.drop j)[j]? = some ⟨x1, x2, Ag.zero⟩) := Lib.hid (get_at hjl)
                  have HPB : Hid (putB a (x1, x2) L = (L.take j ++ (⟨x1, x2, Ag.zero⟩ : Bk) :: L.drop j).set j ⟨x1, x2, agM Ag.zero a⟩) := Lib.hid (by rw [set_at hjl, putB_new (x := (x1, x2)) HNE.out, ← HKA.out])
                  have HTL : Hid (∃ bk, (L.take j ++ (⟨x1, x2, Ag.zero⟩ : Bk) :: L.drop j)[j]? = some bk ∧ putB a (x1, x2) L = (L.take j ++ (⟨x1, x2, Ag.zero⟩ : Bk) :: L.drop j).set j ⟨bk.lo, bk.hi, agM bk.a a⟩ ∧ bk.a.bnd (K + i * A) ∧ PuR w0 w1 (.slice a0 n0 c0) (L.take j ++ (⟨x1, x2, Ag.zero⟩ : Bk) :: L.drop j) (some ⟨qb, qo, none⟩) (n + 1) vc' wy) := Lib.hid ⟨_, HBT.out, HPB.out, zero_bnd _, HPT.out⟩
                  clear HBT HPB HPT HO HY4
                  obtain ⟨bk, t1, t2, t3, t4⟩ := HTL.out
                  have HBKT := Lib.hid t1
                  have HPBT := Lib.hid t2
                  have HBDT := Lib.hid t3
                  have HPUT := Lib.hid t4
                  clear t1 t2 t3 t4 HTL
                  try simp only [Act.put]
                  obtain ⟨ob2, oo2, bk2, heq, hb2, hrg⟩ := enc_src rbc_len (by decide) (HPUT.out.made.row.src (rbs_one _)) (show j < (n + 1) by omega)
                  simp only [Option.some.injEq, Addr.mk.injEq, and_true] at heq
                  obtain ⟨rfl, rfl⟩ := heq
                  rw [HBKT.out] at hb2
                  cases hb2
                  have HRGT := Lib.hid hrg
                  clear hrg
                  have HBA : Hid (wy.heap[w.heap.size]? = some (.cells AC 66 (0, 0))) := Lib.hid ((HPUT.out.chg.block _ (block_lt HB1.out) (fun e => by have := HVL.out _ e; omega)).trans HB1.out)
                  have HIA : Hid ((Try.prog.info? 66).map (·.size) = some AC.size) := Lib.hid (by rw [HA.out]; exact ar_info)
                  have f0 : ∀ (d : Nat) (f : Nat → Obj) (os : Array Obj), (Instr.loadAt 66 (.pointer (some ⟨qb, qo + j * 19 + 2, none⟩))).run Try.prog (turned wy (fun _ => false) d f os) = .ok (.agg (agR bk.a)) (turned wy (fun _ => false) d f os) := fun d f os => by
                    have h1 := run_loadAt_mid (P := Try.prog) (turned wy (fun _ => false) d f os) qb (qo + j * 19 + 2) 66 (agR bk.a).toList _ (fun i u hu => by
                      have h2 := HRGT.out (2 + i) u (by rw [Nat.add_comm]; exact hu)
                      have h3 := cell_turned (T := fun _ => false) h2 rfl d f os
                      rw [← Nat.add_assoc] at h3
                      exact h3) Try.underlying66 rfl ar_info
                    simpa using h1
                  have f1 := fun (d : Nat) (f : Nat → Obj) (os : Array Obj) => load_box_turned (P := Try.prog) (ty := 66) HBA.out (T := fun _ => false) rfl Try.underlying66 rfl HIA.out d f os
                  obtain ⟨R, hR⟩ : ∃ R : Array Value, R = agR (agM bk.a a) := ⟨_, rfl⟩
                  have HR' := Lib.hid hR
                  have HCALL : Hid (∀ W, Calls Try.prog 25 #[.agg (agR bk.a), .agg AC] W fun e w' => e = .returned (.tuple #[.agg R, .int .i64 0]) ∧ Ext W w') := Lib.hid (fun W => by
                    obtain ⟨m1, m2, m3, m4, m5, m6⟩ := HM.out
                    have hg1 := HBDT.out
                    have hi64 : i * A ≤ 64 * A := Nat.mul_le_mul_right _ (by omega)
                    have hg2 : bk.a.bnd (K + 64 * A) := hg1.mono (by omega)
                    have ha2 : a.bnd (K + 64 * A) := m2.mono (by omega)
                    rw [hR, HA.out]
                    refine rMerge_any bk.a a W (bnd_fine hg2 m4) (bnd_fine ha2 m4) m3 ?_
                    unfold Ag.bnd at hg2 ha2
                    unfold sumOk
                    omega)
                  clear hR
                  have HIR : Hid ((Try.prog.info? 66).map (·.size) = some R.size ∧ R.all (·.oneCell') = true ∧ R.size = 17) := Lib.hid ⟨by rw [HR'.out]; exact ar_info, by rw [HR'.out]; simp [agR, Value.oneCell'], by rw [HR'.out]; rfl⟩
                  refine wp_region_plan 12 (fun w' => ∃ p : Turned, w' = turned wy (fun _ => false) p.d p.f p.os) (.reads [0, 1, 2, 3, 4, 5] (.two 6 (.reads [7, 8, 9] (.one 10 (.one 11 (.one 12 .done)))) 10 (.one 6 (.reads [7, 8, 9] (.one 11 (.one 12 .done)))))) (by kernel_rfl) (by kernel_rfl) (fun _ _ dd _ _ hh => by cases dd <;> exact hh) ?_ ?_
                  · exact turned_of_ext (Ext.drewN wy 1)
                  refine wpPlan_reads ?_
                  simp only [pickOps, List.getElem?_cons_succ, List.getElem?_cons_zero]
                  repeat (first | (refine wpQuiet_load_box rfl _ _ rfl _ _ rfl (fun w hw => by obtain ⟨p, rfl⟩ := hw; exact f0 p.d p.f p.os) ?_) | (refine wpQuiet_load_box rfl _ _ rfl _ _ rfl (fun w hw => by obtain ⟨p, rfl⟩ := hw; exact f1 p.d p.f p.os) ?_) | (go_big_quiet_step (fail)))
                  refine wpQuiet_nil ?_
                  clear f0 f1
                  refine wpPlan_two ?goA2 ?goB2
                  case' goA2 =>
                    simp only [pickOps, List.getElem?_cons_succ, List.getElem?_cons_zero]
                    go_wp2_with fail
                    refine (HCALL.out _).mono ?_
                    rintro e w4 ⟨rfl, hx4⟩
                    have HX4 := Lib.hid ((Ext.drewN wy 1).trans hx4)
                    clear hx4
                    go_wp2_with fail
                    refine thenX_mk (turned_of_ext HX4.out) (wpPlan_reads ?_)
                    simp only [pickOps, List.getElem?_cons_succ, List.getElem?_cons_zero]
                    repeat (go_big_quiet_step (fail))
                    refine wpQuiet_nil ?_
                    refine wpPlan_one ?_
                    simp only [pickOps, List.getElem?_cons_succ, List.getElem?_cons_zero]
                    go_wp2_with fail
                    refine thenX_mk (turned_of_ext (HX4.out.alloc _)) (wpPlan_one ?_)
                    simp only [pickOps, List.getElem?_cons_succ, List.getElem?_cons_zero]
                    obtain ⟨bx, hbx⟩ : ∃ bx, bx = w4.heap.size := ⟨_, rfl⟩
                    have HB4 := Lib.hid (heap_alloc_new w4 (.cells #[.int .i64 0, .int .i64 0, .int .i64 0, .int .i64 0, .int .i64 0, .int .i64 0, .int .i64 0, .int .i64 0, .int .i64 0, .int .i64 0, .int .i64 0, .int .i64 0, .int .i64 0, .int .i64 0, .int .i64 0, .int .i64 0, .int .i64 0] 66 (0, 0)))
                    have HX5 : Hid (Ext wy (w4.alloc (.cells #[.int .i64 0, .int .i64 0, .int .i64 0, .int .i64 0, .int .i64 0, .int .i64 0, .int .i64 0, .int .i64 0, .int .i64 0, .int .i64 0, .int .i64 0, .int .i64 0, .int .i64 0, .int .i64 0, .int .i64 0, .int .i64 0, .int .i64 0] 66 (0, 0)))) := Lib.hid (HX4.out.alloc _)
                    have HBX : Hid (wy.heap.size ≤ bx) := Lib.hid (by rw [hbx]; exact HX4.out.size)
                    rw [← hbx] at HB4
                    rw [← hbx]
                    generalize w4.alloc (.cells #[.int .i64 0, .int .i64 0, .int .i64 0, .int .i64 0, .int .i64 0, .int .i64 0, .int .i64 0, .int .i64 0, .int .i64 0, .int .i64 0, .int .i64 0, .int .i64 0, .int .i64 0, .int .i64 0, .int .i64 0, .int .i64 0, .int .i64 0] 66 (0, 0)) = w5 at *
                    clear HX4 hbx
                  case' goB2 =>
                    simp only [pickOps, List.getElem?_cons_succ, List.getElem?_cons_zero]
                    go_wp2_with fail
                    obtain ⟨bx, hbx⟩ : ∃ bx, bx = wy.heap.size := ⟨_, rfl⟩
                    refine thenX_mk (turned_of_ext ((Ext.drewN wy 1).alloc _)) (wpPlan_one ?_)
                    simp only [pickOps, List.getElem?_cons_succ, List.getElem?_cons_zero]
                    go_wp2_with fail
                    refine (HCALL.out _).mono ?_
                    rintro e w5 ⟨rfl, hx4⟩
                    have HX5 : Hid (Ext wy w5) := Lib.hid (((Ext.drewN wy 1).alloc _).trans hx4)
                    have HBX : Hid (wy.heap.size ≤ bx) := Lib.hid (by rw [hbx]; exact Nat.le_refl _)
                    have HB4 : Hid (w5.heap[bx]? = some (.cells #[.int .i64 0, .int .i64 0, .int .i64 0, .int .i64 0, .int .i64 0, .int .i64 0, .int .i64 0, .int .i64 0, .int .i64 0, .int .i64 0, .int .i64 0, .int .i64 0, .int .i64 0, .int .i64 0, .int .i64 0, .int .i64 0, .int .i64 0] 66 (0, 0))) := Lib.hid (by
                      rw [hbx]
                      have h0 := heap_alloc_new (wy.drewN 1) (.cells #[.int .i64 0, .int .i64 0, .int .i64 0, .int .i64 0, .int .i64 0, .int .i64 0, .int .i64 0, .int .i64 0, .int .i64 0, .int .i64 0, .int .i64 0, .int .i64 0, .int .i64 0, .int .i64 0, .int .i64 0, .int .i64 0, .int .i64 0] 66 (0, 0))
                      exact (hx4.block (block_lt h0)).trans h0)
                    clear hx4
                    go_wp2_with fail
                    refine thenX_mk (turned_of_ext HX5.out) (wpPlan_reads ?_)
                    simp only [pickOps, List.getElem?_cons_succ, List.getElem?_cons_zero]
                    repeat (go_big_quiet_step (fail))
                    refine wpQuiet_nil ?_
                    refine wpPlan_one ?_
                    simp only [pickOps, List.getElem?_cons_succ, List.getElem?_cons_zero]
                    rw [← hbx]
                    clear hbx
                  all_goals
                    refine wpList_store_box rfl _ _ _ rfl _ _ _ _ rfl rfl HB4.out (by rw [HIR.out.2.2]; rfl) HIR.out.1 HIR.out.2.1 ?_
                    rintro w6 hb6 hc6
                    have HB6 := Lib.hid hb6
                    have HX6 : Hid (Ext wy w6) := Lib.hid (((Chg.of_ext (S := fun _ => False) HX5.out).trans hc6 (fun i hi e => by have := HBX.out; omega)).ext (fun _ _ e => e))
                    clear hb6 hc6 HX5 HB4 HCALL
                    go_wp2_with fail
                    refine thenX_mk (turned_of_ext HX6.out) (wpPlan_one ?_)
                    simp only [pickOps, List.getElem?_cons_succ, List.getElem?_cons_zero]
                    go_wp2_with fail
                    refine thenX_last (wpPlan_done ?_)
                    have HP6 := Lib.hid (HPUT.out.ext HX6.out)
                    obtain ⟨old, new, o1, o2, o3, o4⟩ := row_part rbc_len (by decide) HP6.out.made.row (p := ⟨bk.lo, bk.hi, agM bk.a a⟩) HBKT.out 2 R.toList (by rw [Array.length_toList, HIR.out.2.2]; decide) (by rw [HR'.out]; rfl)
                    have HO := Lib.hid (And.intro o1 (And.intro o2 (And.intro o3 o4)))
                    clear o1 o2 o3 o4
                    go_wp2_with (first | (refine wpList_load_box rfl _ _ rfl _ _ _ _ _ rfl HB6.out Try.underlying66 rfl HIR.out.1 ?_) | (refine wpList_store_part rfl _ _ _ rfl qb (qo + j * 19 + 2) old R new _ rfl rfl HO.out.1 (by have := HO.out.2.1; rw [← Nat.add_assoc] at this; simpa using this) (by have := HO.out.2.2.1; rw [← Nat.add_assoc] at this; simpa using this) HIR.out.1 HIR.out.2.1 ?_; rintro wz hb8 hc8; have HZ8 := Lib.hid (And.intro hb8 hc8); clear hb8 hc8))
                    have HPF := Lib.hid (HP6.out.write (HO.out.2.2.2 _ HZ8.out.1) (by rw [List.length_set]; exact HPUT.out.len) HZ8.out.2)
                    refine ⟨⟨i + 1, (n + 1), vc', _, by omega, by go_num, rfl, by omega, Lib.hid ?_⟩, by simp [RowKit.intOf]; omega⟩
                    rw [putSL_take HX.out, ← HL.out, HPBT.out]
                    exact HPF.out
          · obtain rfl : k = n := by omega
            have hkn' : ¬ k < k := by omega
            go_wp2_with fail
            refine wp_region_split_lit [] [0, 1, 2, 3, 4, 5, 6, 7, 8, 9, 10, 11, 12, 13, 14, 15, 16] [] (by kernel_rfl) (by kernel_rfl) (fun _ _ dd _ _ hh => by cases dd <;> exact hh) ?_
            simp only [pickOps, List.getElem?_cons_succ, List.getElem?_cons_zero]
            refine wpQuiet_nil ?_
            repeat (go_big_quiet_step (fail))
            refine wpQuiet_nil ?_
            intro w7 hw'
            have HX7 : Hid (Ext wr w7) := Lib.hid (by obtain ⟨k, rfl⟩ := hw'; exact Ext.drewN _ _)
            clear hw' z0 z1
            go_wp2_with fail
            refine wp_region_split_lit [] [0, 1, 2, 3, 4, 5, 6, 7, 8, 9, 10, 11, 12, 13, 14, 15, 16] [] (by kernel_rfl) (by kernel_rfl) (fun _ _ dd _ _ hh => by cases dd <;> exact hh) ?_
            simp only [pickOps, List.getElem?_cons_succ, List.getElem?_cons_zero]
            refine wpQuiet_nil ?_
            repeat (go_big_quiet_step (fail))
            refine wpQuiet_nil ?_
            intro w8 hw'
            have HX8 : Hid (Ext wr w8) := Lib.hid (by obtain ⟨k, rfl⟩ := hw'; exact HX7.out.trans (Ext.drewN _ _))
            clear hw'
            have HX8' := Lib.hid (HX8.out.alloc (.cells #[.int .i64 0, .int .i64 0, .int .i64 0, .int .i64 0, .int .i64 0, .int .i64 0, .int .i64 0, .int .i64 0, .int .i64 0, .int .i64 0, .int .i64 0, .int .i64 0, .int .i64 0, .int .i64 0, .int .i64 0, .int .i64 0, .int .i64 0, .int .i64 0, .int .i64 0] 80 (0, 0)))
            have HNE : Hid (∀ b, L[kAt x1 L]? = some b → b.lo ≠ x1) := Lib.hid (by
                intro b hb
                rw [← HKA.out] at hb
                have := (List.getElem?_eq_some_iff.1 hb).1
                have := HR.out.len
                omega)
            go_wp2_with (first | (refine wpList_append_to elem_rbk rfl _ _ rfl rfl rfl (((HPE.out.made.row).ext HX8.out).alloc _) (enc_one (p := (⟨0, 0, Ag.zero⟩ : Bk)) (enc := rbc) (heap_alloc_new w8 _) (by simp [rbc, agR, Ag.zero]) rfl (rbc_one _)) (by unfold maxLen; omega) (by omega) ?_; rintro v' w9 ha; obtain ⟨va', vc', rfl⟩ := ha.row.shape; have HA9 := Lib.hid ha; clear ha))
            have HP9 : Hid (PuR w0 w1 (.slice a0 n0 c0) (L ++ [⟨0, 0, Ag.zero⟩]) va' (k + 1) vc' w9) := Lib.hid ((HPE.out.ext HX8'.out).append (by have h1 := HPE.out.chg.size; have h2 := HX8'.out.size; omega) HA9.out rfl)
            have hLn : L.length = k := HPE.out.len
            have HLn := Lib.hid hLn
            clear hLn
            have HX9 : Hid (w1.heap.size ≤ w9.heap.size) := Lib.hid HP9.out.chg.size
            go_loopw [18] (fun s18 wz => ∃ (j : Nat) (sx : Bk), k ≤ j ∧ j ≤ k ∧ s18 = .int .i64 j ∧ Hid (PuR w0 w1 (.slice a0 n0 c0) (L.take j ++ sx :: L.drop j) va' (k + 1) vc' wz)) (fun i _ => (RowKit.intOf i).toNat)
            case atStart =>
              refine ⟨k, ⟨0, 0, Ag.zero⟩, by omega, by omega, by go_num, Lib.hid ?_⟩
              have h := HP9.out
              rw [List.take_of_length_le (by have := HLn.out; omega), List.drop_of_length_le (by have := HLn.out; omega)]
              exact h
            case round =>
              obtain ⟨j, sx, hj1, hj2, rfl, HJ⟩ := hrel
              rcases Nat.lt_or_ge k j with hjk | hjk
              · exfalso; omega
              · obtain rfl : j = k := by omega
                obtain ⟨sb', so', x', hsx, hx', y0, y1⟩ := sps_src (HSr.out _ HJ.out.chg) hlt
                simp only [Option.some.injEq, Addr.mk.injEq, and_true] at hsx
                obtain ⟨rfl, rfl⟩ := hsx
                rw [HX.out] at hx'
                cases hx'
                simp only at y0 y1
                have hjl : j ≤ L.length := by rw [HLn.out]; omega
                obtain ⟨qb, qo, b, rfl, hb, hrg⟩ := enc_src rbc_len (by decide) (HJ.out.made.row.src (rbs_one _)) (show j < j + 1 by omega)
                have HN19 : Hid (rbc ⟨x1, x2, Ag.zero⟩ = (#[.int .i64 x1, .int .i64 x2, .int .i64 0, .int .i64 0, .int .i64 0, .int .i64 0, .int .i64 0, .int .i64 0, .int .i64 0, .int .i64 0, .int .i64 0, .int .i64 0, .int .i64 0, .int .i64 0, .int .i64 0, .int .i64 0, .int .i64 0, .int .i64 0, .int .i64 0] : Array Value).toList) := Lib.hid (by simp [rbc, agR, Ag.zero])
                obtain ⟨old, new, o1, o2, o3, o4⟩ := row_part rbc_len (by decide) HJ.out.made.row (p := ⟨x1, x2, Ag.zero⟩) (get_at hjl) 0 (rbc ⟨x1, x2, Ag.zero⟩) (by simp [rbc_len]) (by simp [rbc_len])
                rw [set_at hjl] at o4
                rw [HN19.out] at o2 o3
                have HO := Lib.hid (And.intro o1 (And.intro o2 (And.intro o3 o4)))
                clear o1 o2 o3 o4 hb hrg
                go_wp2_with fail
                refine wp_region_split_lit [] [0, 1, 2, 3, 4, 5, 6, 7, 8, 9, 10, 11, 12, 13] [14] (by kernel_rfl) (by kernel_rfl) (fun _ _ dd _ _ hh => by cases dd <;> exact hh) ?_
                simp only [pickOps, List.getElem?_cons_succ, List.getElem?_cons_zero]
                refine wpQuiet_nil ?_
                repeat (go_big_quiet_step (fail))
                refine wpQuiet_nil ?_
                intro wd8 hw'
                obtain ⟨y, rfl⟩ := hw'
                clear y0 y1
                go_wp2_with (refine wpList_store_part rfl _ _ _ rfl qb (qo + j * 19) old #[.int .i64 x1, .int .i64 x2, .int .i64 0, .int .i64 0, .int .i64 0, .int .i64 0, .int .i64 0, .int .i64 0, .int .i64 0, .int .i64 0, .int .i64 0, .int .i64 0, .int .i64 0, .int .i64 0, .int .i64 0, .int .i64 0, .int .i64 0, .int .i64 0, .int .i64 0] new _ rfl rfl HO.out.1 (by have := HO.out.2.1; simpa using this) (by have := HO.out.2.2.1; simpa using this) rb_info (by simp [Value.oneCell']) ?_; rintro wy hb4 hc4; have HY4 := Lib.hid (And.intro hb4 hc4); clear hb4 hc4)
                have HPT := Lib.hid ((HJ.out.ext (Ext.drewN _ y)).write (HO.out.2.2.2 _ HY4.out.1) (by rw [len_at hjl, HLn.out]) HY4.out.2)
                have HBT : Hid ((L.take j ++ (⟨x1, x2, Ag.zero⟩ : Bk) :: L.drop j)[j]? = some ⟨x1, x2, Ag.zero⟩) := Lib.hid (get_at hjl)
                have HPB : Hid (putB a (x1, x2) L = (L.take j ++ (⟨x1, x2, Ag.zero⟩ : Bk) :: L.drop j).set j ⟨x1, x2, agM Ag.zero a⟩) := Lib.hid (by rw [set_at hjl, putB_new (x := (x1, x2)) HNE.out, ← HKA.out])
                have HTL : Hid (∃ bk, (L.take j ++ (⟨x1, x2, Ag.zero⟩ : Bk) :: L.drop j)[j]? = some bk ∧ putB a (x1, x2) L = (L.take j ++ (⟨x1, x2, Ag.zero⟩ : Bk) :: L.drop j).set j ⟨bk.lo, bk.hi, agM bk.a a⟩ ∧ bk.a.bnd (K + i * A) ∧ PuR w0 w1 (.slice a0 n0 c0) (L.take j ++ (⟨x1, x2, Ag.zero⟩ : Bk) :: L.drop j) (some ⟨qb, qo, none⟩) (j + 1) vc' wy) := Lib.hid ⟨_, HBT.out, HPB.out, zero_bnd _, HPT.out⟩
                clear HBT HPB HPT HO HY4
                obtain ⟨bk, t1, t2, t3, t4⟩ := HTL.out
                have HBKT := Lib.hid t1
                have HPBT := Lib.hid t2
                have HBDT := Lib.hid t3
                have HPUT := Lib.hid t4
                clear t1 t2 t3 t4 HTL
                try simp only [Act.put]
                obtain ⟨ob2, oo2, bk2, heq, hb2, hrg⟩ := enc_src rbc_len (by decide) (HPUT.out.made.row.src (rbs_one _)) (show j < (j + 1) by omega)
                simp only [Option.some.injEq, Addr.mk.injEq, and_true] at heq
                obtain ⟨rfl, rfl⟩ := heq
                rw [HBKT.out] at hb2
                cases hb2
                have HRGT := Lib.hid hrg
                clear hrg
                have HBA : Hid (wy.heap[w.heap.size]? = some (.cells AC 66 (0, 0))) := Lib.hid ((HPUT.out.chg.block _ (block_lt HB1.out) (fun e => by have := HVL.out _ e; omega)).trans HB1.out)
                have HIA : Hid ((Try.prog.info? 66).map (·.size) = some AC.size) := Lib.hid (by rw [HA.out]; exact ar_info)
                have f0 : ∀ (d : Nat) (f : Nat → Obj) (os : Array Obj), (Instr.loadAt 66 (.pointer (some ⟨qb, qo + j * 19 + 2, none⟩))).run Try.prog (turned wy (fun _ => false) d f os) = .ok (.agg (agR bk.a)) (turned wy (fun _ => false) d f os) := fun d f os => by
                  have h1 := run_loadAt_mid (P := Try.prog) (turned wy (fun _ => false) d f os) qb (qo + j * 19 + 2) 66 (agR bk.a).toList _ (fun i u hu => by
                    have h2 := HRGT.out (2 + i) u (by rw [Nat.add_comm]; exact hu)
                    have h3 := cell_turned (T := fun _ => false) h2 rfl d f os
                    rw [← Nat.add_assoc] at h3
                    exact h3) Try.underlying66 rfl ar_info
                  simpa using h1
                have f1 := fun (d : Nat) (f : Nat → Obj) (os : Array Obj) => load_box_turned (P := Try.prog) (ty := 66) HBA.out (T := fun _ => false) rfl Try.underlying66 rfl HIA.out d f os
                obtain ⟨R, hR⟩ : ∃ R : Array Value, R = agR (agM bk.a a) := ⟨_, rfl⟩
                have HR' := Lib.hid hR
                have HCALL : Hid (∀ W, Calls Try.prog 25 #[.agg (agR bk.a), .agg AC] W fun e w' => e = .returned (.tuple #[.agg R, .int .i64 0]) ∧ Ext W w') := Lib.hid (fun W => by
                  obtain ⟨m1, m2, m3, m4, m5, m6⟩ := HM.out
                  have hg1 := HBDT.out
                  have hi64 : i * A ≤ 64 * A := Nat.mul_le_mul_right _ (by omega)
                  have hg2 : bk.a.bnd (K + 64 * A) := hg1.mono (by omega)
                  have ha2 : a.bnd (K + 64 * A) := m2.mono (by omega)
                  rw [hR, HA.out]
                  refine rMerge_any bk.a a W (bnd_fine hg2 m4) (bnd_fine ha2 m4) m3 ?_
                  unfold Ag.bnd at hg2 ha2
                  unfold sumOk
                  omega)
                clear hR
                have HIR : Hid ((Try.prog.info? 66).map (·.size) = some R.size ∧ R.all (·.oneCell') = true ∧ R.size = 17) := Lib.hid ⟨by rw [HR'.out]; exact ar_info, by rw [HR'.out]; simp [agR, Value.oneCell'], by rw [HR'.out]; rfl⟩
                refine wp_region_plan 12 (fun w' => ∃ p : Turned, w' = turned wy (fun _ => false) p.d p.f p.os) (.reads [0, 1, 2, 3, 4, 5] (.two 6 (.reads [7, 8, 9] (.one 10 (.one 11 (.one 12 .done)))) 10 (.one 6 (.reads [7, 8, 9] (.one 11 (.one 12 .done)))))) (by kernel_rfl) (by kernel_rfl) (fun _ _ dd _ _ hh => by cases dd <;> exact hh) ?_ ?_
                · exact turned_of_ext (Ext.drewN wy 1)
                refine wpPlan_reads ?_
                simp only [pickOps, List.getElem?_cons_succ, List.getElem?_cons_zero]
                repeat (first | (refine wpQuiet_load_box rfl _ _ rfl _ _ rfl (fun w hw => by obtain ⟨p, rfl⟩ := hw; exact f0 p.d p.f p.os) ?_) | (refine wpQuiet_load_box rfl _ _ rfl _ _ rfl (fun w hw => by obtain ⟨p, rfl⟩ := hw; exact f1 p.d p.f p.os) ?_) | (go_big_quiet_step (fail)))
                refine wpQuiet_nil ?_
                clear f0 f1
                refine wpPlan_two ?goA3 ?goB3
                case' goA3 =>
                  simp only [pickOps, List.getElem?_cons_succ, List.getElem?_cons_zero]
                  go_wp2_with fail
                  refine (HCALL.out _).mono ?_
                  rintro e w4 ⟨rfl, hx4⟩
                  have HX4 := Lib.hid ((Ext.drewN wy 1).trans hx4)
                  clear hx4
                  go_wp2_with fail
                  refine thenX_mk (turned_of_ext HX4.out) (wpPlan_reads ?_)
                  simp only [pickOps, List.getElem?_cons_succ, List.getElem?_cons_zero]
                  repeat (go_big_quiet_step (fail))
                  refine wpQuiet_nil ?_
                  refine wpPlan_one ?_
                  simp only [pickOps, List.getElem?_cons_succ, List.getElem?_cons_zero]
                  go_wp2_with fail
                  refine thenX_mk (turned_of_ext (HX4.out.alloc _)) (wpPlan_one ?_)
                  simp only [pickOps, List.getElem?_cons_succ, List.getElem?_cons_zero]
                  obtain ⟨bx, hbx⟩ : ∃ bx, bx = w4.heap.size := ⟨_, rfl⟩
                  have HB4 := Lib.hid (heap_alloc_new w4 (.cells #[.int .i64 0, .int .i64 0, .int .i64 0, .int .i64 0, .int .i64 0, .int .i64 0, .int .i64 0, .int .i64 0, .int .i64 0, .int .i64 0, .int .i64 0, .int .i64 0, .int .i64 0, .int .i64 0, .int .i64 0, .int .i64 0, .int .i64 0] 66 (0, 0)))
                  have HX5 : Hid (Ext wy (w4.alloc (.cells #[.int .i64 0, .int .i64 0, .int .i64 0, .int .i64 0, .int .i64 0, .int .i64 0, .int .i64 0, .int .i64 0, .int .i64 0, .int .i64 0, .int .i64 0, .int .i64 0, .int .i64 0, .int .i64 0, .int .i64 0, .int .i64 0, .int .i64 0] 66 (0, 0)))) := Lib.hid (HX4.out.alloc _)
                  have HBX : Hid (wy.heap.size ≤ bx) := Lib.hid (by rw [hbx]; exact HX4.out.size)
                  rw [← hbx] at HB4
                  rw [← hbx]
                  generalize w4.alloc (.cells #[.int .i64 0, .int .i64 0, .int .i64 0, .int .i64 0, .int .i64 0, .int .i64 0, .int .i64 0, .int .i64 0, .int .i64 0, .int .i64 0, .int .i64 0, .int .i64 0, .int .i64 0, .int .i64 0, .int .i64 0, .int .i64 0, .int .i64 0] 66 (0, 0)) = w5 at *
                  clear HX4 hbx
                case' goB3 =>
                  simp only [pickOps, List.getElem?_cons_succ, List.getElem?_cons_zero]
                  go_wp2_with fail
                  obtain ⟨bx, hbx⟩ : ∃ bx, bx = wy.heap.size := ⟨_, rfl⟩
                  refine thenX_mk (turned_of_ext ((Ext.drewN wy 1).alloc _)) (wpPlan_one ?_)
                  simp only [pickOps, List.getElem?_cons_succ, List.getElem?_cons_zero]
                  go_wp2_with fail
                  refine (HCALL.out _).mono ?_
                  rintro e w5 ⟨rfl, hx4⟩
                  have HX5 : Hid (Ext wy w5) := Lib.hid (((Ext.drewN wy 1).alloc _).trans hx4)
                  have HBX : Hid (wy.heap.size ≤ bx) := Lib.hid (by rw [hbx]; exact Nat.le_refl _)
                  have HB4 : Hid (w5.heap[bx]? = some (.cells #[.int .i64 0, .int .i64 0, .int .i64 0, .int .i64 0, .int .i64 0, .int .i64 0, .int .i64 0, .int .i64 0, .int .i64 0, .int .i64 0, .int .i64 0, .int .i64 0, .int .i64 0, .int .i64 0, .int .i64 0, .int .i64 0, .int .i64 0] 66 (0, 0))) := Lib.hid (by
                    rw [hbx]
                    have h0 := heap_alloc_new (wy.drewN 1) (.cells #[.int .i64 0, .int .i64 0, .int .i64 0, .int .i64 0, .int .i64 0, .int .i64 0, .int .i64 0, .int .i64 0, .int .i64 0, .int .i64 0, .int .i64 0, .int .i64 0, .int .i64 0, .int .i64 0, .int .i64 0, .int .i64 0, .int .i64 0] 66 (0, 0))
                    exact (hx4.block (block_lt h0)).trans h0)
                  clear hx4
                  go_wp2_with fail
                  refine thenX_mk (turned_of_ext HX5.out) (wpPlan_reads ?_)
                  simp only [pickOps, List.getElem?_cons_succ, List.getElem?_cons_zero]
                  repeat (go_big_quiet_step (fail))
                  refine wpQuiet_nil ?_
                  refine wpPlan_one ?_
                  simp only [pickOps, List.getElem?_cons_succ, List.getElem?_cons_zero]
                  rw [← hbx]
                  clear hbx
                all_goals
                  refine wpList_store_box rfl _ _ _ rfl _ _ _ _ rfl rfl HB4.out (by rw [HIR.out.2.2]; rfl) HIR.out.1 HIR.out.2.1 ?_
                  rintro w6 hb6 hc6
                  have HB6 := Lib.hid hb6
                  have HX6 : Hid (Ext wy w6) := Lib.hid (((Chg.of_ext (S := fun _ => False) HX5.out).trans hc6 (fun i hi e => by have := HBX.out; omega)).ext (fun _ _ e => e))
                  clear hb6 hc6 HX5 HB4 HCALL
                  go_wp2_with fail
                  refine thenX_mk (turned_of_ext HX6.out) (wpPlan_one ?_)
                  simp only [pickOps, List.getElem?_cons_succ, List.getElem?_cons_zero]
                  go_wp2_with fail
                  refine thenX_last (wpPlan_done ?_)
                  have HP6 := Lib.hid (HPUT.out.ext HX6.out)
                  obtain ⟨old, new, o1, o2, o3, o4⟩ := row_part rbc_len (by decide) HP6.out.made.row (p := ⟨bk.lo, bk.hi, agM bk.a a⟩) HBKT.out 2 R.toList (by rw [Array.length_toList, HIR.out.2.2]; decide) (by rw [HR'.out]; rfl)
                  have HO := Lib.hid (And.intro o1 (And.intro o2 (And.intro o3 o4)))
                  clear o1 o2 o3 o4
                  go_wp2_with (first | (refine wpList_load_box rfl _ _ rfl _ _ _ _ _ rfl HB6.out Try.underlying66 rfl HIR.out.1 ?_) | (refine wpList_store_part rfl _ _ _ rfl qb (qo + j * 19 + 2) old R new _ rfl rfl HO.out.1 (by have := HO.out.2.1; rw [← Nat.add_assoc] at this; simpa using this) (by have := HO.out.2.2.1; rw [← Nat.add_assoc] at this; simpa using this) HIR.out.1 HIR.out.2.1 ?_; rintro wz hb8 hc8; have HZ8 := Lib.hid (And.intro hb8 hc8); clear hb8 hc8))
                  have HPF := Lib.hid (HP6.out.write (HO.out.2.2.2 _ HZ8.out.1) (by rw [List.length_set]; exact HPUT.out.len) HZ8.out.2)
                  refine ⟨⟨i + 1, (j + 1), vc', _, by omega, by go_num, rfl, by omega, Lib.hid ?_⟩, by simp [RowKit.intOf]; omega⟩
                  rw [putSL_take HX.out, ← HL.out, HPBT.out]
                  exact HPF.out
    · obtain rfl : i = N := by omega
      have hlt0 : decide ((i : Int) < (i : Int)) = false := by simp
      go_wp2_with fail
      go_ret2
      have h := HR.out
      rw [List.take_of_length_le (by have := HLN0.out; omega)] at h
      exact ⟨_, n, rfl, h.made, h.len⟩
end Go.Proofs.Ythnpchfcafaiiaa
