/- gathered: windows by their From; put. -/
import Derived.Test.YtokllgdbmnmieaaGreatEnc
import Derived.Test.YtokllgdbmnmieaaGreatImk
import Derived.Test.YtokllgdbmnmieaaGreatWia
import Derived.Test.YtokllgdbmnmieaaGreatPtc
import Derived.Test.YtokllgdbmnmieaaGreatRng
namespace Go.Proofs.YtokllgdbmnmieaaGreat
open Go.RowKit Go.Lib Go.Sort

def encI (z : Int) : Value := .int .i64 z
theorem encI_kind : KeyKind Tryz.prog 3 encI := int_kind Tryz.underlying3

/-- Windows by their From, in memory. -/
structure GatAt (w : World) (g mb : Nat) (wd st off : Int) (m : List (Int × Ag)) : Prop where
  blk : w.heap[g]? = some (.cells #[.int .i64 wd, .int .i64 st, .int .i64 off, .map (some mb)] 114 (0, 0))
  map : MapIs encI w mb (amap Ag.val m)

theorem GatAt.lt {w : World} {g mb : Nat} {wd st off : Int} {m : List (Int × Ag)} (h : GatAt w g mb wd st off m) : g < w.heap.size ∧ mb < w.heap.size := ⟨block_lt h.blk, h.map.lt⟩
theorem GatAt.ext {w w' : World} {g mb : Nat} {wd st off : Int} {m : List (Int × Ag)} (h : GatAt w g mb wd st off m) (hx : Ext w w') : GatAt w' g mb wd st off m :=
  ⟨(hx.block (block_lt h.blk)).trans h.blk, h.map.ext hx⟩
theorem GatAt.ne {w : World} {g mb : Nat} {wd st off : Int} {m : List (Int × Ag)} (h : GatAt w g mb wd st off m) : g ≠ mb := by
  rintro rfl
  obtain ⟨es, c, hb, _⟩ := h.map
  have := h.blk
  rw [hb] at this
  cases this

theorem spc_len (p : Int × Int) : (spc p).length = 2 := rfl
theorem sps_one (l : List (Int × Int)) : ∀ u ∈ sps l, u.oneCell' = true := by
  intro u hu
  simp only [sps, List.mem_flatMap] at hu
  obtain ⟨p, _, h⟩ := hu
  simp [spc] at h
  rcases h with rfl | rfl <;> rfl
/-- The cells of a span of a slice. -/
theorem sps_src {w : World} {a : Option Addr} {n c : Nat} {l : List (Int × Int)} (h : Src w 2 (.slice a n c) n (sps l)) {k : Nat} (hk : k < n) :
    ∃ b off p, a = some ⟨b, off, none⟩ ∧ l[k]? = some p ∧ w.cell? ⟨b, off + k * 2, none⟩ = some (.int .i64 p.1) ∧ w.cell? ⟨b, off + k * 2 + 1, none⟩ = some (.int .i64 p.2) := by
  obtain ⟨b, off, p, h1, h2, h3⟩ := enc_src spc_len (by decide) h hk
  exact ⟨b, off, p, h1, h2, h3 0 _ rfl, h3 1 _ rfl⟩

/-- What is put into windows. -/
def putG (m : List (Int × Ag)) (a : Ag) (z : Int) : List (Int × Ag) := aput m z (agM ((aget m z).getD Ag.zero) a)
def putL (m : List (Int × Ag)) (a : Ag) (l : List (Int × Int)) : List (Int × Ag) := l.foldl (fun m p => putG m a p.1) m
/-- Not too much. -/
def Ag.bnd (K : Nat) (g : Ag) : Prop := 0 ≤ g.n ∧ g.n ≤ K ∧ -((K : Int) * 9223372036854775808) ≤ g.s ∧ g.s ≤ (K : Int) * 9223372036854775808
theorem Ag.bnd.mono {K L : Nat} {g : Ag} (h : g.bnd K) (hl : K ≤ L) : g.bnd L := by
  unfold Ag.bnd at *
  omega
theorem zero_bnd (K : Nat) : Ag.zero.bnd K := by unfold Ag.bnd Ag.zero; simp only; omega
theorem bnd_fine {K : Nat} {g : Ag} (h : g.bnd K) (hk : K ≤ 1125899906842624) : g.fine := by
  unfold Ag.bnd at h
  unfold Ag.fine sumOk
  omega
theorem agM_bnd {K L : Nat} {a b : Ag} (ha : a.bnd K) (hb : b.bnd L) : (agM a b).bnd (K + L) := by
  unfold Ag.bnd agM at *
  split
  · omega
  · simp only; omega
theorem aget_all {m : List (Int × Ag)} {R : Ag → Prop} (h : ∀ p ∈ m, R p.2) (hz : R Ag.zero) (z : Int) : R ((aget m z).getD Ag.zero) := by
  cases hg : aget m z with
  | none => exact hz
  | some g => exact h (z, g) (aget_mem hg)
theorem mem_aput {m : List (Int × Ag)} {z : Int} {g : Ag} {p : Int × Ag} (h : p ∈ aput m z g) : p ∈ m ∨ p = (z, g) := by
  induction m with
  | nil => simp [aput] at h; exact .inr h
  | cons q m ih =>
    obtain ⟨q1, q2⟩ := q
    simp only [aput] at h
    split at h
    · rename_i he
      rcases List.mem_cons.1 h with h | h
      · exact .inr (by rw [h, he])
      · exact .inl (List.mem_cons_of_mem _ h)
    · rcases List.mem_cons.1 h with h | h
      · exact .inl (by rw [h]; exact List.mem_cons_self)
      · rcases ih h with h | h
        · exact .inl (List.mem_cons_of_mem _ h)
        · exact .inr h
theorem putG_bnd {m : List (Int × Ag)} {a : Ag} {K L : Nat} (h : ∀ p ∈ m, p.2.bnd K) (ha : a.bnd L) (z : Int) : ∀ p ∈ putG m a z, p.2.bnd (K + L) := by
  intro p hp
  rcases mem_aput hp with h1 | h1
  · exact (h p h1).mono (by omega)
  · rw [h1]
    exact agM_bnd (aget_all h (zero_bnd K) z) ha
theorem aput_len (m : List (Int × Ag)) (z : Int) (g : Ag) : (aput m z g).length ≤ m.length + 1 := by
  induction m with
  | nil => simp [aput]
  | cons q m ih =>
    obtain ⟨q1, q2⟩ := q
    simp only [aput]
    split <;> simp <;> omega
theorem putL_bnd {a : Ag} {L : Nat} (ha : a.bnd L) : ∀ (l : List (Int × Int)) (m : List (Int × Ag)) (K : Nat), (∀ p ∈ m, p.2.bnd K) → ∀ p ∈ putL m a l, p.2.bnd (K + l.length * L)
  | [], m, K, h => by simpa [putL] using h
  | x :: l, m, K, h => by
    have := putL_bnd ha l (putG m a x.1) (K + L) (putG_bnd h ha x.1)
    intro p hp
    exact (this p hp).mono (by simp only [List.length_cons, Nat.succ_mul]; omega)
theorem putL_len {a : Ag} : ∀ (l : List (Int × Int)) (m : List (Int × Ag)), (putL m a l).length ≤ m.length + l.length
  | [], m => by simp [putL]
  | x :: l, m => by
    have := putL_len (a := a) l (putG m a x.1)
    have h2 := aput_len m x.1 (agM ((aget m x.1).getD Ag.zero) a)
    show (putL (putG m a x.1) a l).length ≤ _
    have h3 : (putG m a x.1).length ≤ m.length + 1 := h2
    simp only [List.length_cons]
    omega
theorem putL_take {m : List (Int × Ag)} {a : Ag} {l : List (Int × Int)} {k : Nat} {p : Int × Int} (h : l[k]? = some p) : putL m a (l.take (k + 1)) = putG (putL m a (l.take k)) a p.1 := by
  unfold putL
  rw [List.take_add_one, h, List.foldl_append]
  rfl

theorem winL_len (wd st off t : Int) : (winL wd st off t).length = winN wd st off t := by unfold winL; exact spansL_len _ _ _ _
theorem winN_le {wd st off t : Int} (hv : windowB wd st off = true) : winN wd st off t ≤ 64 := by
  have h := window_nums hv
  obtain ⟨q, hq, hq63⟩ := win_count (wd := wd) (st := st) (off := off) (t := t) h.2.2.1 h.2.2.2.1 h.2.2.2.2.1
  unfold winN
  rw [hq, Int.mul_ediv_cancel _ (by omega)]
  simp
  omega

theorem agz (w : World) : (zeroValue 75).run Tryz.prog w = .ok Ag.zero.val w := by
  kernel_rfl

set_option maxHeartbeats 8000000 in
set_option maxRecDepth 100000 in
theorem put_any {w : World} {g mb : Nat} {wd st off : Int} {m : List (Int × Ag)} (hg : GatAt w g mb wd st off m) (t : Int) (a : Ag) (K L : Nat) (hv : windowB wd st off = true) (ht : timeB t = true)
    (hm : ∀ p ∈ m, p.2.bnd K) (ha : a.bnd L) (ha1 : 1 ≤ a.n) (hk : K + 64 * L ≤ 1125899906842624) (hlen : m.length ≤ 60000) :
    Calls Tryz.prog 43 #[.pointer (some ⟨g, 0, none⟩), .int .i64 t, a.val] w fun e w' => e = .returned (.int .i64 0) ∧ GatAt w' g mb wd st off (putL m a (winL wd st off t)) ∧ Chg (· = mb) w w' := by
  have HOF := Lib.hid (fun W => of_any wd st off t W hv ht)
  have HG := Lib.hid hg
  have HM := Lib.hid (And.intro hm (And.intro ha (And.intro ha1 (And.intro hk hlen))))
  have HW := Lib.hid (winN_le (t := t) hv)
  have HLN0 := Lib.hid (winL_len wd st off t)
  clear hg hm ha ha1 hk hlen hv ht
  obtain ⟨n, hn⟩ : ∃ n, n = winN wd st off t := ⟨_, rfl⟩
  obtain ⟨L', hL'⟩ : ∃ l, l = winL wd st off t := ⟨_, rfl⟩
  simp only [← hn, ← hL'] at HOF
  rw [← hn] at HW
  rw [← hn, ← hL'] at HLN0
  rw [← hL']
  clear hn hL'
  obtain ⟨A, hA⟩ : ∃ A : Array Value, A = #[.int .i64 a.n, .int .i64 (a.s / 18446744073709551616), .int .u64 (a.s % 18446744073709551616), .int .i64 a.mn, .int .i64 a.mx,
    .int .i64 a.f.t, .int .i64 a.f.v, .int .i64 a.f.s, .int .i64 a.l.t, .int .i64 a.l.v, .int .i64 a.l.s] := ⟨_, rfl⟩
  have HA := Lib.hid hA
  have hav : a.val = .agg A := by rw [hA]; rfl
  rw [hav]
  have HAV := Lib.hid hav
  clear hA hav
  go_enter Tryz.func43, Tryz.ntmps43
  have c0 : ∀ o, (w.alloc o).cell? ⟨g, 0, none⟩ = some (.int .i64 wd) := fun o => by have := cell_of_block (HG.out.ext ((Ext.refl w).alloc o)).blk 0; simpa using this
  have c1 : ∀ o, (w.alloc o).cell? ⟨g, 1, none⟩ = some (.int .i64 st) := fun o => by have := cell_of_block (HG.out.ext ((Ext.refl w).alloc o)).blk 1; simpa using this
  have c2 : ∀ o, (w.alloc o).cell? ⟨g, 2, none⟩ = some (.int .i64 off) := fun o => by have := cell_of_block (HG.out.ext ((Ext.refl w).alloc o)).blk 2; simpa using this
  go_wp2_with fail
  clear c0 c1 c2
  refine (HOF.out _).mono ?_
  rintro e w1 ⟨v, rfl, hm1⟩
  obtain ⟨va, vc, rfl⟩ := hm1.row.shape
  have HS1 := Lib.hid (hm1.row.src (sps_one L'))
  have HB1 : Hid (w1.heap[w.heap.size]? = some (.cells A 75 (0, 0))) := Lib.hid ((hm1.ext.block (block_lt (heap_alloc_new w _))).trans (heap_alloc_new w _))
  have HG1 := Lib.hid (HG.out.ext (((Ext.refl w).alloc (.cells A 75 (0, 0))).trans hm1.ext))
  have HX1 := Lib.hid (((Ext.refl w).alloc (.cells A 75 (0, 0))).trans hm1.ext)
  have HO1 := Lib.hid hm1.own
  clear hm1 HOF
  go_wp2_with fail
  go_loopw [27] (fun i wr => ∃ k : Nat, k ≤ n ∧ i = .int .i64 k ∧ Hid (GatAt wr g mb wd st off (putL m a (L'.take k)) ∧ Chg (· = mb) w1 wr)) (fun i _ => n - (RowKit.intOf i).toNat)
  case atStart => exact ⟨0, by omega, rfl, Lib.hid ⟨HG1.out, Chg.refl _ _⟩⟩
  case round =>
    obtain ⟨k, hk, rfl, HI⟩ := hrel
    by_cases hlt : k < n
    · have HSr := Lib.hid (HS1.out.chg HI.out.2 (fun g hg e => by have h1 := HO1.out g hg; have h2 := HG.out.lt.2; simp at h1; omega))
      obtain ⟨sb, so, p, rfl, hp, z0, z1⟩ := sps_src HSr.out hlt
      have HP := Lib.hid hp
      obtain ⟨from', to'⟩ := p
      simp only at z0 z1
      clear hp
      go_wp2_with fail
      generalize hW : World.alloc _ _ = W
      have HX : Hid (Ext wr W) := Lib.hid (by subst hW; exact (Ext.refl wr).alloc _)
      have HP0 : Hid (W.heap[wr.heap.size]? = some (.cells #[.int .i64 from', .int .i64 to'] 124 (0, 0))) := Lib.hid (by subst hW; exact heap_alloc_new wr _)
      clear hW z0 z1
      have HGW := Lib.hid (HI.out.1.ext HX.out)
      have HBW : Hid (W.heap[w.heap.size]? = some (.cells A 75 (0, 0))) := Lib.hid (by
        have h1 := (HI.out.2.block _ (block_lt HB1.out) (by have := HG.out.lt.2; omega)).trans HB1.out
        exact (HX.out.block (block_lt h1)).trans h1)
      obtain ⟨gg, hgg⟩ : ∃ gg, gg = (aget (putL m a (L'.take k)) from').getD Ag.zero := ⟨_, rfl⟩
      have HGG := Lib.hid hgg
      have hval : (aget (amap Ag.val (putL m a (L'.take k))) from').getD Ag.zero.val = gg.val := by
        rw [hgg, aget_amap]
        cases aget (putL m a (L'.take k)) from' <;> rfl
      have f0 := cell_turned (T := fun _ => false) (show W.cell? ⟨g, 3, none⟩ = some (.map (some mb)) by have := cell_of_block HGW.out.blk 3; simpa using this) rfl
      have f1 := cell_turned (T := fun _ => false) (show W.cell? ⟨wr.heap.size, 0, none⟩ = some (.int .i64 from') by have := cell_of_block HP0.out 0; simpa using this) rfl
      have f2 := fun (d : Nat) (f : Nat → Obj) (os : Array Obj) => load_box_turned (P := Tryz.prog) (ty := 75) HBW.out (T := fun _ => false) rfl Tryz.underlying75 rfl (by rw [HA.out]; kernel_rfl) d f os
      have f3 : ∀ (d : Nat) (f : Nat → Obj) (os : Array Obj), (Instr.lookup 112 (.map (some mb)) (.int .i64 from') false).run Tryz.prog (turned W (fun _ => false) d f os) = .ok gg.val (turned W (fun _ => false) d f os) := fun d f os => by
        have h1 : MapIs encI (turned W (fun _ => false) d f os) mb (amap Ag.val (putL m a (L'.take k))) := HGW.out.map.of_block ((chg_turned W (fun _ => false) d f os).block mb HGW.out.lt.2 (by simp))
        have h2 := h1.lookup encI_kind Tryz.underlying112 Ag.zero.val (agz _) from' false
        rw [hval] at h2
        exact h2
      clear hgg hval
      refine wp_region_plan 14 (fun w' => ∃ p : Turned, w' = turned W (fun _ => false) p.d p.f p.os) (.reads [0, 1, 2, 3, 4, 5, 6, 7] (.two 8 (.reads [9, 10, 11] (.one 12 (.one 13 (.one 14 .done)))) 12 (.one 8 (.reads [9, 10, 11] (.one 13 (.one 14 .done)))))) (by kernel_rfl) (by kernel_rfl) (fun _ _ dd _ _ hh => by cases dd <;> exact hh) ?_ ?_
      · exact turned_of_ext (Ext.drewN W 1)
      refine wpPlan_reads ?_
      simp only [pickOps, List.getElem?_cons_succ, List.getElem?_cons_zero]
      repeat (first | (refine wpQuiet_load_box rfl _ _ rfl _ _ rfl (fun w hw => by obtain ⟨p, rfl⟩ := hw; exact f2 p.d p.f p.os) ?_) | (go_big_quiet_step (fail)))
      refine wpQuiet_nil ?_
      have HCALL : Hid (∀ W, Calls Tryz.prog 75 #[gg.val, .agg A] W fun e w' => e = .returned (.tuple #[(agM gg a).val, .int .i64 0]) ∧ Ext W w') := Lib.hid (fun W => by
        rw [← HAV.out]
        obtain ⟨m1, m2, m3, m4, m5⟩ := HM.out
        have hb := putL_bnd m2 (L'.take k) m K m1
        have hkk : (L'.take k).length ≤ 64 := by have := HLN0.out; have := HW.out; rw [List.length_take]; omega
        have hg1 : gg.bnd (K + 64 * L) := by
          rw [HGG.out]
          exact (aget_all (R := fun g => g.bnd (K + (L'.take k).length * L)) hb (zero_bnd _) from').mono (by have := Nat.mul_le_mul_right L hkk; omega)
        have ha2 : a.bnd (K + 64 * L) := m2.mono (by omega)
        refine aggrMerge_any gg a W (bnd_fine hg1 m4) (bnd_fine ha2 m4) m3 ?_
        unfold Ag.bnd at hg1 ha2
        unfold sumOk
        omega)
      clear f0 f1 f2 f3
      obtain ⟨R, hR⟩ : ∃ R : Array Value, R = #[.int .i64 (agM gg a).n, .int .i64 ((agM gg a).s / 18446744073709551616), .int .u64 ((agM gg a).s % 18446744073709551616), .int .i64 (agM gg a).mn, .int .i64 (agM gg a).mx,
        .int .i64 (agM gg a).f.t, .int .i64 (agM gg a).f.v, .int .i64 (agM gg a).f.s, .int .i64 (agM gg a).l.t, .int .i64 (agM gg a).l.v, .int .i64 (agM gg a).l.s] := ⟨_, rfl⟩
      have HR := Lib.hid hR
      have HRV : Hid ((agM gg a).val = .agg R) := Lib.hid (by rw [hR]; rfl)
      rw [HRV.out] at HCALL
      clear hR
      refine wpPlan_two ?goA ?goB
      case' goA =>
        simp only [pickOps, List.getElem?_cons_succ, List.getElem?_cons_zero]
        go_wp2_with fail
        refine (HCALL.out _).mono ?_
        rintro e w4 ⟨rfl, hx4⟩
        have HX4 := Lib.hid ((Ext.drewN W 1).trans hx4)
        clear hx4
        go_wp2_with fail
        refine thenX_mk (turned_of_ext HX4.out) (wpPlan_reads ?_)
        simp only [pickOps, List.getElem?_cons_succ, List.getElem?_cons_zero]
        repeat (go_big_quiet_step (fail))
        refine wpQuiet_nil ?_
        refine wpPlan_one ?_
        simp only [pickOps, List.getElem?_cons_succ, List.getElem?_cons_zero]
        go_wp2_with fail
        refine thenX_mk (turned_of_ext (HX4.out.alloc _)) (wpPlan_one ?_)
        simp only [pickOps, List.getElem?_cons_succ, List.getElem?_cons_zero]
        obtain ⟨bx, hbx⟩ : ∃ bx, bx = w4.heap.size := ⟨_, rfl⟩
        have HB4 := Lib.hid (heap_alloc_new w4 (.cells #[.int .i64 0, .int .i64 0, .int .u64 0, .int .i64 0, .int .i64 0, .int .i64 0, .int .i64 0, .int .i64 0, .int .i64 0, .int .i64 0, .int .i64 0] 75 (0, 0)))
        have HX5 : Hid (Ext W (w4.alloc (.cells #[.int .i64 0, .int .i64 0, .int .u64 0, .int .i64 0, .int .i64 0, .int .i64 0, .int .i64 0, .int .i64 0, .int .i64 0, .int .i64 0, .int .i64 0] 75 (0, 0)))) := Lib.hid (HX4.out.alloc _)
        have HBX : Hid (W.heap.size ≤ bx) := Lib.hid (by rw [hbx]; exact HX4.out.size)
        rw [← hbx] at HB4
        rw [← hbx]
        generalize w4.alloc (.cells #[.int .i64 0, .int .i64 0, .int .u64 0, .int .i64 0, .int .i64 0, .int .i64 0, .int .i64 0, .int .i64 0, .int .i64 0, .int .i64 0, .int .i64 0] 75 (0, 0)) = w5 at *
        clear HX4 hbx
      case' goB =>
        simp only [pickOps, List.getElem?_cons_succ, List.getElem?_cons_zero]
        go_wp2_with fail
        obtain ⟨bx, hbx⟩ : ∃ bx, bx = W.heap.size := ⟨_, rfl⟩
        refine thenX_mk (turned_of_ext ((Ext.drewN W 1).alloc _)) (wpPlan_one ?_)
        simp only [pickOps, List.getElem?_cons_succ, List.getElem?_cons_zero]
        go_wp2_with fail
        refine (HCALL.out _).mono ?_
        rintro e w5 ⟨rfl, hx4⟩
        have HX5 : Hid (Ext W w5) := Lib.hid (((Ext.drewN W 1).alloc _).trans hx4)
        have HBX : Hid (W.heap.size ≤ bx) := Lib.hid (by rw [hbx]; exact Nat.le_refl _)
        have HB4 : Hid (w5.heap[bx]? = some (.cells #[.int .i64 0, .int .i64 0, .int .u64 0, .int .i64 0, .int .i64 0, .int .i64 0, .int .i64 0, .int .i64 0, .int .i64 0, .int .i64 0, .int .i64 0] 75 (0, 0))) := Lib.hid (by
          rw [hbx]
          have h0 := heap_alloc_new (W.drewN 1) (.cells #[.int .i64 0, .int .i64 0, .int .u64 0, .int .i64 0, .int .i64 0, .int .i64 0, .int .i64 0, .int .i64 0, .int .i64 0, .int .i64 0, .int .i64 0] 75 (0, 0))
          exact (hx4.block (block_lt h0)).trans h0)
        clear hx4
        go_wp2_with fail
        refine thenX_mk (turned_of_ext HX5.out) (wpPlan_reads ?_)
        simp only [pickOps, List.getElem?_cons_succ, List.getElem?_cons_zero]
        repeat (go_big_quiet_step (fail))
        refine wpQuiet_nil ?_
        refine wpPlan_one ?_
        simp only [pickOps, List.getElem?_cons_succ, List.getElem?_cons_zero]
        rw [← hbx]
        clear hbx
      all_goals
        refine wpList_store_box rfl _ _ _ rfl _ _ _ _ rfl rfl HB4.out (by rw [HR.out]; rfl) (by rw [HR.out]; kernel_rfl) (by rw [HR.out]; simp [Value.oneCell']) ?_
        rintro w6 hb6 hc6
        have HB6 := Lib.hid hb6
        have HX6 : Hid (Ext W w6) := Lib.hid (((Chg.of_ext (S := fun _ => False) HX5.out).trans hc6 (fun i hi e => by have := HBX.out; omega)).ext (fun _ _ e => e))
        clear hb6 hc6 HX5 HB4 HCALL
        go_wp2_with fail
        refine thenX_mk (turned_of_ext HX6.out) (wpPlan_one ?_)
        simp only [pickOps, List.getElem?_cons_succ, List.getElem?_cons_zero]
        go_wp2_with fail
        refine thenX_last (wpPlan_done ?_)
        have HG6 := Lib.hid (HGW.out.ext HX6.out)
        have HF6 : Hid (w6.heap[wr.heap.size]? = some (.cells #[.int .i64 from', .int .i64 to'] 124 (0, 0))) := Lib.hid ((HX6.out.block (block_lt HP0.out)).trans HP0.out)
        go_wp2_with fail
        have p1 : w6.cell? ⟨g, 3, none⟩ = some (.map (some mb)) := by have := cell_of_block HG6.out.blk 3; simpa using this
        have p2 : w6.cell? ⟨wr.heap.size, 0, none⟩ = some (.int .i64 from') := by have := cell_of_block HF6.out 0; simpa using this
        refine wp_region_split_lit [] [0, 1, 2, 3, 4, 5, 6] [7] (by kernel_rfl) (by kernel_rfl) (fun _ _ dd _ _ hh => by cases dd <;> exact hh) ?_
        simp only [pickOps, List.getElem?_cons_succ, List.getElem?_cons_zero]
        refine wpQuiet_nil ?_
        repeat (first | (refine wpQuiet_load_box rfl _ _ rfl _ _ rfl (fun w hw => by obtain ⟨p, rfl⟩ := hw; exact load_box_run ((Ext.drewN w6 p).block (block_lt HB6.out) |>.trans HB6.out) Tryz.underlying75 rfl (by rw [HR.out]; kernel_rfl)) ?_) | (go_big_quiet_step (fail)))
        refine wpQuiet_nil ?_
        intro w7 hw'
        have hx7 : Ext w6 w7 := by obtain ⟨k, rfl⟩ := hw'; exact Ext.drewN _ _
        clear hw' p1 p2
        have HG7 := Lib.hid (HG6.out.ext hx7)
        have HX7 := Lib.hid (HX6.out.trans hx7)
        clear hx7
        obtain ⟨w8, hup, hmap8, hchg8⟩ := HG7.out.map.update (P := Tryz.prog) encI_kind Tryz.underlying112 from' (agM gg a).val
        rw [HRV.out] at hup
        have hup' : (Instr.mapUpdate 112 (.map (some mb)) (.int .i64 from') (.agg R)).run Tryz.prog w7 = .ok () w8 := hup
        have HM8 := Lib.hid (And.intro hmap8 hchg8)
        clear hmap8 hchg8 hup
        go_wp2_with fail
        have hw : wrap64 ((k : Int) + 1) = ((k + 1 : Nat) : Int) := IntWalk.wrap64_in _ (by have := HW.out; omega)
        refine ⟨⟨k + 1, by omega, by rw [hw], Lib.hid ⟨⟨?_, ?_⟩, ?_⟩⟩, ?_⟩
        · exact (HM8.out.2.block g (block_lt HG7.out.blk) HG7.out.ne).trans HG7.out.blk
        · have h1 := HM8.out.1
          rw [aput_amap, HGG.out] at h1
          rw [putL_take HP.out]
          exact h1
        · exact ((HI.out.2.trans (Chg.of_ext (S := fun _ => False) (HX.out.trans HX7.out)) (fun _ _ e => e.elim)).trans HM8.out.2 (fun _ _ e => e))
        · rw [hw]
          simp [RowKit.intOf]
          omega
    · have HKN : Hid (k = n) := Lib.hid (by omega)
      have p1 : wr.cell? ⟨g, 3, none⟩ = some (.map (some mb)) := by have := cell_of_block HI.out.1.blk 3; simpa using this
      have hrl := HI.out.1.map.run_len (P := Tryz.prog) Tryz.underlying112 3
      have hlen : (amap Ag.val (putL m a (L'.take k))).length ≤ 65536 := by
        have h1 := putL_len (a := a) (L'.take k) m
        have h2 : (L'.take k).length ≤ 64 := by have := HLN0.out; have := HW.out; rw [List.length_take]; omega
        have h3 := HM.out.2.2.2.2
        simp only [amap, List.length_map]
        omega
      obtain ⟨z, hz⟩ : ∃ z, z = (amap Ag.val (putL m a (L'.take k))).length := ⟨_, rfl⟩
      rw [← hz] at hrl hlen
      have hz2 : ¬ (65536 : Int) < (z : Int) := by omega
      clear hz
      go_wp2_with fail
      go_ret
      have e1 : putL m a L' = putL m a (L'.take k) := by rw [HKN.out, List.take_of_length_le (by have := HLN0.out; omega)]
      rw [e1]
      exact ⟨rfl, HI.out.1, (Chg.of_ext (S := fun i => i = mb) HX1.out).trans HI.out.2 (fun i hi e => e)⟩
end Go.Proofs.YtokllgdbmnmieaaGreat

/-! Plain: which windows have a time; what is gathered of points. -/

namespace Go.Proofs.YtokllgdbmnmieaaGreat
open Go.RowKit Go.Lib Go.Sort

theorem snoc_ind {α : Type} {P : List α → Prop} (h0 : P []) (h1 : ∀ l a, P l → P (l ++ [a])) (l : List α) : P l := by
  have h : ∀ r : List α, P r.reverse := by
    intro r
    induction r with
    | nil => exact h0
    | cons a r ih => rw [List.reverse_cons]; exact h1 _ _ ih
  have := h l.reverse
  rwa [List.reverse_reverse] at this

/-- The windows that have a time. -/
theorem mem_winL {wd st off t : Int} (h1 : 1 ≤ st) (h2 : st ≤ wd) {x : Int × Int} : x ∈ winL wd st off t ↔ x.1 % st = off % st ∧ t - wd < x.1 ∧ x.1 ≤ t ∧ x.2 = x.1 + wd := by
  have e1 := lastF_eq st off t
  have e2 := firstF_eq wd st off t
  have q1 := Int.mul_ediv_self_le (x := t - off) (k := st) (by omega)
  have q2 := Int.lt_mul_ediv_self_add (x := t - off) (k := st) (by omega)
  have q3 := Int.mul_ediv_self_le (x := t - wd - off) (k := st) (by omega)
  have q4 := Int.lt_mul_ediv_self_add (x := t - wd - off) (k := st) (by omega)
  obtain ⟨B, hB⟩ : ∃ B, B = (t - off) / st := ⟨_, rfl⟩
  obtain ⟨A, hA⟩ : ∃ A, A = (t - wd - off) / st := ⟨_, rfl⟩
  rw [← hB] at e1 q1 q2
  rw [← hA] at e2 q3 q4
  have hAB : A + 1 ≤ B := by
    have : st * A + st < st * B + st := by omega
    have h3 : st * (A + 1) < st * (B + 1) := by rw [Int.mul_add, Int.mul_add]; omega
    have := Int.lt_of_mul_lt_mul_left h3 (by omega)
    omega
  have hN : winN wd st off t = (B - A - 1).toNat + 1 := by
    unfold winN
    rw [e1, e2]
    have : ((off + st * B - (off + st * A + st)) : Int) = (B - A - 1) * st := by rw [Int.sub_mul, Int.sub_mul, Int.mul_comm B, Int.mul_comm A]; omega
    rw [this, Int.mul_ediv_cancel _ (by omega)]
  unfold winL spansL
  rw [hN, e2]
  simp only [List.mem_map, List.mem_range]
  constructor
  · rintro ⟨i, hi, rfl⟩
    simp only
    have hi2 : (i : Int) ≤ B - A - 1 := by omega
    have e3 : off + st * A + st + (i : Int) * st = off + st * (A + 1 + i) := by rw [Int.mul_add, Int.mul_add, Int.mul_comm st (i : Int)]; omega
    have m1 : st * (A + 1) ≤ st * (A + 1 + i) := Int.mul_le_mul_of_nonneg_left (by omega) (by omega)
    have m2 : st * (A + 1 + i) ≤ st * B := Int.mul_le_mul_of_nonneg_left (by omega) (by omega)
    rw [Int.mul_add, Int.mul_one] at m1
    rw [e3]
    exact ⟨by rw [Int.add_mul_emod_self_left], by omega, by omega, trivial⟩
  · rintro ⟨g1, g2, g3, g4⟩
    have g5 : (x.1 - off) % st = 0 := Int.emod_eq_emod_iff_emod_sub_eq_zero.1 g1
    obtain ⟨c, hc⟩ : ∃ c, x.1 - off = st * c := Int.dvd_of_emod_eq_zero g5
    have c1 : A < c := Int.lt_of_mul_lt_mul_left (a := st) (by omega) (by omega)
    have c2 : c < B + 1 := Int.lt_of_mul_lt_mul_left (a := st) (by rw [Int.mul_add, Int.mul_one]; omega) (by omega)
    refine ⟨(c - A - 1).toNat, by omega, ?_⟩
    have e3 : (((c - A - 1).toNat : Nat) : Int) = c - A - 1 := by omega
    have e4 : off + st * A + st + (c - A - 1) * st = off + st * c := by rw [Int.sub_mul, Int.sub_mul, Int.mul_comm c, Int.mul_comm A]; omega
    rw [e3, e4, ← hc]
    apply Prod.ext
    · simp only; omega
    · simp only; omega
theorem winL_nodup {wd st off t : Int} (h1 : 1 ≤ st) : ((winL wd st off t).map (·.1)).Nodup := by
  unfold winL spansL
  rw [List.map_map]
  refine List.Pairwise.map _ ?_ List.nodup_range
  intro i j hij he
  simp only [Function.comp] at he
  have h3 : (i : Int) * st = (j : Int) * st := by omega
  have := Int.eq_of_mul_eq_mul_right (by omega) h3
  exact hij (by omega)
/-- Width is so many steps: each time is in so many windows. -/
theorem winN_parts {st off t : Int} {p : Nat} (h1 : 1 ≤ st) (hp : 1 ≤ p) : winN ((p : Int) * st) st off t = p := by
  have e1 := Int.mul_emod_left (p : Int) st
  have e2 : (t - (p : Int) * st - off) % st = (t - off) % st := by
    rw [show t - (p : Int) * st - off = (t - off) - (p : Int) * st by omega, Int.sub_mul_emod_self_right]
  unfold winN firstF lastF
  rw [e2]
  have e3 : t - (t - off) % st - (t - (p : Int) * st - (t - off) % st + st) = ((p : Int) - 1) * st := by
    rw [Int.sub_mul]; omega
  rw [e3, Int.mul_ediv_cancel _ (by omega)]
  omega

/-- What is gathered of points. -/
def gatL (wd st off : Int) (l : List Pt) : List (Int × Ag) := l.foldl (fun m p => putL m (agOf p) (winL wd st off p.t)) []
theorem gatL_snoc (wd st off : Int) (l : List Pt) (p : Pt) : gatL wd st off (l ++ [p]) = putL (gatL wd st off l) (agOf p) (winL wd st off p.t) := by simp [gatL]
theorem agOf_bnd {p : Pt} (h1 : -9223372036854775808 ≤ p.v) (h2 : p.v ≤ 9223372036854775807) : (agOf p).bnd 1 := by
  unfold Ag.bnd agOf
  simp only
  omega

/-- Everything that holds of a map into which is put. -/
theorem putL_all {R : Int → Ag → Prop} {a : Ag} : ∀ (l : List (Int × Int)) (m : List (Int × Ag)), (∀ p ∈ m, R p.1 p.2) → (∀ x ∈ l, ∀ g, (g = Ag.zero ∨ R x.1 g) → R x.1 (agM g a)) → ∀ p ∈ putL m a l, R p.1 p.2
  | [], m, h, _ => by simpa [putL] using h
  | x :: l, m, h, hs => by
    refine putL_all l (putG m a x.1) (fun p hp => ?_) (fun y hy g hg => hs y (List.mem_cons_of_mem _ hy) g hg)
    rcases mem_aput hp with h1 | h1
    · exact h p h1
    · rw [h1]
      refine hs x List.mem_cons_self _ ?_
      cases hg : aget m x.1 with
      | none => exact .inl rfl
      | some g => exact .inr (h (x.1, g) (aget_mem hg))
theorem gatL_all {wd st off : Int} {R : Int → Ag → Prop} : ∀ (l : List Pt) , (∀ p ∈ l, ∀ x ∈ winL wd st off p.t, ∀ g, (g = Ag.zero ∨ R x.1 g) → R x.1 (agM g (agOf p))) → ∀ q ∈ gatL wd st off l, R q.1 q.2 := by
  refine snoc_ind (by intro _ q hq; simp [gatL] at hq) ?_
  intro l p ih
  intro h q hq
  rw [gatL_snoc] at hq
  exact putL_all _ _ (ih (fun p' hp' => h p' (List.mem_append_left _ hp'))) (h p (by simp)) q hq

theorem gatL_bnd {wd st off : Int} (hv : windowB wd st off = true) : ∀ (l : List Pt), (∀ p ∈ l, -9223372036854775808 ≤ p.v ∧ p.v ≤ 9223372036854775807) → ∀ q ∈ gatL wd st off l, q.2.bnd (64 * l.length) := by
  refine snoc_ind (by intro _ q hq; simp [gatL] at hq) ?_
  intro l p ih
  intro h q hq
  rw [gatL_snoc] at hq
  have h1 := h p (by simp)
  have h2 := putL_bnd (agOf_bnd h1.1 h1.2) (winL wd st off p.t) _ (64 * l.length) (ih (fun p' hp' => h p' (List.mem_append_left _ hp'))) q hq
  have h3 := winN_le (t := p.t) hv
  rw [winL_len] at h2
  exact h2.mono (by simp; omega)
theorem gatL_len {wd st off : Int} (hv : windowB wd st off = true) : ∀ (l : List Pt), (gatL wd st off l).length ≤ 64 * l.length := by
  refine snoc_ind (by simp [gatL]) ?_
  intro l p ih
  rw [gatL_snoc]
  have h2 := putL_len (a := agOf p) (winL wd st off p.t) (gatL wd st off l)
  have h3 := winN_le (t := p.t) hv
  rw [winL_len] at h2
  simp
  omega
/-- Keys are Froms of windows that have a time of a point. -/
theorem gatL_keys {wd st off : Int} (l : List Pt) : ∀ q ∈ gatL wd st off l, ∃ p ∈ l, ∃ x ∈ winL wd st off p.t, x.1 = q.1 :=
  gatL_all (R := fun z _ => ∃ p ∈ l, ∃ x ∈ winL wd st off p.t, x.1 = z) l (fun p hp x hx _ _ => ⟨p, hp, x, hx, rfl⟩)
theorem aput_nodup {m : List (Int × Ag)} (h : (m.map (·.1)).Nodup) (z : Int) (g : Ag) : ((aput m z g).map (·.1)).Nodup := by
  by_cases he : aget m z = none
  · rw [aput_new g he, List.map_append]
    rw [List.nodup_append]
    refine ⟨h, by simp, ?_⟩
    intro a ha b hb
    simp at hb
    rw [hb]
    rintro rfl
    exact aget_none_iff.1 he ha
  · rw [aput_keys_old g he]; exact h
theorem putL_nodup {a : Ag} : ∀ (l : List (Int × Int)) (m : List (Int × Ag)), (m.map (·.1)).Nodup → ((putL m a l).map (·.1)).Nodup
  | [], m, h => by simpa [putL] using h
  | x :: l, m, h => putL_nodup l (putG m a x.1) (aput_nodup h _ _)
theorem gatL_nodup {wd st off : Int} : ∀ (l : List Pt), ((gatL wd st off l).map (·.1)).Nodup := by
  refine snoc_ind (by simp [gatL]) ?_
  intro l p ih
  rw [gatL_snoc]; exact putL_nodup _ _ ih
end Go.Proofs.YtokllgdbmnmieaaGreat

/-! aggr.Add, aggr.All. -/

namespace Go.Proofs.YtokllgdbmnmieaaGreat
open Go.RowKit Go.Lib Go.Sort

abbrev agZ : Obj := .cells #[.int .i64 0, .int .i64 0, .int .u64 0, .int .i64 0, .int .i64 0, .int .i64 0, .int .i64 0, .int .i64 0, .int .i64 0, .int .i64 0, .int .i64 0] 75 (0, 0)

/-- That of many points. -/
def agA (l : List Pt) : Ag := l.foldl (fun a p => agM a (agOf p)) Ag.zero
theorem agA_snoc (l : List Pt) (p : Pt) : agA (l ++ [p]) = agM (agA l) (agOf p) := by simp [agA]
theorem agA_bnd (l : List Pt) (h : ∀ p ∈ l, -9223372036854775808 ≤ p.v ∧ p.v ≤ 9223372036854775807) : (agA l).bnd l.length := by
  revert h
  refine snoc_ind (P := fun l => (∀ p ∈ l, -9223372036854775808 ≤ p.v ∧ p.v ≤ 9223372036854775807) → (agA l).bnd l.length) (fun _ => zero_bnd 0) ?_ l
  intro l p ih h
  have h1 := h p (by simp)
  rw [agA_snoc]
  have := agM_bnd (ih (fun q hq => h q (List.mem_append_left _ hq))) (agOf_bnd h1.1 h1.2)
  simpa using this

end Go.Proofs.YtokllgdbmnmieaaGreat

/-! Rows of buckets; gathered.buckets up to its sort: in whatever order the map is told. -/

namespace Go.Proofs.YtokllgdbmnmieaaGreat
open Go.RowKit Go.Lib Go.Sort

/-- A bucket, its cells. -/
structure Bk where
  lo : Int
  hi : Int
  a : Ag
def bkc (b : Bk) : List Value := [.int .i64 b.lo, .int .i64 b.hi, .int .i64 b.a.n, .int .i64 (b.a.s / 18446744073709551616), .int .u64 (b.a.s % 18446744073709551616), .int .i64 b.a.mn, .int .i64 b.a.mx,
  .int .i64 b.a.f.t, .int .i64 b.a.f.v, .int .i64 b.a.f.s, .int .i64 b.a.l.t, .int .i64 b.a.l.v, .int .i64 b.a.l.s]
def bks (l : List Bk) : List Value := l.flatMap bkc
theorem bkc_len (b : Bk) : (bkc b).length = 13 := rfl
theorem bkc_one (b : Bk) : ∀ v ∈ bkc b, v.oneCell' = true := by
  intro v hv
  simp only [bkc, List.mem_cons, List.not_mem_nil, or_false] at hv
  rcases hv with rfl | rfl | rfl | rfl | rfl | rfl | rfl | rfl | rfl | rfl | rfl | rfl | rfl <;> rfl
theorem bks_one (l : List Bk) : ∀ u ∈ bks l, u.oneCell' = true := by
  intro u hu
  simp only [bks, List.mem_flatMap] at hu
  obtain ⟨b, _, h⟩ := hu
  exact bkc_one b u h
theorem bks_append (a b : List Bk) : bks (a ++ b) = bks a ++ bks b := by simp [bks]
theorem bks_len (l : List Bk) : (bks l).length = l.length * 13 := enc_len bkc_len l
theorem elem_bk : ElemOk Tryz.prog 46 77 13 104 :=
  ⟨Tryz.underlying46, by
    obtain ⟨i0, hi, hz0, hz1, hz2⟩ := info_parts (show (Tryz.prog.info? 77).map (fun i => (i.zero, i.size, i.bytes)) = some (some (.agg #[.int .i64 0, .int .i64 0, .int .i64 0, .int .i64 0, .int .u64 0, .int .i64 0, .int .i64 0, .int .i64 0, .int .i64 0, .int .i64 0, .int .i64 0, .int .i64 0, .int .i64 0]), 13, 104) from by kernel_rfl)
    exact ⟨i0, _, hi, hz0, hz1, hz2, rfl⟩, by decide⟩

/-- A window of the map as a bucket. -/
def bkOf (wd : Int) (p : Int × Ag) : Bk := ⟨p.1, p.1 + wd, p.2⟩

/-- What has come of the windows, while some are left. -/
structure GbR (w : World) (g mb r : Nat) (wd st off : Int) (m dn lm : List (Int × Ag)) (v : Value) (wr : World) : Prop where
  iter : Iter encI wr mb r (amap Ag.val m) (amap Ag.val lm)
  perm : (dn ++ lm).Perm m
  blk : wr.heap[g]? = some (.cells #[.int .i64 wd, .int .i64 st, .int .i64 off, .map (some mb)] 114 (0, 0))
  made : MadeTo w 77 13 v dn.length (bks (dn.map (bkOf wd))) wr
  new : w.heap.size ≤ r ∧ g < w.heap.size ∧ mb < w.heap.size
  apart : v.ownBlock ≠ some r

theorem amap_split {l1 l2 : List (Int × Value)} {k : Int} {v : Value} {lm : List (Int × Ag)} (h : amap Ag.val lm = l1 ++ (k, v) :: l2) :
    ∃ m1 q m2, lm = m1 ++ (k, q) :: m2 ∧ v = q.val ∧ amap Ag.val m1 = l1 ∧ amap Ag.val m2 = l2 := by
  obtain ⟨m1, m3, e, h1, h2⟩ := List.map_eq_append_iff.1 h
  obtain ⟨q, m2, e2, h3, h4⟩ := List.map_eq_cons_iff.1 h2
  obtain ⟨q1, q2⟩ := q
  simp only [Prod.mk.injEq] at h3
  exact ⟨m1, q2, m2, by rw [e, e2, ← h3.1], h3.2.symm, h1, h4⟩

set_option maxHeartbeats 8000000 in
set_option maxRecDepth 100000 in
theorem buckets_upto {w : World} {g mb : Nat} {wd st off : Int} {m : List (Int × Ag)} (hg : GatAt w g mb wd st off m) (hv : windowB wd st off = true) (hm : ∀ p ∈ m, -2305843009213693952 ≤ p.1 ∧ p.1 ≤ 2305843009213693952) (hlen : m.length ≤ 70000)
    (R : Value → World → Prop)
    (hsort : ∀ (dn : List (Int × Ag)) (v : Value) (wr : World), dn.Perm m → MadeTo w 77 13 v dn.length (bks (dn.map (bkOf wd))) wr → Calls Tryz.prog 76 #[v, .func (.func 77) #[] #[]] wr fun e w' => e = .returned (.tuple #[]) ∧ R v w') :
    Calls Tryz.prog 44 #[.pointer (some ⟨g, 0, none⟩)] w fun e w' => ∃ v, e = .returned v ∧ R v w' := by
  have HS := Lib.hid hsort
  have HM := Lib.hid (And.intro hm hlen)
  have HV := Lib.hid (window_nums hv)
  obtain ⟨it, hrg, hit⟩ := iter_range (P := Tryz.prog) hg.map Tryz.underlying112
  have c3 : w.cell? ⟨g, 3, none⟩ = some (.map (some mb)) := by have := cell_of_block hg.blk 3; simpa using this
  have HR : Hid (GbR w g mb w.heap.size wd st off m [] m (.slice none 0 0) (w.alloc it)) := Lib.hid ⟨hit, List.Perm.refl _, by rw [heap_alloc_old _ _ (block_lt hg.blk)]; exact hg.blk, ⟨Row.nil _ _ _, fun g hg => by simp [Value.ownBlock] at hg, (Ext.refl w).alloc _⟩, ⟨Nat.le_refl _, hg.lt.1, hg.lt.2⟩, by simp [Value.ownBlock]⟩
  have HG := Lib.hid hg
  clear hg hsort hm hlen hv hit
  go_enter Tryz.func44, Tryz.ntmps44
  go_wp2_with fail
  clear hrg c3
  obtain ⟨r, hr⟩ : ∃ r : Nat, r = w.heap.size := ⟨_, rfl⟩
  rw [← hr] at HR
  rw [← hr]
  clear hr
  go_loopw [3] (fun s3 wr => ∃ (dn lm : List (Int × Ag)) (va : Option Addr) (vc : Nat), s3 = .slice va (List.length dn) vc ∧ Hid (GbR w g mb r wd st off m dn lm s3 wr)) (fun _ wr => iterLeft wr mb r)
  case atStart => exact ⟨[], m, none, 0, rfl, HR⟩
  case round =>
    clear HR
    obtain ⟨dn, lm, va, vc, rfl, HR⟩ := hrel
    rcases iter_next (P := Tryz.prog) HR.out.iter with ⟨hnil, hnx⟩ | ⟨l1, k, v, l2, w2, hl, hnx, hen, hi, hch, hsz⟩
    · have HN : Hid (dn.Perm m) := Lib.hid (by
        have h1 : lm = [] := by simpa [amap] using hnil
        have h2 := HR.out.perm
        rw [h1, List.append_nil] at h2
        exact h2)
      clear hnil
      go_wp2_with fail
      refine (HS.out dn _ wr HN.out HR.out.made).mono ?_
      rintro e w9 ⟨rfl, hR⟩
      have HRR := Lib.hid hR
      clear hR
      go_wp2_with fail
      go_ret
      exact ⟨_, rfl, HRR.out⟩
    · obtain ⟨m1, q, m2, hlm, rfl, hm1, hm2⟩ := amap_split hl
      have HQ : Hid ((k, q) ∈ m) := Lib.hid (HR.out.perm.subset (by rw [hlm]; simp))
      have HKB := Lib.hid (HM.out.1 _ HQ.out)
      have HG2 : Hid (w2.heap[g]? = some (.cells #[.int .i64 wd, .int .i64 st, .int .i64 off, .map (some mb)] 114 (0, 0))) := Lib.hid ((hch.block g (block_lt HR.out.blk) (by have := HR.out.new; omega)).trans HR.out.blk)
      have HRow2 := Lib.hid (HR.out.made.row.chg hch (fun x hx e => HR.out.apart (by rw [hx, e])))
      have HLN : Hid (dn.length + m1.length + m2.length + 1 ≤ 70000) := Lib.hid (by
        have h1 := HR.out.perm.length_eq
        rw [hlm] at h1
        simp at h1
        have := HM.out.2
        omega)
      have HI := Lib.hid hi
      have HC := Lib.hid hch
      have HLM := Lib.hid (And.intro hlm (And.intro hm1 hm2))
      have Hm0 := Lib.hid hl
      have HEQ : Hid (q.val = .agg #[.int .i64 q.n, .int .i64 (q.s / 18446744073709551616), .int .u64 (q.s % 18446744073709551616), .int .i64 q.mn, .int .i64 q.mx, .int .i64 q.f.t, .int .i64 q.f.v, .int .i64 q.f.s, .int .i64 q.l.t, .int .i64 q.l.v, .int .i64 q.l.s]) := Lib.hid rfl
      have HEK : Hid (encI k = .int .i64 k) := Lib.hid rfl
      simp only [HEQ.out, HEK.out] at hnx hen
      clear hlm hm1 hm2 hl hi hch hsz
      go_wp2_with fail
      clear hnx hen
      obtain ⟨bx, hbx⟩ : ∃ bx, bx = w2.heap.size := ⟨_, rfl⟩
      have HX3 : Hid (Ext w2 (w2.alloc (.cells #[.int .i64 q.n, .int .i64 (q.s / 18446744073709551616), .int .u64 (q.s % 18446744073709551616), .int .i64 q.mn, .int .i64 q.mx, .int .i64 q.f.t, .int .i64 q.f.v, .int .i64 q.f.s, .int .i64 q.l.t, .int .i64 q.l.v, .int .i64 q.l.s] 75 (0, 0)))) := Lib.hid ((Ext.refl w2).alloc _)
      have HB3 := Lib.hid (heap_alloc_new w2 (.cells #[.int .i64 q.n, .int .i64 (q.s / 18446744073709551616), .int .u64 (q.s % 18446744073709551616), .int .i64 q.mn, .int .i64 q.mx, .int .i64 q.f.t, .int .i64 q.f.v, .int .i64 q.f.s, .int .i64 q.l.t, .int .i64 q.l.v, .int .i64 q.l.s] 75 (0, 0)))
      rw [← hbx] at HB3
      rw [← hbx]
      have HBX := Lib.hid hbx
      clear hbx
      generalize w2.alloc (.cells #[.int .i64 q.n, .int .i64 (q.s / 18446744073709551616), .int .u64 (q.s % 18446744073709551616), .int .i64 q.mn, .int .i64 q.mx, .int .i64 q.f.t, .int .i64 q.f.v, .int .i64 q.f.s, .int .i64 q.l.t, .int .i64 q.l.v, .int .i64 q.l.s] 75 (0, 0)) = w3 at *
      have p1 : w3.cell? ⟨g, 0, none⟩ = some (.int .i64 wd) := by have := cell_of_block ((HX3.out.block (block_lt HG2.out)).trans HG2.out) 0; simpa using this
      have b0 : w3.cell? ⟨bx, 0, none⟩ = some (.int .i64 q.n) := by have := cell_of_block HB3.out 0; simpa using this
      have b1 : w3.cell? ⟨bx, 1, none⟩ = some (.int .i64 (q.s / 18446744073709551616)) := by have := cell_of_block HB3.out 1; simpa using this
      have b2 : w3.cell? ⟨bx, 2, none⟩ = some (.int .u64 (q.s % 18446744073709551616)) := by have := cell_of_block HB3.out 2; simpa using this
      have b3 : w3.cell? ⟨bx, 3, none⟩ = some (.int .i64 q.mn) := by have := cell_of_block HB3.out 3; simpa using this
      have b4 : w3.cell? ⟨bx, 4, none⟩ = some (.int .i64 q.mx) := by have := cell_of_block HB3.out 4; simpa using this
      have b5 : w3.cell? ⟨bx, 5, none⟩ = some (.int .i64 q.f.t) := by have := cell_of_block HB3.out 5; simpa using this
      have b6 : w3.cell? ⟨bx, 6, none⟩ = some (.int .i64 q.f.v) := by have := cell_of_block HB3.out 6; simpa using this
      have b7 : w3.cell? ⟨bx, 7, none⟩ = some (.int .i64 q.f.s) := by have := cell_of_block HB3.out 7; simpa using this
      have b8 : w3.cell? ⟨bx, 8, none⟩ = some (.int .i64 q.l.t) := by have := cell_of_block HB3.out 8; simpa using this
      have b9 : w3.cell? ⟨bx, 9, none⟩ = some (.int .i64 q.l.v) := by have := cell_of_block HB3.out 9; simpa using this
      have b10 : w3.cell? ⟨bx, 10, none⟩ = some (.int .i64 q.l.s) := by have := cell_of_block HB3.out 10; simpa using this
      have e1 : IntKind.i64.wrap (k + wd) = k + wd := IntWalk.i64_in _ (by have := HKB.out; have := HV.out; omega)
      refine wp_region_split_lit [0] [1, 2, 3, 4, 5, 6, 7, 8, 9, 10, 11] [12, 13, 14] (by kernel_rfl) (by kernel_rfl) (fun _ _ dd _ _ hh => by cases dd <;> exact hh) ?_
      simp only [pickOps, List.getElem?_cons_succ, List.getElem?_cons_zero]
      repeat (go_big_quiet_step (fail))
      refine wpQuiet_nil ?_
      repeat (go_big_quiet_step (fail))
      refine wpQuiet_nil ?_
      intro w4 hw'
      have HX4 : Hid (Ext w2 w4) := Lib.hid (by obtain ⟨k, rfl⟩ := hw'; exact HX3.out.trans (Ext.drewN _ _))
      clear hw' p1 b0 b1 b2 b3 b4 b5 b6 b7 b8 b9 b10
      have HR4 := Lib.hid (HRow2.out.ext HX4.out)
      go_wp2_with (refine wpList_append_to elem_bk rfl _ _ rfl rfl rfl (HR4.out.alloc _) (enc_one (p := (⟨k, k + wd, q⟩ : Bk)) (enc := bkc) (heap_alloc_new w4 (.cells #[.int .i64 k, .int .i64 (k + wd), .int .i64 q.n, .int .i64 (q.s / 18446744073709551616), .int .u64 (q.s % 18446744073709551616), .int .i64 q.mn, .int .i64 q.mx, .int .i64 q.f.t, .int .i64 q.f.v, .int .i64 q.f.s, .int .i64 q.l.t, .int .i64 q.l.v, .int .i64 q.l.s] 77 (0, 0))) rfl rfl (bkc_one _)) (by unfold maxLen; have := HLN.out; omega) (by have := HLN.out; omega) ?_; rintro v' w5 ha; obtain ⟨va', vc', rfl⟩ := ha.row.shape; have HA := Lib.hid ha; clear ha)
      have hIt4 : Iter encI w4 mb r (amap Ag.val m) (amap Ag.val (m1 ++ m2)) := by
        have h1 := HI.out.ext HX4.out
        rw [← HLM.out.2.1, ← HLM.out.2.2] at h1
        simpa [amap] using h1
      have hown : ∀ i, (Value.slice va dn.length vc).ownBlock = some i → w.heap.size ≤ i := HR.out.made.own
      have hnw := HR.out.new
      have hrl := HR.out.iter.lt
      have hsz2 := HC.out.size
      have hsz4 := HX4.out.size
      have hA := HA.out
      have hchg := hA.chg
      have hIt5 : Iter encI w5 mb r (amap Ag.val m) (amap Ag.val (m1 ++ m2)) := (hIt4.ext ((Ext.refl w4).alloc _)).chg hchg (fun e => by have := hown _ e; omega) (fun e => HR.out.apart e)
      have hperm : (dn ++ [(k, q)] ++ (m1 ++ m2)).Perm m := by
        have h1 := HR.out.perm
        rw [HLM.out.1] at h1
        refine List.Perm.trans ?_ h1
        rw [List.append_assoc]
        show (dn ++ ((k, q) :: (m1 ++ m2))).Perm _
        exact (List.perm_middle).symm.append_left dn
      have hEx : Ext w w5 := by
        have h1 : Chg (fun i => w.heap.size ≤ i) w wr := Chg.of_ext HR.out.made.ext
        have h2 := h1.trans HC.out (fun i _ e => by omega)
        have h3 := h2.trans (Chg.of_ext (S := fun _ => False) HX4.out) (fun _ _ e => e.elim)
        exact ((h3.alloc _).trans hchg (fun i _ e => hown i e)).ext (fun i hi e => by omega)
      have hN : GbR w g mb r wd st off m (dn ++ [(k, q)]) (m1 ++ m2) (.slice va' (dn.length + 1) vc') w5 := by
        refine ⟨hIt5, hperm, ?_, ⟨?_, ?_, hEx⟩, hnw, ?_⟩
        · have h1 := (HX4.out.block (block_lt HG2.out)).trans HG2.out
          have h2 := block_lt h1
          exact (hchg.block g (by simp; omega) (fun e => by have := hown _ e; omega)).trans (by rw [heap_alloc_old w4 _ h2]; exact h1)
        · have h1 := hA.row
          rw [show (dn ++ [(k, q)]).length = dn.length + 1 by simp]
          rw [show (dn ++ [(k, q)]).map (bkOf wd) = dn.map (bkOf wd) ++ [⟨k, k + wd, q⟩] by simp [bkOf], bks_append]
          exact h1
        · intro i hi
          rcases hA.loc with e | e
          · exact hown i (e ▸ hi)
          · rw [e] at hi
            cases hi
            have := HR.out.made.ext.size
            simp
            omega
        · intro e
          rcases hA.loc with e2 | e2
          · exact HR.out.apart (e2 ▸ e)
          · rw [e2] at e
            simp at e
            omega
      refine ⟨⟨dn ++ [(k, q)], m1 ++ m2, va', vc', by simp, Lib.hid hN⟩, ?_⟩
      rw [hN.iter.count, HR.out.iter.count, HLM.out.1]
      simp [amap]
end Go.Proofs.YtokllgdbmnmieaaGreat

/-! Plain: sessions: points in groups; the spans of these; what is told of each. -/

namespace Go.Proofs.YtokllgdbmnmieaaGreat
open Go.RowKit Go.Lib Go.Sort

/-- Spans, as they grow. -/
def spStep (gap : Int) (out : List (Int × Int)) (t : Int) : List (Int × Int) :=
  match out.getLast? with
  | some s => if t < s.2 then out.dropLast ++ [(s.1, t + gap)] else out ++ [(t, t + gap)]
  | none => [(t, t + gap)]
def spL (gap : Int) (l : List Int) : List (Int × Int) := l.foldl (spStep gap) []
theorem spL_snoc (gap : Int) (l : List Int) (t : Int) : spL gap (l ++ [t]) = spStep gap (spL gap l) t := by simp [spL]

def gLo (g : List Pt) : Int := (g.head?.map (·.t)).getD 0
def gHi (g : List Pt) : Int := (g.getLast?.map (·.t)).getD 0
/-- Groups, as they grow. -/
def gStep (gap : Int) (gs : List (List Pt)) (p : Pt) : List (List Pt) :=
  match gs.getLast? with
  | some g => if p.t < gHi g + gap then gs.dropLast ++ [g ++ [p]] else gs ++ [[p]]
  | none => [[p]]
def grp (gap : Int) (l : List Pt) : List (List Pt) := l.foldl (gStep gap) []
theorem grp_snoc (gap : Int) (l : List Pt) (p : Pt) : grp gap (l ++ [p]) = gStep gap (grp gap l) p := by simp [grp]

structure GrpOk (gap : Int) (l : List Pt) (gs : List (List Pt)) : Prop where
  flat : gs.flatten = l
  some : ∀ g ∈ gs, g ≠ []
  apart : gs.Pairwise (fun a b => gHi a + gap ≤ gLo b)
  within : ∀ g ∈ gs, ∀ p ∈ g, gLo g ≤ p.t ∧ p.t ≤ gHi g
  spans : spL gap (l.map (·.t)) = gs.map (fun g => (gLo g, gHi g + gap))

theorem gHi_snoc (g : List Pt) (p : Pt) : gHi (g ++ [p]) = p.t := by simp [gHi]
theorem gLo_snoc {g : List Pt} (h : g ≠ []) (p : Pt) : gLo (g ++ [p]) = gLo g := by
  cases g with
  | nil => exact absurd rfl h
  | cons q g => simp [gLo]

theorem grp_ok {gap : Int} (hg : 1 ≤ gap) (l : List Pt) (hs : l.Pairwise (fun a b => a.t ≤ b.t)) : GrpOk gap l (grp gap l) := by
  revert hs
  refine snoc_ind (P := fun l => l.Pairwise (fun a b => a.t ≤ b.t) → GrpOk gap l (grp gap l)) (fun _ => ⟨rfl, by simp [grp], by simp [grp], by simp [grp], by simp [grp, spL]⟩) ?_ l
  intro l p ih hs
  rw [List.pairwise_append] at hs
  obtain ⟨h1, _, h2⟩ := hs
  obtain ⟨i1, i2, i3, i4, i5⟩ := ih h1
  rw [grp_snoc]
  have hle : ∀ q ∈ l, q.t ≤ p.t := fun q hq => h2 q hq p (by simp)
  unfold gStep
  cases hL : (grp gap l).getLast? with
  | none =>
    have h0 : grp gap l = [] := by simpa using hL
    rw [h0] at i1 i5
    simp only
    have hl : l = [] := by simpa using i1.symm
    subst hl
    exact ⟨by simp, by simp, by simp, by simp [gLo, gHi], by simp [spL, spStep, gLo, gHi]⟩
  | some g =>
    obtain ⟨pre, hpre⟩ : ∃ pre, grp gap l = pre ++ [g] := by
      rcases List.eq_nil_or_concat (grp gap l) with e | ⟨pre, q, e⟩
      · rw [e] at hL; simp at hL
      · rw [e, List.concat_eq_append] at hL ⊢
        simp at hL
        exact ⟨pre, by rw [hL]⟩
    have hgm : g ∈ grp gap l := by rw [hpre]; simp
    have hgn := i2 g hgm
    have hgl : ∀ q ∈ g, q ∈ l := fun q hq => by rw [← i1]; exact List.mem_flatten.2 ⟨g, hgm, hq⟩
    have hghi : gHi g ≤ p.t := by
      rcases List.eq_nil_or_concat g with e | ⟨g', q, e⟩
      · exact absurd e hgn
      · rw [e, List.concat_eq_append, gHi_snoc]
        exact hle q (hgl q (by rw [e]; simp))
    have hglo : gLo g ≤ gHi g := by
      rcases List.eq_nil_or_concat g with e | ⟨g', q, e⟩
      · exact absurd e hgn
      · have := i4 g hgm q (by rw [e]; simp)
        omega
    rw [hpre] at i1 i2 i3 i4 i5
    rw [List.pairwise_append] at i3
    obtain ⟨j1, _, j2⟩ := i3
    have hsp : ((pre ++ [g]).map (fun g => (gLo g, gHi g + gap))).getLast? = some (gLo g, gHi g + gap) := by simp
    have hsp2 : spL gap ((l ++ [p]).map (·.t)) = spStep gap ((pre ++ [g]).map (fun g => (gLo g, gHi g + gap))) p.t := by
      rw [List.map_append, List.map_cons, List.map_nil, spL_snoc, i5]
    simp only
    rw [hpre]
    split
    · rename_i hlt
      refine ⟨?_, ?_, ?_, ?_, ?_⟩
      · simp at i1
        simp [← i1]
      · intro x hx
        simp at hx
        rcases hx with hx | hx
        · exact i2 x (by simp [hx])
        · rw [hx]; simp
      · simp only [List.dropLast_concat]
        rw [List.pairwise_append]
        refine ⟨j1, by simp, ?_⟩
        intro a ha b hb
        simp at hb
        rw [hb, gLo_snoc hgn]
        exact j2 a ha g (by simp)
      · intro x hx
        simp at hx
        rcases hx with hx | hx
        · exact i4 x (by simp [hx])
        · rw [hx]
          intro q hq
          rw [gLo_snoc hgn, gHi_snoc]
          simp at hq
          rcases hq with hq | hq
          · have := i4 g (by simp) q hq; omega
          · rw [hq]; omega
      · rw [hsp2]
        unfold spStep
        rw [hsp]
        simp only
        rw [if_pos hlt]
        simp [gHi_snoc, gLo_snoc hgn]
    · rename_i hlt
      refine ⟨?_, ?_, ?_, ?_, ?_⟩
      · simp at i1
        simp [← i1]
      · intro x hx
        simp at hx
        rcases hx with hx | hx | hx
        · exact i2 x (by simp [hx])
        · rw [hx]; exact hgn
        · rw [hx]; simp
      · rw [List.pairwise_append]
        refine ⟨by rw [List.pairwise_append]; exact ⟨j1, by simp, j2⟩, by simp, ?_⟩
        intro a ha b hb
        simp at hb
        rw [hb]
        simp only [gLo, List.head?_cons, Option.map_some, Option.getD_some]
        rcases List.mem_append.1 ha with ha | ha
        · have := j2 a ha g (by simp); omega
        · simp at ha; rw [ha]; omega
      · intro x hx
        rcases List.mem_append.1 hx with hx | hx
        · exact i4 x hx
        · simp at hx
          rw [hx]
          intro q hq
          simp at hq
          rw [hq]
          simp [gLo, gHi]
      · rw [hsp2]
        unfold spStep
        rw [hsp]
        simp only
        rw [if_neg hlt]
        simp [gHi, gLo]

theorem ordI_t (a b : Pt) : (ordI a b < 0 → a.t ≤ b.t) ∧ (¬ ordI a b < 0 → b.t ≤ a.t) ∧ (0 < ordI a b → b.t ≤ a.t) ∧ (¬ 0 < ordI a b → a.t ≤ b.t) := by
  unfold ordI orL cmpI
  by_cases h1 : a.t < b.t
  · rw [if_pos h1]
    simp
    omega
  · by_cases h2 : b.t < a.t
    · rw [if_neg h1, if_pos h2]
      simp
      omega
    · refine ⟨fun _ => by omega, fun _ => by omega, fun _ => by omega, fun _ => by omega⟩

/-- What is told of a group. -/
theorem agA_ends (g : List Pt) (h : g ≠ []) : (agA g).n = g.length ∧ (agA g).f ∈ g ∧ (agA g).l ∈ g ∧ ∀ p ∈ g, (agA g).f.t ≤ p.t ∧ p.t ≤ (agA g).l.t := by
  revert h
  refine snoc_ind (P := fun g => g ≠ [] → (agA g).n = g.length ∧ (agA g).f ∈ g ∧ (agA g).l ∈ g ∧ ∀ p ∈ g, (agA g).f.t ≤ p.t ∧ p.t ≤ (agA g).l.t) (fun h => absurd rfl h) ?_ g
  intro g p ih _
  rw [agA_snoc]
  by_cases hg : g = []
  · subst hg
    simp [agA, agM, Ag.zero, agOf]
  · obtain ⟨h1, h2, h3, h4⟩ := ih hg
    have hn : ¬ (agA g).n = 0 := by rw [h1]; have := List.length_pos_iff.2 hg; omega
    unfold agM
    rw [if_neg hn]
    simp only
    refine ⟨by rw [h1]; simp [agOf], ?_, ?_, ?_⟩
    · split
      · simp [agOf]
      · exact List.mem_append_left _ h2
    · split
      · simp [agOf]
      · exact List.mem_append_left _ h3
    · have k1 := ordI_t (agOf p).f (agA g).f
      have k2 := ordI_t (agOf p).l (agA g).l
      have e1 : (agOf p).f = p := rfl
      have e2 : (agOf p).l = p := rfl
      rw [e1] at k1
      rw [e2] at k2
      rw [e1, e2]
      have hfl := h4 _ h3
      intro q hq
      simp at hq
      rcases hq with hq | hq
      · have := h4 q hq
        split <;> split <;> omega
      · rw [hq]
        split <;> split <;> omega

/-- What the sessions have. -/
def sesBk (gap : Int) (g : List Pt) : Bk := ⟨gLo g, gHi g + gap, agA g⟩
def sesL (gap : Int) (l : List Pt) : List Bk := (grp gap l).map (sesBk gap)
theorem ses_ends {gap : Int} {g : List Pt} (h : g ≠ []) (hw : ∀ p ∈ g, gLo g ≤ p.t ∧ p.t ≤ gHi g) : (agA g).f.t = gLo g ∧ (agA g).l.t = gHi g ∧ (agA g).n = g.length := by
  obtain ⟨h1, h2, h3, h4⟩ := agA_ends g h
  have a1 := hw _ h2
  have a2 := hw _ h3
  have b1 : ∃ q ∈ g, q.t = gLo g := by
    cases g with
    | nil => exact absurd rfl h
    | cons q g => exact ⟨q, by simp, by simp [gLo]⟩
  have b2 : ∃ q ∈ g, q.t = gHi g := by
    rcases List.eq_nil_or_concat g with e | ⟨g', q, e⟩
    · exact absurd e h
    · refine ⟨q, by rw [e]; simp, ?_⟩
      rw [e, List.concat_eq_append, gHi_snoc]
  obtain ⟨q1, m1, e1⟩ := b1
  obtain ⟨q2, m2, e2⟩ := b2
  have c1 := h4 _ m1
  have c2 := h4 _ m2
  exact ⟨by omega, by omega, h1⟩
end Go.Proofs.YtokllgdbmnmieaaGreat

/-! Plain: points in small buckets, and these in windows that fit them, are the points in the windows. -/

namespace Go.Proofs.YtokllgdbmnmieaaGreat
open Go.RowKit Go.Lib Go.Sort

theorem ordI_neg (p q : Pt) : ordI p q < 0 ↔ (p.t < q.t ∨ (p.t = q.t ∧ (p.s < q.s ∨ (p.s = q.s ∧ p.v < q.v)))) := by
  unfold ordI orL orL orL orL cmpI
  split <;> split <;> (try split) <;> (try split) <;> omega
theorem ordI_pos (p q : Pt) : 0 < ordI p q ↔ (q.t < p.t ∨ (p.t = q.t ∧ (q.s < p.s ∨ (p.s = q.s ∧ q.v < p.v)))) := by
  unfold ordI orL orL orL orL cmpI
  split <;> split <;> (try split) <;> (try split) <;> omega

/-- The first one of two, the last one. -/
def fstP (a b : Pt) : Pt := if ordI b a < 0 then b else a
def lstP (a b : Pt) : Pt := if 0 < ordI b a then b else a
theorem pt_ext {a b : Pt} (h1 : a.t = b.t) (h2 : a.v = b.v) (h3 : a.s = b.s) : a = b := by
  cases a; cases b; simp_all
theorem fstP_comm (a b : Pt) : fstP a b = fstP b a := by
  unfold fstP
  have h1 := ordI_neg a b
  have h2 := ordI_neg b a
  by_cases ha : ordI a b < 0
  · rw [if_pos ha, if_neg (by rw [h2]; have := h1.1 ha; omega)]
  · by_cases hb : ordI b a < 0
    · rw [if_pos hb, if_neg ha]
    · rw [if_neg ha, if_neg hb]
      rw [h1] at ha
      rw [h2] at hb
      exact pt_ext (by omega) (by omega) (by omega)
theorem lstP_comm (a b : Pt) : lstP a b = lstP b a := by
  unfold lstP
  have h1 := ordI_pos a b
  have h2 := ordI_pos b a
  by_cases ha : 0 < ordI a b
  · rw [if_pos ha, if_neg (by rw [h2]; have := h1.1 ha; omega)]
  · by_cases hb : 0 < ordI b a
    · rw [if_pos hb, if_neg ha]
    · rw [if_neg ha, if_neg hb]
      rw [h1] at ha
      rw [h2] at hb
      exact pt_ext (by omega) (by omega) (by omega)
theorem fstP_assoc (a b c : Pt) : fstP (fstP a b) c = fstP a (fstP b c) := by
  unfold fstP
  have e1 := ordI_neg b a
  have e2 := ordI_neg c a
  have e3 := ordI_neg c b
  by_cases h1 : ordI b a < 0 <;> by_cases h2 : ordI c b < 0 <;> by_cases h3 : ordI c a < 0 <;> simp [h1, h2, h3]
  all_goals (exfalso; simp only [h1, h2, h3] at e1 e2 e3; simp at e1 e2 e3; omega)
theorem lstP_assoc (a b c : Pt) : lstP (lstP a b) c = lstP a (lstP b c) := by
  unfold lstP
  have e1 := ordI_pos b a
  have e2 := ordI_pos c a
  have e3 := ordI_pos c b
  by_cases h1 : 0 < ordI b a <;> by_cases h2 : 0 < ordI c b <;> by_cases h3 : 0 < ordI c a <;> simp [h1, h2, h3]
  all_goals (exfalso; simp only [h1, h2, h3] at e1 e2 e3; simp at e1 e2 e3; omega)

/-- Two that both have points. -/
def agP (a b : Ag) : Ag := ⟨a.n + b.n, a.s + b.s, min a.mn b.mn, max a.mx b.mx, fstP a.f b.f, lstP a.l b.l⟩
theorem agM_pos {a b : Ag} (h : 1 ≤ a.n) : agM a b = agP a b := by unfold agM agP fstP lstP; rw [if_neg (by omega)]
theorem agM_nil {a b : Ag} (h : a.n = 0) : agM a b = b := by unfold agM; rw [if_pos h]
theorem agP_comm (a b : Ag) : agP a b = agP b a := by
  unfold agP
  rw [Int.add_comm a.n, Int.add_comm a.s, Int.min_comm a.mn, Int.max_comm a.mx, fstP_comm a.f, lstP_comm a.l]
theorem agP_assoc (a b c : Ag) : agP (agP a b) c = agP a (agP b c) := by
  unfold agP
  simp only [Int.add_assoc, fstP_assoc, lstP_assoc]
  congr 1
  · omega
  · omega

theorem agA_one (p : Pt) : agA [p] = agOf p := by simp [agA, agM, Ag.zero]
theorem agA_pos (l : List Pt) (h : l ≠ []) : 1 ≤ (agA l).n := by
  have := (agA_ends l h).1
  have h2 : 0 < l.length := List.length_pos_iff.2 h
  omega
theorem agA_append (x y : List Pt) (hy : y ≠ []) : agA (x ++ y) = agM (agA x) (agA y) := by
  revert hy
  refine snoc_ind (P := fun y => y ≠ [] → agA (x ++ y) = agM (agA x) (agA y)) (fun h => absurd rfl h) (fun y p ih _ => ?_) y
  rw [← List.append_assoc, agA_snoc, agA_snoc]
  by_cases hy : y = []
  · subst hy
    rw [List.append_nil]
    have e : agM (agA []) (agOf p) = agOf p := by simp [agA, agM, Ag.zero]
    rw [e]
  · rw [ih hy]
    have h2 := agA_pos y hy
    by_cases hx : x = []
    · subst hx
      have h0 : (agA []).n = 0 := rfl
      rw [agM_nil h0, agM_nil h0]
    · have h1 := agA_pos x hx
      rw [agM_pos h1, agM_pos h1, agM_pos h2, agM_pos (by unfold agP; simp only; omega), agP_assoc]
theorem agA_perm {x y : List Pt} (h : x.Perm y) : agA x = agA y := by
  induction h with
  | nil => rfl
  | cons a h ih =>
    rename_i l1 l2
    by_cases he : l1 = []
    · subst he; rw [h.nil_eq]
    · have he2 : l2 ≠ [] := fun e => he (by subst e; exact h.eq_nil)
      rw [show a :: l1 = [a] ++ l1 from rfl, show a :: l2 = [a] ++ l2 from rfl, agA_append _ _ he, agA_append _ _ he2, ih]
  | swap a b l =>
    have e : agA [b, a] = agA [a, b] := by
      rw [show [b, a] = [b] ++ [a] from rfl, show [a, b] = [a] ++ [b] from rfl, agA_append _ _ (by simp), agA_append _ _ (by simp), agA_one, agA_one, agM_pos (by simp [agOf]), agM_pos (by simp [agOf]), agP_comm]
    by_cases he : l = []
    · subst he; exact e
    · rw [show b :: a :: l = [b, a] ++ l from rfl, show a :: b :: l = [a, b] ++ l from rfl, agA_append _ _ he, agA_append _ _ he, e]
  | trans _ _ ih1 ih2 => exact ih1.trans ih2

/-! What is looked up in a map that was made so. -/
theorem putL_get {a : Ag} (z : Int) : ∀ (xs : List (Int × Int)) (m : List (Int × Ag)), (xs.map (·.1)).Nodup → aget (putL m a xs) z = if z ∈ xs.map (·.1) then some (agM ((aget m z).getD Ag.zero) a) else aget m z
  | [], m, _ => by simp [putL]
  | x :: xs, m, hn => by
    rw [List.map_cons, List.nodup_cons] at hn
    have e : putL m a (x :: xs) = putL (putG m a x.1) a xs := rfl
    rw [e, putL_get z xs _ hn.2]
    unfold putG
    by_cases hz : z = x.1
    · subst hz
      rw [if_neg hn.1, aget_put_same, if_pos (by simp)]
    · rw [aget_put_other _ _ hz]
      have e3 : (z ∈ (x :: xs).map (·.1)) ↔ z ∈ xs.map (·.1) := by rw [List.map_cons, List.mem_cons]; exact ⟨fun h => h.resolve_left hz, .inr⟩
      by_cases h4 : z ∈ xs.map (·.1)
      · rw [if_pos h4, if_pos (e3.2 h4)]
      · rw [if_neg h4, if_neg (fun h => h4 (e3.1 h))]
/-- Whatever is put: by what keys, with what. -/
def genL {α : Type} (K : α → List (Int × Int)) (A : α → Ag) (xs : List α) : List (Int × Ag) := xs.foldl (fun m x => putL m (A x) (K x)) []
theorem genL_snoc {α : Type} (K : α → List (Int × Int)) (A : α → Ag) (xs : List α) (x : α) : genL K A (xs ++ [x]) = putL (genL K A xs) (A x) (K x) := by simp [genL]
theorem genL_nodup {α : Type} (K : α → List (Int × Int)) (A : α → Ag) (xs : List α) : ((genL K A xs).map (·.1)).Nodup := by
  refine snoc_ind (P := fun xs => ((genL K A xs).map (·.1)).Nodup) (by simp [genL]) (fun xs x ih => ?_) xs
  rw [genL_snoc]
  exact putL_nodup _ _ ih
def foldA {α : Type} (A : α → Ag) (xs : List α) : Ag := xs.foldl (fun a x => agM a (A x)) Ag.zero
theorem genL_get {α : Type} (K : α → List (Int × Int)) (A : α → Ag) (hK : ∀ x, ((K x).map (·.1)).Nodup) (z : Int) (xs : List α) :
    aget (genL K A xs) z = if xs.filter (fun x => decide (z ∈ (K x).map (·.1))) = [] then none else some (foldA A (xs.filter (fun x => decide (z ∈ (K x).map (·.1))))) := by
  refine snoc_ind (P := fun xs => aget (genL K A xs) z = if xs.filter (fun x => decide (z ∈ (K x).map (·.1))) = [] then none else some (foldA A (xs.filter (fun x => decide (z ∈ (K x).map (·.1)))))) (by simp [genL, aget]) (fun xs x ih => ?_) xs
  rw [genL_snoc, putL_get z _ _ (hK x), List.filter_append]
  by_cases hz : z ∈ (K x).map (·.1)
  · rw [if_pos hz, List.filter_cons_of_pos (by simpa using hz), List.filter_nil, if_neg (by simp), ih]
    have e : foldA A (xs.filter (fun x => decide (z ∈ (K x).map (·.1))) ++ [x]) = agM (foldA A (xs.filter (fun x => decide (z ∈ (K x).map (·.1))))) (A x) := by simp [foldA]
    rw [e]
    split
    · rename_i h; rw [h]; rfl
    · rfl
  · rw [if_neg hz, List.filter_cons_of_neg (by simpa using hz), List.filter_nil, List.append_nil, ih]

theorem gatL_gen (wd st off : Int) (l : List Pt) : gatL wd st off l = genL (fun p : Pt => winL wd st off p.t) agOf l := rfl
def joinL (wd st off : Int) (B : List Bk) : List (Int × Ag) := genL (fun b : Bk => winL wd st off b.lo) (·.a) B
theorem foldA_agA (l : List Pt) : foldA agOf l = agA l := rfl

/-- Does a window from z on have a time? -/
def inW (wd st off z t : Int) : Bool := decide (z % st = off % st) && decide (t - wd < z) && decide (z ≤ t)
theorem inW_mem {wd st off z t : Int} (h1 : 1 ≤ st) (h2 : st ≤ wd) : decide (z ∈ (winL wd st off t).map (·.1)) = inW wd st off z t := by
  unfold inW
  rw [Bool.eq_iff_iff]
  simp only [decide_eq_true_eq, Bool.and_eq_true, List.mem_map]
  constructor
  · rintro ⟨x, hx, rfl⟩
    have := (mem_winL h1 h2).1 hx
    exact ⟨⟨this.1, this.2.1⟩, this.2.2.1⟩
  · rintro ⟨⟨h3, h4⟩, h5⟩
    exact ⟨(z, z + wd), (mem_winL h1 h2).2 ⟨h3, h4, h5, rfl⟩, rfl⟩

/-- The small buckets. -/
structure SmallB (wi : Int) (l : List Pt) (B : List Bk) : Prop where
  lo : ∀ b ∈ B, b.lo % wi = 0 ∧ b.hi = b.lo + wi ∧ b.a = agA (l.filter (fun p => inW wi wi 0 b.lo p.t)) ∧ l.filter (fun p => inW wi wi 0 b.lo p.t) ≠ []
  rise : B.Pairwise (fun a b => a.lo < b.lo)
  all : ∀ p ∈ l, ∃ b ∈ B, inW wi wi 0 b.lo p.t = true

theorem small_of {wi : Int} (hw : 1 ≤ wi) (l : List Pt) {ds : List (Int × Ag)} (hp : ds.Perm (gatL wi wi 0 l)) (hs : (ds.map (·.1)).Pairwise (· ≤ ·)) : SmallB wi l (ds.map (bkOf wi)) := by
  have hn : (ds.map (·.1)).Nodup := (hp.map _).nodup_iff.2 (gatL_nodup l)
  have hget : ∀ z, aget (gatL wi wi 0 l) z = if l.filter (fun p => inW wi wi 0 z p.t) = [] then none else some (agA (l.filter (fun p => inW wi wi 0 z p.t))) := fun z => by
    rw [gatL_gen, genL_get _ _ (fun p => winL_nodup (by omega))]
    have e : (fun x : Pt => decide (z ∈ (winL wi wi 0 x.t).map (·.1))) = fun p : Pt => inW wi wi 0 z p.t := by funext p; exact inW_mem hw (Int.le_refl _)
    rw [e, foldA_agA]
  refine ⟨fun b hb => ?_, ?_, fun p hp' => ?_⟩
  · obtain ⟨⟨z, g⟩, hq, rfl⟩ := List.mem_map.1 hb
    have hq' := hp.subset hq
    have h1 := aget_of_mem (gatL_nodup l) hq'
    rw [hget] at h1
    split at h1
    · cases h1
    · rename_i hne
      cases h1
      obtain ⟨p, hpl, x, hx, e⟩ := gatL_keys l _ hq'
      have h3 := (mem_winL hw (Int.le_refl _)).1 hx
      simp only at e
      refine ⟨?_, rfl, rfl, hne⟩
      simp only [bkOf]
      rw [← e]
      simpa using h3.1
  · have hlt : (ds.map (·.1)).Pairwise (· < ·) := (hs.and hn).imp (fun h => by omega)
    rw [List.pairwise_map] at hlt
    rw [List.pairwise_map]
    exact hlt
  · have h4 := Int.mul_ediv_self_le (x := p.t) (k := wi) (by omega)
    have h5 := Int.lt_mul_ediv_self_add (x := p.t) (k := wi) (by omega)
    have hin : inW wi wi 0 (wi * (p.t / wi)) p.t = true := by
      unfold inW
      simp only [Bool.and_eq_true, decide_eq_true_eq]
      refine ⟨⟨by simp, by omega⟩, by omega⟩
    have h6 := hget (wi * (p.t / wi))
    rw [if_neg (fun e => by
      have : p ∈ l.filter (fun p => inW wi wi 0 (wi * (p.t / wi)) p.t) := List.mem_filter.2 ⟨hp', hin⟩
      have h7 : p ∈ l.filter (fun q => inW wi wi 0 (wi * (p.t / wi)) q.t) := List.mem_filter.2 ⟨hp', hin⟩
      rw [e] at h7
      simp at h7)] at h6
    have h8 := hp.symm.subset (aget_mem h6)
    exact ⟨_, List.mem_map.2 ⟨_, h8, rfl⟩, hin⟩

theorem perm_or (P Q : Pt → Bool) : ∀ (l : List Pt), (∀ p ∈ l, P p = true → Q p = true → False) → (l.filter P ++ l.filter Q).Perm (l.filter (fun p => P p || Q p))
  | [], _ => by simp
  | p :: l, h => by
    have ih := perm_or P Q l (fun q hq => h q (List.mem_cons_of_mem _ hq))
    have hd := h p List.mem_cons_self
    by_cases h1 : P p = true
    · have h2 : ¬ Q p = true := fun e => hd h1 e
      rw [List.filter_cons_of_pos h1, List.filter_cons_of_neg h2, List.filter_cons_of_pos (by simp [h1])]
      exact ih.cons p
    · by_cases h2 : Q p = true
      · rw [List.filter_cons_of_neg h1, List.filter_cons_of_pos h2, List.filter_cons_of_pos (by simp [h2])]
        exact List.perm_middle.trans (ih.cons p)
      · rw [List.filter_cons_of_neg h1, List.filter_cons_of_neg h2, List.filter_cons_of_neg (by simp [h1, h2])]
        exact ih

/-- What the buckets of a window have together. -/
theorem fold_small {wi : Int} (l : List Pt) : ∀ (B : List Bk), (∀ b ∈ B, b.a = agA (l.filter (fun p => inW wi wi 0 b.lo p.t)) ∧ l.filter (fun p => inW wi wi 0 b.lo p.t) ≠ []) →
    B.Pairwise (fun a b => ∀ p ∈ l, inW wi wi 0 a.lo p.t = true → inW wi wi 0 b.lo p.t = true → False) →
    foldA (·.a) B = agA (l.filter (fun p => B.any (fun b => inW wi wi 0 b.lo p.t))) ∧ (B ≠ [] → l.filter (fun p => B.any (fun b => inW wi wi 0 b.lo p.t)) ≠ []) := by
  intro B
  refine snoc_ind (P := fun B => (∀ b ∈ B, b.a = agA (l.filter (fun p => inW wi wi 0 b.lo p.t)) ∧ l.filter (fun p => inW wi wi 0 b.lo p.t) ≠ []) →
    B.Pairwise (fun a b => ∀ p ∈ l, inW wi wi 0 a.lo p.t = true → inW wi wi 0 b.lo p.t = true → False) →
    foldA (·.a) B = agA (l.filter (fun p => B.any (fun b => inW wi wi 0 b.lo p.t))) ∧ (B ≠ [] → l.filter (fun p => B.any (fun b => inW wi wi 0 b.lo p.t)) ≠ [])) (fun _ _ => ⟨by rw [List.filter_eq_nil_iff.2 (by simp)]; rfl, fun h => absurd rfl h⟩) (fun B b ih h1 h2 => ?_) B
  rw [List.pairwise_append] at h2
  obtain ⟨i1, i2⟩ := ih (fun c hc => h1 c (by simp [hc])) h2.1
  obtain ⟨j1, j2⟩ := h1 b (by simp)
  have e : foldA (·.a) (B ++ [b]) = agM (foldA (·.a) B) b.a := by simp [foldA]
  have hper := perm_or (fun p => B.any (fun b => inW wi wi 0 b.lo p.t)) (fun p => inW wi wi 0 b.lo p.t) l (fun p hp k1 k2 => by
    rw [List.any_eq_true] at k1
    obtain ⟨c, hc, k1⟩ := k1
    exact h2.2.2 c hc b (by simp) p hp k1 k2)
  have ef : (fun p : Pt => (B ++ [b]).any (fun b => inW wi wi 0 b.lo p.t)) = fun p => (B.any (fun b => inW wi wi 0 b.lo p.t)) || inW wi wi 0 b.lo p.t := by funext p; simp
  rw [e, i1, j1, ef]
  refine ⟨?_, fun _ hn => ?_⟩
  · rw [← agA_append _ _ j2]
    exact agA_perm hper
  · rw [hn] at hper
    have := hper.eq_nil
    rw [List.append_eq_nil_iff] at this
    exact j2 this.2

theorem inW_mul {wi p st off z t : Int} (hw : 1 ≤ wi) (h1 : st % wi = 0) (h2 : off % wi = 0) (h3 : p % wi = 0) (hst : 1 ≤ st) {lo : Int} (hlo : lo % wi = 0) (hin : inW wi wi 0 lo t = true) : inW p st off z lo = inW p st off z t := by
  unfold inW at hin ⊢
  simp only [Bool.and_eq_true, decide_eq_true_eq] at hin
  rw [Bool.eq_iff_iff]
  simp only [Bool.and_eq_true, decide_eq_true_eq]
  have key : z % st = off % st → z % wi = 0 := fun h => by
    have e1 := Int.mul_ediv_add_emod z st
    have e2 := Int.mul_ediv_add_emod off st
    obtain ⟨c, hc⟩ := Int.dvd_of_emod_eq_zero h1
    obtain ⟨d, hd⟩ := Int.dvd_of_emod_eq_zero h2
    have hz : z = wi * (c * (z / st) - c * (off / st) + d) := by
      rw [Int.mul_add, Int.mul_sub, ← Int.mul_assoc, ← Int.mul_assoc, ← hc, ← hd]
      omega
    rw [hz]
    exact Int.mul_emod_right _ _
  obtain ⟨x, hx⟩ := Int.dvd_of_emod_eq_zero hlo
  obtain ⟨y, hy⟩ := Int.dvd_of_emod_eq_zero h3
  obtain ⟨⟨k1, k2⟩, k3⟩ := hin
  constructor
  · rintro ⟨⟨g1, g2⟩, g3⟩
    obtain ⟨u, hu⟩ := Int.dvd_of_emod_eq_zero (key g1)
    refine ⟨⟨g1, ?_⟩, by omega⟩
    have h5 : wi * x < wi * (u + y) := by rw [Int.mul_add, ← hx, ← hu, ← hy]; omega
    have h6 : x < u + y := Int.lt_of_mul_lt_mul_left h5 (by omega)
    have h7 : wi * (x + 1) ≤ wi * (u + y) := Int.mul_le_mul_of_nonneg_left (by omega) (by omega)
    rw [Int.mul_add, Int.mul_add, ← hx, ← hu, ← hy] at h7
    omega
  · rintro ⟨⟨g1, g2⟩, g3⟩
    obtain ⟨u, hu⟩ := Int.dvd_of_emod_eq_zero (key g1)
    refine ⟨⟨g1, by omega⟩, ?_⟩
    have h5 : wi * u < wi * (x + 1) := by rw [Int.mul_add, ← hx, ← hu]; omega
    have h6 : u < x + 1 := Int.lt_of_mul_lt_mul_left h5 (by omega)
    have h7 : wi * u ≤ wi * x := Int.mul_le_mul_of_nonneg_left (by omega) (by omega)
    rw [← hx, ← hu] at h7
    omega

/-- The law. -/
theorem join_same {wi wd st off : Int} (hw : 1 ≤ wi) (hv1 : 1 ≤ st) (hv2 : st ≤ wd) (h1 : st % wi = 0) (h2 : off % wi = 0) (h3 : wd % wi = 0) {l : List Pt} {B : List Bk} (H : SmallB wi l B) (z : Int) :
    aget (joinL wd st off B) z = aget (gatL wd st off l) z := by
  unfold joinL
  rw [gatL_gen, genL_get _ _ (fun p => winL_nodup (by omega)), genL_get _ _ (fun p => winL_nodup (by omega)), foldA_agA]
  have e1 : (fun x : Pt => decide (z ∈ (winL wd st off x.t).map (·.1))) = fun p : Pt => inW wd st off z p.t := by funext p; exact inW_mem hv1 hv2
  have e2 : (fun x : Bk => decide (z ∈ (winL wd st off x.lo).map (·.1))) = fun b : Bk => inW wd st off z b.lo := by funext p; exact inW_mem hv1 hv2
  rw [e1, e2]
  have hdis : ∀ a b : Bk, a ∈ B → b ∈ B → a.lo < b.lo → ∀ p ∈ l, inW wi wi 0 a.lo p.t = true → inW wi wi 0 b.lo p.t = true → False := fun a b ha hb hab p _ k1 k2 => by
    unfold inW at k1 k2
    simp only [Bool.and_eq_true, decide_eq_true_eq] at k1 k2
    obtain ⟨x, hx⟩ := Int.dvd_of_emod_eq_zero (H.lo a ha).1
    obtain ⟨y, hy⟩ := Int.dvd_of_emod_eq_zero (H.lo b hb).1
    have h5 : wi * x < wi * y := by rw [← hx, ← hy]; exact hab
    have h6 : x < y := Int.lt_of_mul_lt_mul_left h5 (by omega)
    have h7 : wi * (x + 1) ≤ wi * y := Int.mul_le_mul_of_nonneg_left (by omega) (by omega)
    rw [Int.mul_add, ← hx, ← hy] at h7
    omega
  obtain ⟨f1, f2⟩ := fold_small (wi := wi) l (B.filter (fun b => inW wd st off z b.lo)) (fun b hb => by have := H.lo b (List.mem_filter.1 hb).1; exact ⟨this.2.2.1, this.2.2.2⟩) (by
    have hpw : B.Pairwise (fun a b => a ∈ B ∧ b ∈ B ∧ a.lo < b.lo) := by
      refine (List.pairwise_iff_forall_sublist.2 fun {a b} hs => ?_)
      exact ⟨hs.subset (by simp), hs.subset (by simp), List.pairwise_iff_forall_sublist.1 H.rise hs⟩
    exact (hpw.filter _).imp (fun {a b} h => hdis a b h.1 h.2.1 h.2.2))
  have ef : l.filter (fun p => (B.filter (fun b => inW wd st off z b.lo)).any (fun b => inW wi wi 0 b.lo p.t)) = l.filter (fun p => inW wd st off z p.t) := by
    refine List.filter_congr (fun p hp => ?_)
    rw [Bool.eq_iff_iff, List.any_eq_true]
    constructor
    · rintro ⟨b, hb, hin⟩
      obtain ⟨hb1, hb2⟩ := List.mem_filter.1 hb
      rw [← inW_mul hw h1 h2 h3 hv1 (H.lo b hb1).1 hin]
      exact hb2
    · intro hz
      obtain ⟨b, hb, hin⟩ := H.all p hp
      refine ⟨b, List.mem_filter.2 ⟨hb, ?_⟩, hin⟩
      show inW wd st off z b.lo = true
      rw [inW_mul hw h1 h2 h3 hv1 (H.lo b hb).1 hin]
      exact hz
  rw [ef] at f1 f2
  rw [f1]
  by_cases hB : B.filter (fun b => inW wd st off z b.lo) = []
  · rw [if_pos hB, if_pos ?_]
    rw [← ef, hB]
    simp
  · rw [if_neg hB, if_neg (f2 hB)]
end Go.Proofs.YtokllgdbmnmieaaGreat
