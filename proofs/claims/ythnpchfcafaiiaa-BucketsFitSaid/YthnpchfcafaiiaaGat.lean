/- gathered: windows by their From; put. -/
import Derived.Test.YthnpchfcafaiiaaAgg
import Derived.Test.YthnpchfcafaiiaaImk
import Derived.Test.YthnpchfcafaiiaaWou
import Derived.Test.YthnpchfcafaiiaaEnc
namespace Go.Proofs.Ythnpchfcafaiiaa
open Go.RowKit Go.Lib Go.Sort

def encI (z : Int) : Value := .int .i64 z
theorem encI_kind : KeyKind Try.prog 3 encI := int_kind Try.underlying3

/-- Windows by their From, in memory. -/
structure GatAt (w : World) (g mb : Nat) (wd st off : Int) (m : List (Int × Ag)) : Prop where
  blk : w.heap[g]? = some (.cells #[.int .i64 wd, .int .i64 st, .int .i64 off, .map (some mb)] 59 (0, 0))
  map : MapIs encI w mb (amap Ag.val m)

theorem GatAt.lt {w : World} {g mb : Nat} {wd st off : Int} {m : List (Int × Ag)} (h : GatAt w g mb wd st off m) : g < w.heap.size ∧ mb < w.heap.size := ⟨block_lt h.blk, h.map.lt⟩
theorem GatAt.ext {w w' : World} {g mb : Nat} {wd st off : Int} {m : List (Int × Ag)} (h : GatAt w g mb wd st off m) (hx : Ext w w') : GatAt w' g mb wd st off m :=
  ⟨(hx.block (block_lt h.blk)).trans h.blk, h.map.ext hx⟩
theorem GatAt.ne {w : World} {g mb : Nat} {wd st off : Int} {m : List (Int × Ag)} (h : GatAt w g mb wd st off m) : g ≠ mb := by
  rintro rfl
  obtain ⟨es, c, hb, _⟩ := h.map
  have := h.blk
  rw [hb] at this
  cases this

theorem spc_len (p : Int × Int) : (spc p).length = 2 := rfl
theorem sps_one (l : List (Int × Int)) : ∀ u ∈ sps l, u.oneCell' = true := by
  intro u hu
  simp only [sps, List.mem_flatMap] at hu
  obtain ⟨p, _, h⟩ := hu
  simp [spc] at h
  rcases h with rfl | rfl <;> rfl
/-- The cells of a span of a slice. -/
theorem sps_src {w : World} {a : Option Addr} {n c : Nat} {l : List (Int × Int)} (h : Src w 2 (.slice a n c) n (sps l)) {k : Nat} (hk : k < n) :
    ∃ b off p, a = some ⟨b, off, none⟩ ∧ l[k]? = some p ∧ w.cell? ⟨b, off + k * 2, none⟩ = some (.int .i64 p.1) ∧ w.cell? ⟨b, off + k * 2 + 1, none⟩ = some (.int .i64 p.2) := by
  obtain ⟨b, off, p, h1, h2, h3⟩ := enc_src spc_len (by decide) h hk
  exact ⟨b, off, p, h1, h2, h3 0 _ rfl, h3 1 _ rfl⟩

/-- What is put into windows. -/
def putG (m : List (Int × Ag)) (a : Ag) (z : Int) : List (Int × Ag) := aput m z (agM ((aget m z).getD Ag.zero) a)
def putL (m : List (Int × Ag)) (a : Ag) (l : List (Int × Int)) : List (Int × Ag) := l.foldl (fun m p => putG m a p.1) m
/-- Not too much. -/
def Ag.bnd (K : Nat) (g : Ag) : Prop := 0 ≤ g.n ∧ g.n ≤ K ∧ -((K : Int) * 9223372036854775808) ≤ g.s ∧ g.s ≤ (K : Int) * 9223372036854775808
theorem Ag.bnd.mono {K L : Nat} {g : Ag} (h : g.bnd K) (hl : K ≤ L) : g.bnd L := by
  unfold Ag.bnd at *
  omega
theorem zero_bnd (K : Nat) : Ag.zero.bnd K := by unfold Ag.bnd Ag.zero; simp only; omega
theorem bnd_fine {K : Nat} {g : Ag} (h : g.bnd K) (hk : K ≤ 1125899906842624) : g.fine := by
  unfold Ag.bnd at h
  unfold Ag.fine sumOk
  omega
theorem agM_bnd {K L : Nat} {a b : Ag} (ha : a.bnd K) (hb : b.bnd L) : (agM a b).bnd (K + L) := by
  unfold Ag.bnd agM at *
  split
  · omega
  · simp only; omega
theorem aget_all {m : List (Int × Ag)} {R : Ag → Prop} (h : ∀ p ∈ m, R p.2) (hz : R Ag.zero) (z : Int) : R ((aget m z).getD Ag.zero) := by
  cases hg : aget m z with
  | none => exact hz
  | some g => exact h (z, g) (aget_mem hg)
theorem mem_aput {m : List (Int × Ag)} {z : Int} {g : Ag} {p : Int × Ag} (h : p ∈ aput m z g) : p ∈ m ∨ p = (z, g) := by
  induction m with
  | nil => simp [aput] at h; exact .inr h
  | cons q m ih =>
    obtain ⟨q1, q2⟩ := q
    simp only [aput] at h
    split at h
    · rename_i he
      rcases List.mem_cons.1 h with h | h
      · exact .inr (by rw [h, he])
      · exact .inl (List.mem_cons_of_mem _ h)
    · rcases List.mem_cons.1 h with h | h
      · exact .inl (by rw [h]; exact List.mem_cons_self)
      · rcases ih h with h | h
        · exact .inl (List.mem_cons_of_mem _ h)
        · exact .inr h
theorem putG_bnd {m : List (Int × Ag)} {a : Ag} {K L : Nat} (h : ∀ p ∈ m, p.2.bnd K) (ha : a.bnd L) (z : Int) : ∀ p ∈ putG m a z, p.2.bnd (K + L) := by
  intro p hp
  rcases mem_aput hp with h1 | h1
  · exact (h p h1).mono (by omega)
  · rw [h1]
    exact agM_bnd (aget_all h (zero_bnd K) z) ha
theorem aput_len (m : List (Int × Ag)) (z : Int) (g : Ag) : (aput m z g).length ≤ m.length + 1 := by
  induction m with
  | nil => simp [aput]
  | cons q m ih =>
    obtain ⟨q1, q2⟩ := q
    simp only [aput]
    split <;> simp <;> omega
theorem putL_bnd {a : Ag} {L : Nat} (ha : a.bnd L) : ∀ (l : List (Int × Int)) (m : List (Int × Ag)) (K : Nat), (∀ p ∈ m, p.2.bnd K) → ∀ p ∈ putL m a l, p.2.bnd (K + l.length * L)
  | [], m, K, h => by simpa [putL] using h
  | x :: l, m, K, h => by
    have := putL_bnd ha l (putG m a x.1) (K + L) (putG_bnd h ha x.1)
    intro p hp
    exact (this p hp).mono (by simp only [List.length_cons, Nat.succ_mul]; omega)
theorem putL_len {a : Ag} : ∀ (l : List (Int × Int)) (m : List (Int × Ag)), (putL m a l).length ≤ m.length + l.length
  | [], m => by simp [putL]
  | x :: l, m => by
    have := putL_len (a := a) l (putG m a x.1)
    have h2 := aput_len m x.1 (agM ((aget m x.1).getD Ag.zero) a)
    show (putL (putG m a x.1) a l).length ≤ _
    have h3 : (putG m a x.1).length ≤ m.length + 1 := h2
    simp only [List.length_cons]
    omega
theorem putL_take {m : List (Int × Ag)} {a : Ag} {l : List (Int × Int)} {k : Nat} {p : Int × Int} (h : l[k]? = some p) : putL m a (l.take (k + 1)) = putG (putL m a (l.take k)) a p.1 := by
  unfold putL
  rw [List.take_add_one, h, List.foldl_append]
  rfl

theorem winL_len (wd st off t : Int) : (winL wd st off t).length = winN wd st off t := by unfold winL; exact spansL_len _ _ _ _
theorem winN_le {wd st off t : Int} (hv : windowB wd st off = true) : winN wd st off t ≤ 64 := by
  have h := window_nums hv
  obtain ⟨q, hq, hq63⟩ := win_count (wd := wd) (st := st) (off := off) (t := t) h.2.2.1 h.2.2.2.1 h.2.2.2.2.1
  unfold winN
  rw [hq, Int.mul_ediv_cancel _ (by omega)]
  simp
  omega

theorem agz (w : World) : (zeroValue 48).run Try.prog w = .ok Ag.zero.val w := by
  kernel_rfl

set_option maxHeartbeats 8000000 in
set_option maxRecDepth 100000 in
theorem put_any {w : World} {g mb : Nat} {wd st off : Int} {m : List (Int × Ag)} (hg : GatAt w g mb wd st off m) (t : Int) (a : Ag) (K L : Nat) (hv : windowB wd st off = true) (ht : timeB t = true)
    (hm : ∀ p ∈ m, p.2.bnd K) (ha : a.bnd L) (ha1 : 1 ≤ a.n) (hk : K + 64 * L ≤ 1125899906842624) (hlen : m.length ≤ 60000) :
    Calls Try.prog 17 #[.pointer (some ⟨g, 0, none⟩), .int .i64 t, a.val] w fun e w' => e = .returned (.int .i64 0) ∧ GatAt w' g mb wd st off (putL m a (winL wd st off t)) ∧ Chg (· = mb) w w' := by
  have HOF := Lib.hid (fun W => of_any wd st off t W hv ht)
  have HG := Lib.hid hg
  have HM := Lib.hid (And.intro hm (And.intro ha (And.intro ha1 (And.intro hk hlen))))
  have HW := Lib.hid (winN_le (t := t) hv)
  have HLN0 := Lib.hid (winL_len wd st off t)
  clear hg hm ha ha1 hk hlen hv ht
  obtain ⟨n, hn⟩ : ∃ n, n = winN wd st off t := ⟨_, rfl⟩
  obtain ⟨L', hL'⟩ : ∃ l, l = winL wd st off t := ⟨_, rfl⟩
  simp only [← hn, ← hL'] at HOF
  rw [← hn] at HW
  rw [← hn, ← hL'] at HLN0
  rw [← hL']
  clear hn hL'
  obtain ⟨A, hA⟩ : ∃ A : Array Value, A = #[.int .i64 a.n, .int .i64 (a.s / 18446744073709551616), .int .u64 (a.s % 18446744073709551616), .int .i64 a.mn, .int .i64 a.mx,
    .int .i64 a.f.t, .int .i64 a.f.v, .int .i64 a.f.s, .int .i64 a.l.t, .int .i64 a.l.v, .int .i64 a.l.s] := ⟨_, rfl⟩
  have HA := Lib.hid hA
  have hav : a.val = .agg A := by rw [hA]; rfl
  rw [hav]
  have HAV := Lib.hid hav
  clear hA hav
  go_enter Try.func17, Try.ntmps17
  have c0 : ∀ o, (w.alloc o).cell? ⟨g, 0, none⟩ = some (.int .i64 wd) := fun o => by have := cell_of_block (HG.out.ext ((Ext.refl w).alloc o)).blk 0; simpa using this
  have c1 : ∀ o, (w.alloc o).cell? ⟨g, 1, none⟩ = some (.int .i64 st) := fun o => by have := cell_of_block (HG.out.ext ((Ext.refl w).alloc o)).blk 1; simpa using this
  have c2 : ∀ o, (w.alloc o).cell? ⟨g, 2, none⟩ = some (.int .i64 off) := fun o => by have := cell_of_block (HG.out.ext ((Ext.refl w).alloc o)).blk 2; simpa using this
  go_wp2_with fail
  clear c0 c1 c2
  refine (HOF.out _).mono ?_
  rintro e w1 ⟨v, rfl, hm1⟩
  obtain ⟨va, vc, rfl⟩ := hm1.row.shape
  have HS1 := Lib.hid (hm1.row.src (sps_one L'))
  have HB1 : Hid (w1.heap[w.heap.size]? = some (.cells A 48 (0, 0))) := Lib.hid ((hm1.ext.block (block_lt (heap_alloc_new w _))).trans (heap_alloc_new w _))
  have HG1 := Lib.hid (HG.out.ext (((Ext.refl w).alloc (.cells A 48 (0, 0))).trans hm1.ext))
  have HX1 := Lib.hid (((Ext.refl w).alloc (.cells A 48 (0, 0))).trans hm1.ext)
  have HO1 := Lib.hid hm1.own
  clear hm1 HOF
  go_wp2_with fail
  go_loopw [27] (fun i wr => ∃ k : Nat, k ≤ n ∧ i = .int .i64 k ∧ Hid (GatAt wr g mb wd st off (putL m a (L'.take k)) ∧ Chg (· = mb) w1 wr)) (fun i _ => n - (RowKit.intOf i).toNat)
  case atStart => exact ⟨0, by omega, rfl, Lib.hid ⟨HG1.out, Chg.refl _ _⟩⟩
  case round =>
    obtain ⟨k, hk, rfl, HI⟩ := hrel
    by_cases hlt : k < n
    · have HSr := Lib.hid (HS1.out.chg HI.out.2 (fun g hg e => by have h1 := HO1.out g hg; have h2 := HG.out.lt.2; simp at h1; omega))
      obtain ⟨sb, so, p, rfl, hp, z0, z1⟩ := sps_src HSr.out hlt
      have HP := Lib.hid hp
      obtain ⟨from', to'⟩ := p
      simp only at z0 z1
      clear hp
      go_wp2_with fail
      generalize hW : World.alloc _ _ = W
      have HX : Hid (Ext wr W) := Lib.hid (by subst hW; exact (Ext.refl wr).alloc _)
      have HP0 : Hid (W.heap[wr.heap.size]? = some (.cells #[.int .i64 from', .int .i64 to'] 72 (0, 0))) := Lib.hid (by subst hW; exact heap_alloc_new wr _)
      clear hW z0 z1
      have HGW := Lib.hid (HI.out.1.ext HX.out)
      have HBW : Hid (W.heap[w.heap.size]? = some (.cells A 48 (0, 0))) := Lib.hid (by
        have h1 := (HI.out.2.block _ (block_lt HB1.out) (by have := HG.out.lt.2; omega)).trans HB1.out
        exact (HX.out.block (block_lt h1)).trans h1)
      obtain ⟨gg, hgg⟩ : ∃ gg, gg = (aget (putL m a (L'.take k)) from').getD Ag.zero := ⟨_, rfl⟩
      have HGG := Lib.hid hgg
      have hval : (aget (amap Ag.val (putL m a (L'.take k))) from').getD Ag.zero.val = gg.val := by
        rw [hgg, aget_amap]
        cases aget (putL m a (L'.take k)) from' <;> rfl
      have f0 := cell_turned (T := fun _ => false) (show W.cell? ⟨g, 3, none⟩ = some (.map (some mb)) by have := cell_of_block HGW.out.blk 3; simpa using this) rfl
      have f1 := cell_turned (T := fun _ => false) (show W.cell? ⟨wr.heap.size, 0, none⟩ = some (.int .i64 from') by have := cell_of_block HP0.out 0; simpa using this) rfl
      have f2 := fun (d : Nat) (f : Nat → Obj) (os : Array Obj) => load_box_turned (P := Try.prog) (ty := 48) HBW.out (T := fun _ => false) rfl Try.underlying48 rfl (by rw [HA.out]; kernel_rfl) d f os
      have f3 : ∀ (d : Nat) (f : Nat → Obj) (os : Array Obj), (Instr.lookup 57 (.map (some mb)) (.int .i64 from') false).run Try.prog (turned W (fun _ => false) d f os) = .ok gg.val (turned W (fun _ => false) d f os) := fun d f os => by
        have h1 : MapIs encI (turned W (fun _ => false) d f os) mb (amap Ag.val (putL m a (L'.take k))) := HGW.out.map.of_block ((chg_turned W (fun _ => false) d f os).block mb HGW.out.lt.2 (by simp))
        have h2 := h1.lookup encI_kind Try.underlying57 Ag.zero.val (agz _) from' false
        rw [hval] at h2
        exact h2
      clear hgg hval
      refine wp_region_plan 14 (fun w' => ∃ p : Turned, w' = turned W (fun _ => false) p.d p.f p.os) (.reads [0, 1, 2, 3, 4, 5, 6, 7] (.two 8 (.reads [9, 10, 11] (.one 12 (.one 13 (.one 14 .done)))) 12 (.one 8 (.reads [9, 10, 11] (.one 13 (.one 14 .done)))))) (by kernel_rfl) (by kernel_rfl) (fun _ _ dd _ _ hh => by cases dd <;> exact hh) ?_ ?_
      · exact turned_of_ext (Ext.drewN W 1)
      refine wpPlan_reads ?_
      simp only [pickOps, List.getElem?_cons_succ, List.getElem?_cons_zero]
      repeat (first | (refine wpQuiet_load_box rfl _ _ rfl _ _ rfl (fun w hw => by obtain ⟨p, rfl⟩ := hw; exact f2 p.d p.f p.os) ?_) | (go_big_quiet_step (fail)))
      refine wpQuiet_nil ?_
      have HCALL : Hid (∀ W, Calls Try.prog 31 #[gg.val, .agg A] W fun e w' => e = .returned (.tuple #[(agM gg a).val, .int .i64 0]) ∧ Ext W w') := Lib.hid (fun W => by
        rw [← HAV.out]
        obtain ⟨m1, m2, m3, m4, m5⟩ := HM.out
        have hb := putL_bnd m2 (L'.take k) m K m1
        have hkk : (L'.take k).length ≤ 64 := by have := HLN0.out; have := HW.out; rw [List.length_take]; omega
        have hg1 : gg.bnd (K + 64 * L) := by
          rw [HGG.out]
          exact (aget_all (R := fun g => g.bnd (K + (L'.take k).length * L)) hb (zero_bnd _) from').mono (by have := Nat.mul_le_mul_right L hkk; omega)
        have ha2 : a.bnd (K + 64 * L) := m2.mono (by omega)
        refine aggrMerge_any gg a W (bnd_fine hg1 m4) (bnd_fine ha2 m4) m3 ?_
        unfold Ag.bnd at hg1 ha2
        unfold sumOk
        omega)
      clear f0 f1 f2 f3
      obtain ⟨R, hR⟩ : ∃ R : Array Value, R = #[.int .i64 (agM gg a).n, .int .i64 ((agM gg a).s / 18446744073709551616), .int .u64 ((agM gg a).s % 18446744073709551616), .int .i64 (agM gg a).mn, .int .i64 (agM gg a).mx,
        .int .i64 (agM gg a).f.t, .int .i64 (agM gg a).f.v, .int .i64 (agM gg a).f.s, .int .i64 (agM gg a).l.t, .int .i64 (agM gg a).l.v, .int .i64 (agM gg a).l.s] := ⟨_, rfl⟩
      have HR := Lib.hid hR
      have HRV : Hid ((agM gg a).val = .agg R) := Lib.hid (by rw [hR]; rfl)
      rw [HRV.out] at HCALL
      clear hR
      refine wpPlan_two ?goA ?goB
      case' goA =>
        simp only [pickOps, List.getElem?_cons_succ, List.getElem?_cons_zero]
        go_wp2_with fail
        refine (HCALL.out _).mono ?_
        rintro e w4 ⟨rfl, hx4⟩
        have HX4 := Lib.hid ((Ext.drewN W 1).trans hx4)
        clear hx4
        go_wp2_with fail
        refine thenX_mk (turned_of_ext HX4.out) (wpPlan_reads ?_)
        simp only [pickOps, List.getElem?_cons_succ, List.getElem?_cons_zero]
        repeat (go_big_quiet_step (fail))
        refine wpQuiet_nil ?_
        refine wpPlan_one ?_
        simp only [pickOps, List.getElem?_cons_succ, List.getElem?_cons_zero]
        go_wp2_with fail
        refine thenX_mk (turned_of_ext (HX4.out.alloc _)) (wpPlan_one ?_)
        simp only [pickOps, List.getElem?_cons_succ, List.getElem?_cons_zero]
        obtain ⟨bx, hbx⟩ : ∃ bx, bx = w4.heap.size := ⟨_, rfl⟩
        have HB4 := Lib.hid (heap_alloc_new w4 (.cells #[.int .i64 0, .int .i64 0, .int .u64 0, .int .i64 0, .int .i64 0, .int .i64 0, .int .i64 0, .int .i64 0, .int .i64 0, .int .i64 0, .int .i64 0] 48 (0, 0)))
        have HX5 : Hid (Ext W (w4.alloc (.cells #[.int .i64 0, .int .i64 0, .int .u64 0, .int .i64 0, .int .i64 0, .int .i64 0, .int .i64 0, .int .i64 0, .int .i64 0, .int .i64 0, .int .i64 0] 48 (0, 0)))) := Lib.hid (HX4.out.alloc _)
        have HBX : Hid (W.heap.size ≤ bx) := Lib.hid (by rw [hbx]; exact HX4.out.size)
        rw [← hbx] at HB4
        rw [← hbx]
        generalize w4.alloc (.cells #[.int .i64 0, .int .i64 0, .int .u64 0, .int .i64 0, .int .i64 0, .int .i64 0, .int .i64 0, .int .i64 0, .int .i64 0, .int .i64 0, .int .i64 0] 48 (0, 0)) = w5 at *
        clear HX4 hbx
      case' goB =>
        simp only [pickOps, List.getElem?_cons_succ, List.getElem?_cons_zero]
        go_wp2_with fail
        obtain ⟨bx, hbx⟩ : ∃ bx, bx = W.heap.size := ⟨_, rfl⟩
        refine thenX_mk (turned_of_ext ((Ext.drewN W 1).alloc _)) (wpPlan_one ?_)
        simp only [pickOps, List.getElem?_cons_succ, List.getElem?_cons_zero]
        go_wp2_with fail
        refine (HCALL.out _).mono ?_
        rintro e w5 ⟨rfl, hx4⟩
        have HX5 : Hid (Ext W w5) := Lib.hid (((Ext.drewN W 1).alloc _).trans hx4)
        have HBX : Hid (W.heap.size ≤ bx) := Lib.hid (by rw [hbx]; exact Nat.le_refl _)
        have HB4 : Hid (w5.heap[bx]? = some (.cells #[.int .i64 0, .int .i64 0, .int .u64 0, .int .i64 0, .int .i64 0, .int .i64 0, .int .i64 0, .int .i64 0, .int .i64 0, .int .i64 0, .int .i64 0] 48 (0, 0))) := Lib.hid (by
          rw [hbx]
          have h0 := heap_alloc_new (W.drewN 1) (.cells #[.int .i64 0, .int .i64 0, .int .u64 0, .int .i64 0, .int .i64 0, .int .i64 0, .int .i64 0, .int .i64 0, .int .i64 0, .int .i64 0, .int .i64 0] 48 (0, 0))
          exact (hx4.block (block_lt h0)).trans h0)
        clear hx4
        go_wp2_with fail
        refine thenX_mk (turned_of_ext HX5.out) (wpPlan_reads ?_)
        simp only [pickOps, List.getElem?_cons_succ, List.getElem?_cons_zero]
        repeat (go_big_quiet_step (fail))
        refine wpQuiet_nil ?_
        refine wpPlan_one ?_
        simp only [pickOps, List.getElem?_cons_succ, List.getElem?_cons_zero]
        rw [← hbx]
        clear hbx
      all_goals
        refine wpList_store_box rfl _ _ _ rfl _ _ _ _ rfl rfl HB4.out (by rw [HR.out]; rfl) (by rw [HR.out]; kernel_rfl) (by rw [HR.out]; simp [Value.oneCell']) ?_
        rintro w6 hb6 hc6
        have HB6 := Lib.hid hb6
        have HX6 : Hid (Ext W w6) := Lib.hid (((Chg.of_ext (S := fun _ => False) HX5.out).trans hc6 (fun i hi e => by have := HBX.out; omega)).ext (fun _ _ e => e))
        clear hb6 hc6 HX5 HB4 HCALL
        go_wp2_with fail
        refine thenX_mk (turned_of_ext HX6.out) (wpPlan_one ?_)
        simp only [pickOps, List.getElem?_cons_succ, List.getElem?_cons_zero]
        go_wp2_with fail
        refine thenX_last (wpPlan_done ?_)
        have HG6 := Lib.hid (HGW.out.ext HX6.out)
        have HF6 : Hid (w6.heap[wr.heap.size]? = some (.cells #[.int .i64 from', .int .i64 to'] 72 (0, 0))) := Lib.hid ((HX6.out.block (block_lt HP0.out)).trans HP0.out)
        go_wp2_with fail
        have p1 : w6.cell? ⟨g, 3, none⟩ = some (.map (some mb)) := by have := cell_of_block HG6.out.blk 3; simpa using this
        have p2 : w6.cell? ⟨wr.heap.size, 0, none⟩ = some (.int .i64 from') := by have := cell_of_block HF6.out 0; simpa using this
        refine wp_region_split_lit [] [0, 1, 2, 3, 4, 5, 6] [7] (by kernel_rfl) (by kernel_rfl) (fun _ _ dd _ _ hh => by cases dd <;> exact hh) ?_
        simp only [pickOps, List.getElem?_cons_succ, List.getElem?_cons_zero]
        refine wpQuiet_nil ?_
        repeat (first | (refine wpQuiet_load_box rfl _ _ rfl _ _ rfl (fun w hw => by obtain ⟨p, rfl⟩ := hw; exact load_box_run ((Ext.drewN w6 p).block (block_lt HB6.out) |>.trans HB6.out) Try.underlying48 rfl (by rw [HR.out]; kernel_rfl)) ?_) | (go_big_quiet_step (fail)))
        refine wpQuiet_nil ?_
        intro w7 hw'
        have hx7 : Ext w6 w7 := by obtain ⟨k, rfl⟩ := hw'; exact Ext.drewN _ _
        clear hw' p1 p2
        have HG7 := Lib.hid (HG6.out.ext hx7)
        have HX7 := Lib.hid (HX6.out.trans hx7)
        clear hx7
        obtain ⟨w8, hup, hmap8, hchg8⟩ := HG7.out.map.update (P := Try.prog) encI_kind Try.underlying57 from' (agM gg a).val
        rw [HRV.out] at hup
        have hup' : (Instr.mapUpdate 57 (.map (some mb)) (.int .i64 from') (.agg R)).run Try.prog w7 = .ok () w8 := hup
        have HM8 := Lib.hid (And.intro hmap8 hchg8)
        clear hmap8 hchg8 hup
        go_wp2_with fail
        have hw : wrap64 ((k : Int) + 1) = ((k + 1 : Nat) : Int) := IntWalk.wrap64_in _ (by have := HW.out; omega)
        refine ⟨⟨k + 1, by omega, by rw [hw], Lib.hid ⟨⟨?_, ?_⟩, ?_⟩⟩, ?_⟩
        · exact (HM8.out.2.block g (block_lt HG7.out.blk) HG7.out.ne).trans HG7.out.blk
        · have h1 := HM8.out.1
          rw [aput_amap, HGG.out] at h1
          rw [putL_take HP.out]
          exact h1
        · exact ((HI.out.2.trans (Chg.of_ext (S := fun _ => False) (HX.out.trans HX7.out)) (fun _ _ e => e.elim)).trans HM8.out.2 (fun _ _ e => e))
        · rw [hw]
          simp [RowKit.intOf]
          omega
    · have HKN : Hid (k = n) := Lib.hid (by omega)
      have p1 : wr.cell? ⟨g, 3, none⟩ = some (.map (some mb)) := by have := cell_of_block HI.out.1.blk 3; simpa using this
      have hrl := HI.out.1.map.run_len (P := Try.prog) Try.underlying57 3
      have hlen : (amap Ag.val (putL m a (L'.take k))).length ≤ 65536 := by
        have h1 := putL_len (a := a) (L'.take k) m
        have h2 : (L'.take k).length ≤ 64 := by have := HLN0.out; have := HW.out; rw [List.length_take]; omega
        have h3 := HM.out.2.2.2.2
        simp only [amap, List.length_map]
        omega
      obtain ⟨z, hz⟩ : ∃ z, z = (amap Ag.val (putL m a (L'.take k))).length := ⟨_, rfl⟩
      rw [← hz] at hrl hlen
      have hz2 : ¬ (65536 : Int) < (z : Int) := by omega
      clear hz
      go_wp2_with fail
      go_ret
      have e1 : putL m a L' = putL m a (L'.take k) := by rw [HKN.out, List.take_of_length_le (by have := HLN0.out; omega)]
      rw [e1]
      exact ⟨rfl, HI.out.1, (Chg.of_ext (S := fun i => i = mb) HX1.out).trans HI.out.2 (fun i hi e => e)⟩
end Go.Proofs.Ythnpchfcafaiiaa
