/- Rows of buckets; gathered.buckets up to its sort: in whatever order the map is told. -/
import Derived.Test.YthnpchfcafaiiaaGat
import Derived.Test.YthnpchfcafaiiaaRng
namespace Go.Proofs.Ythnpchfcafaiiaa
open Go.RowKit Go.Lib Go.Sort

/-- A bucket, its cells. -/
structure Bk where
  lo : Int
  hi : Int
  a : Ag
def bkc (b : Bk) : List Value := [.int .i64 b.lo, .int .i64 b.hi, .int .i64 b.a.n, .int .i64 (b.a.s / 18446744073709551616), .int .u64 (b.a.s % 18446744073709551616), .int .i64 b.a.mn, .int .i64 b.a.mx,
  .int .i64 b.a.f.t, .int .i64 b.a.f.v, .int .i64 b.a.f.s, .int .i64 b.a.l.t, .int .i64 b.a.l.v, .int .i64 b.a.l.s]
def bks (l : List Bk) : List Value := l.flatMap bkc
theorem bkc_len (b : Bk) : (bkc b).length = 13 := rfl
theorem bkc_one (b : Bk) : ∀ v ∈ bkc b, v.oneCell' = true := by
  intro v hv
  simp only [bkc, List.mem_cons, List.not_mem_nil, or_false] at hv
  rcases hv with rfl | rfl | rfl | rfl | rfl | rfl | rfl | rfl | rfl | rfl | rfl | rfl | rfl <;> rfl
theorem bks_one (l : List Bk) : ∀ u ∈ bks l, u.oneCell' = true := by
  intro u hu
  simp only [bks, List.mem_flatMap] at hu
  obtain ⟨b, _, h⟩ := hu
  exact bkc_one b u h
theorem bks_append (a b : List Bk) : bks (a ++ b) = bks a ++ bks b := by simp [bks]
theorem bks_len (l : List Bk) : (bks l).length = l.length * 13 := enc_len bkc_len l
theorem elem_bk : ElemOk Try.prog 25 50 13 104 :=
  ⟨Try.underlying25, by
    obtain ⟨i0, hi, hz0, hz1, hz2⟩ := info_parts (show (Try.prog.info? 50).map (fun i => (i.zero, i.size, i.bytes)) = some (some (.agg #[.int .i64 0, .int .i64 0, .int .i64 0, .int .i64 0, .int .u64 0, .int .i64 0, .int .i64 0, .int .i64 0, .int .i64 0, .int .i64 0, .int .i64 0, .int .i64 0, .int .i64 0]), 13, 104) from by kernel_rfl)
    exact ⟨i0, _, hi, hz0, hz1, hz2, rfl⟩, by decide⟩

/-- A window of the map as a bucket. -/
def bkOf (wd : Int) (p : Int × Ag) : Bk := ⟨p.1, p.1 + wd, p.2⟩

/-- What has come of the windows, while some are left. -/
structure GbR (w : World) (g mb r : Nat) (wd st off : Int) (m dn lm : List (Int × Ag)) (v : Value) (wr : World) : Prop where
  iter : Iter encI wr mb r (amap Ag.val m) (amap Ag.val lm)
  perm : (dn ++ lm).Perm m
  blk : wr.heap[g]? = some (.cells #[.int .i64 wd, .int .i64 st, .int .i64 off, .map (some mb)] 59 (0, 0))
  made : MadeTo w 50 13 v dn.length (bks (dn.map (bkOf wd))) wr
  new : w.heap.size ≤ r ∧ g < w.heap.size ∧ mb < w.heap.size
  apart : v.ownBlock ≠ some r

theorem amap_split {l1 l2 : List (Int × Value)} {k : Int} {v : Value} {lm : List (Int × Ag)} (h : amap Ag.val lm = l1 ++ (k, v) :: l2) :
    ∃ m1 q m2, lm = m1 ++ (k, q) :: m2 ∧ v = q.val ∧ amap Ag.val m1 = l1 ∧ amap Ag.val m2 = l2 := by
  obtain ⟨m1, m3, e, h1, h2⟩ := List.map_eq_append_iff.1 h
  obtain ⟨q, m2, e2, h3, h4⟩ := List.map_eq_cons_iff.1 h2
  obtain ⟨q1, q2⟩ := q
  simp only [Prod.mk.injEq] at h3
  exact ⟨m1, q2, m2, by rw [e, e2, ← h3.1], h3.2.symm, h1, h4⟩

set_option maxHeartbeats 8000000 in
set_option maxRecDepth 100000 in
theorem buckets_upto {w : World} {g mb : Nat} {wd st off : Int} {m : List (Int × Ag)} (hg : GatAt w g mb wd st off m) (hv : windowB wd st off = true) (hm : ∀ p ∈ m, -2305843009213693952 ≤ p.1 ∧ p.1 ≤ 2305843009213693952) (hlen : m.length ≤ 70000)
    (R : Value → World → Prop)
    (hsort : ∀ (dn : List (Int × Ag)) (v : Value) (wr : World), dn.Perm m → MadeTo w 50 13 v dn.length (bks (dn.map (bkOf wd))) wr → Calls Try.prog 33 #[v, .func (.func 34) #[] #[]] wr fun e w' => e = .returned (.tuple #[]) ∧ R v w') :
    Calls Try.prog 19 #[.pointer (some ⟨g, 0, none⟩)] w fun e w' => ∃ v, e = .returned v ∧ R v w' := by
  have HS := Lib.hid hsort
  have HM := Lib.hid (And.intro hm hlen)
  have HV := Lib.hid (window_nums hv)
  obtain ⟨it, hrg, hit⟩ := iter_range (P := Try.prog) hg.map Try.underlying57
  have c3 : w.cell? ⟨g, 3, none⟩ = some (.map (some mb)) := by have := cell_of_block hg.blk 3; simpa using this
  have HR : Hid (GbR w g mb w.heap.size wd st off m [] m (.slice none 0 0) (w.alloc it)) := Lib.hid ⟨hit, List.Perm.refl _, by rw [heap_alloc_old _ _ (block_lt hg.blk)]; exact hg.blk, ⟨Row.nil _ _ _, fun g hg => by simp [Value.ownBlock] at hg, (Ext.refl w).alloc _⟩, ⟨Nat.le_refl _, hg.lt.1, hg.lt.2⟩, by simp [Value.ownBlock]⟩
  have HG := Lib.hid hg
  clear hg hsort hm hlen hv hit
  go_enter Try.func19, Try.ntmps19
  go_wp2_with fail
  clear hrg c3
  obtain ⟨r, hr⟩ : ∃ r : Nat, r = w.heap.size := ⟨_, rfl⟩
  rw [← hr] at HR
  rw [← hr]
  clear hr
  go_loopw [3] (fun s3 wr => ∃ (dn lm : List (Int × Ag)) (va : Option Addr) (vc : Nat), s3 = .slice va (List.length dn) vc ∧ Hid (GbR w g mb r wd st off m dn lm s3 wr)) (fun _ wr => iterLeft wr mb r)
  case atStart => exact ⟨[], m, none, 0, rfl, HR⟩
  case round =>
    clear HR
    obtain ⟨dn, lm, va, vc, rfl, HR⟩ := hrel
    rcases iter_next (P := Try.prog) HR.out.iter with ⟨hnil, hnx⟩ | ⟨l1, k, v, l2, w2, hl, hnx, hen, hi, hch, hsz⟩
    · have HN : Hid (dn.Perm m) := Lib.hid (by
        have h1 : lm = [] := by simpa [amap] using hnil
        have h2 := HR.out.perm
        rw [h1, List.append_nil] at h2
        exact h2)
      clear hnil
      go_wp2_with fail
      refine (HS.out dn _ wr HN.out HR.out.made).mono ?_
      rintro e w9 ⟨rfl, hR⟩
      have HRR := Lib.hid hR
      clear hR
      go_wp2_with fail
      go_ret
      exact ⟨_, rfl, HRR.out⟩
    · obtain ⟨m1, q, m2, hlm, rfl, hm1, hm2⟩ := amap_split hl
      have HQ : Hid ((k, q) ∈ m) := Lib.hid (HR.out.perm.subset (by rw [hlm]; simp))
      have HKB := Lib.hid (HM.out.1 _ HQ.out)
      have HG2 : Hid (w2.heap[g]? = some (.cells #[.int .i64 wd, .int .i64 st, .int .i64 off, .map (some mb)] 59 (0, 0))) := Lib.hid ((hch.block g (block_lt HR.out.blk) (by have := HR.out.new; omega)).trans HR.out.blk)
      have HRow2 := Lib.hid (HR.out.made.row.chg hch (fun x hx e => HR.out.apart (by rw [hx, e])))
      have HLN : Hid (dn.length + m1.length + m2.length + 1 ≤ 70000) := Lib.hid (by
        have h1 := HR.out.perm.length_eq
        rw [hlm] at h1
        simp at h1
        have := HM.out.2
        omega)
      have HI := Lib.hid hi
      have HC := Lib.hid hch
      have HLM := Lib.hid (And.intro hlm (And.intro hm1 hm2))
      have Hm0 := Lib.hid hl
      have HEQ : Hid (q.val = .agg #[.int .i64 q.n, .int .i64 (q.s / 18446744073709551616), .int .u64 (q.s % 18446744073709551616), .int .i64 q.mn, .int .i64 q.mx, .int .i64 q.f.t, .int .i64 q.f.v, .int .i64 q.f.s, .int .i64 q.l.t, .int .i64 q.l.v, .int .i64 q.l.s]) := Lib.hid rfl
      have HEK : Hid (encI k = .int .i64 k) := Lib.hid rfl
      simp only [HEQ.out, HEK.out] at hnx hen
      clear hlm hm1 hm2 hl hi hch hsz
      go_wp2_with fail
      clear hnx hen
      obtain ⟨bx, hbx⟩ : ∃ bx, bx = w2.heap.size := ⟨_, rfl⟩
      have HX3 : Hid (Ext w2 (w2.alloc (.cells #[.int .i64 q.n, .int .i64 (q.s / 18446744073709551616), .int .u64 (q.s % 18446744073709551616), .int .i64 q.mn, .int .i64 q.mx, .int .i64 q.f.t, .int .i64 q.f.v, .int .i64 q.f.s, .int .i64 q.l.t, .int .i64 q.l.v, .int .i64 q.l.s] 48 (0, 0)))) := Lib.hid ((Ext.refl w2).alloc _)
      have HB3 := Lib.hid (heap_alloc_new w2 (.cells #[.int .i64 q.n, .int .i64 (q.s / 18446744073709551616), .int .u64 (q.s % 18446744073709551616), .int .i64 q.mn, .int .i64 q.mx, .int .i64 q.f.t, .int .i64 q.f.v, .int .i64 q.f.s, .int .i64 q.l.t, .int .i64 q.l.v, .int .i64 q.l.s] 48 (0, 0)))
      rw [← hbx] at HB3
      rw [← hbx]
      have HBX := Lib.hid hbx
      clear hbx
      generalize w2.alloc (.cells #[.int .i64 q.n, .int .i64 (q.s / 18446744073709551616), .int .u64 (q.s % 18446744073709551616), .int .i64 q.mn, .int .i64 q.mx, .int .i64 q.f.t, .int .i64 q.f.v, .int .i64 q.f.s, .int .i64 q.l.t, .int .i64 q.l.v, .int .i64 q.l.s] 48 (0, 0)) = w3 at *
      have p1 : w3.cell? ⟨g, 0, none⟩ = some (.int .i64 wd) := by have := cell_of_block ((HX3.out.block (block_lt HG2.out)).trans HG2.out) 0; simpa using this
      have b0 : w3.cell? ⟨bx, 0, none⟩ = some (.int .i64 q.n) := by have := cell_of_block HB3.out 0; simpa using this
      have b1 : w3.cell? ⟨bx, 1, none⟩ = some (.int .i64 (q.s / 18446744073709551616)) := by have := cell_of_block HB3.out 1; simpa using this
      have b2 : w3.cell? ⟨bx, 2, none⟩ = some (.int .u64 (q.s % 18446744073709551616)) := by have := cell_of_block HB3.out 2; simpa using this
      have b3 : w3.cell? ⟨bx, 3, none⟩ = some (.int .i64 q.mn) := by have := cell_of_block HB3.out 3; simpa using this
      have b4 : w3.cell? ⟨bx, 4, none⟩ = some (.int .i64 q.mx) := by have := cell_of_block HB3.out 4; simpa using this
      have b5 : w3.cell? ⟨bx, 5, none⟩ = some (.int .i64 q.f.t) := by have := cell_of_block HB3.out 5; simpa using this
      have b6 : w3.cell? ⟨bx, 6, none⟩ = some (.int .i64 q.f.v) := by have := cell_of_block HB3.out 6; simpa using this
      have b7 : w3.cell? ⟨bx, 7, none⟩ = some (.int .i64 q.f.s) := by have := cell_of_block HB3.out 7; simpa using this
      have b8 : w3.cell? ⟨bx, 8, none⟩ = some (.int .i64 q.l.t) := by have := cell_of_block HB3.out 8; simpa using this
      have b9 : w3.cell? ⟨bx, 9, none⟩ = some (.int .i64 q.l.v) := by have := cell_of_block HB3.out 9; simpa using this
      have b10 : w3.cell? ⟨bx, 10, none⟩ = some (.int .i64 q.l.s) := by have := cell_of_block HB3.out 10; simpa using this
      have e1 : IntKind.i64.wrap (k + wd) = k + wd := IntWalk.i64_in _ (by have := HKB.out; have := HV.out; omega)
      refine wp_region_split_lit [0] [1, 2, 3, 4, 5, 6, 7, 8, 9, 10, 11] [12, 13, 14] (by kernel_rfl) (by kernel_rfl) (fun _ _ dd _ _ hh => by cases dd <;> exact hh) ?_
      simp only [pickOps, List.getElem?_cons_succ, List.getElem?_cons_zero]
      repeat (go_big_quiet_step (fail))
      refine wpQuiet_nil ?_
      repeat (go_big_quiet_step (fail))
      refine wpQuiet_nil ?_
      intro w4 hw'
      have HX4 : Hid (Ext w2 w4) := Lib.hid (by obtain ⟨k, rfl⟩ := hw'; exact HX3.out.trans (Ext.drewN _ _))
      clear hw' p1 b0 b1 b2 b3 b4 b5 b6 b7 b8 b9 b10
      have HR4 := Lib.hid (HRow2.out.ext HX4.out)
      go_wp2_with (refine wpList_append_to elem_bk rfl _ _ rfl rfl rfl (HR4.out.alloc _) (enc_one (p := (⟨k, k + wd, q⟩ : Bk)) (enc := bkc) (heap_alloc_new w4 (.cells #[.int .i64 k, .int .i64 (k + wd), .int .i64 q.n, .int .i64 (q.s / 18446744073709551616), .int .u64 (q.s % 18446744073709551616), .int .i64 q.mn, .int .i64 q.mx, .int .i64 q.f.t, .int .i64 q.f.v, .int .i64 q.f.s, .int .i64 q.l.t, .int .i64 q.l.v, .int .i64 q.l.s] 50 (0, 0))) rfl rfl (bkc_one _)) (by unfold maxLen; have := HLN.out; omega) (by have := HLN.out; omega) ?_; rintro v' w5 ha; obtain ⟨va', vc', rfl⟩ := ha.row.shape; have HA := Lib.hid ha; clear ha)
      have hIt4 : Iter encI w4 mb r (amap Ag.val m) (amap Ag.val (m1 ++ m2)) := by
        have h1 := HI.out.ext HX4.out
        rw [← HLM.out.2.1, ← HLM.out.2.2] at h1
        simpa [amap] using h1
      have hown : ∀ i, (Value.slice va dn.length vc).ownBlock = some i → w.heap.size ≤ i := HR.out.made.own
      have hnw := HR.out.new
      have hrl := HR.out.iter.lt
      have hsz2 := HC.out.size
      have hsz4 := HX4.out.size
      have hA := HA.out
      have hchg := hA.chg
      have hIt5 : Iter encI w5 mb r (amap Ag.val m) (amap Ag.val (m1 ++ m2)) := (hIt4.ext ((Ext.refl w4).alloc _)).chg hchg (fun e => by have := hown _ e; omega) (fun e => HR.out.apart e)
      have hperm : (dn ++ [(k, q)] ++ (m1 ++ m2)).Perm m := by
        have h1 := HR.out.perm
        rw [HLM.out.1] at h1
        refine List.Perm.trans ?_ h1
        rw [List.append_assoc]
        show (dn ++ ((k, q) :: (m1 ++ m2))).Perm _
        exact (List.perm_middle).symm.append_left dn
      have hEx : Ext w w5 := by
        have h1 : Chg (fun i => w.heap.size ≤ i) w wr := Chg.of_ext HR.out.made.ext
        have h2 := h1.trans HC.out (fun i _ e => by omega)
        have h3 := h2.trans (Chg.of_ext (S := fun _ => False) HX4.out) (fun _ _ e => e.elim)
        exact ((h3.alloc _).trans hchg (fun i _ e => hown i e)).ext (fun i hi e => by omega)
      have hN : GbR w g mb r wd st off m (dn ++ [(k, q)]) (m1 ++ m2) (.slice va' (dn.length + 1) vc') w5 := by
        refine ⟨hIt5, hperm, ?_, ⟨?_, ?_, hEx⟩, hnw, ?_⟩
        · have h1 := (HX4.out.block (block_lt HG2.out)).trans HG2.out
          have h2 := block_lt h1
          exact (hchg.block g (by simp; omega) (fun e => by have := hown _ e; omega)).trans (by rw [heap_alloc_old w4 _ h2]; exact h1)
        · have h1 := hA.row
          rw [show (dn ++ [(k, q)]).length = dn.length + 1 by simp]
          rw [show (dn ++ [(k, q)]).map (bkOf wd) = dn.map (bkOf wd) ++ [⟨k, k + wd, q⟩] by simp [bkOf], bks_append]
          exact h1
        · intro i hi
          rcases hA.loc with e | e
          · exact hown i (e ▸ hi)
          · rw [e] at hi
            cases hi
            have := HR.out.made.ext.size
            simp
            omega
        · intro e
          rcases hA.loc with e2 | e2
          · exact HR.out.apart (e2 ▸ e)
          · rw [e2] at e
            simp at e
            omega
      refine ⟨⟨dn ++ [(k, q)], m1 ++ m2, va', vc', by simp, Lib.hid hN⟩, ?_⟩
      rw [hN.iter.count, HR.out.iter.count, HLM.out.1]
      simp [amap]
end Go.Proofs.Ythnpchfcafaiiaa
