/- series.Read. -/
import Derived.Test.YtafaagkhgdggbaaDoorSrp
namespace Go.Proofs.YtafaagkhgdggbaaDoor
open Go.RowKit Go.Sort Go.Lib

theorem varText64 (w : World) (a : Option Addr) (n c : Nat) (l : List UInt8) (hl : Src w 1 (.slice a n c) n (u8s l)) (hnc : n ≤ c) (hn : n < 4611686018427387904) (hg : HasET w) :
    Calls Tryd.prog 18 #[.slice a n c, .int .i64 64] w fun e w' => e = .returned (.tuple #[.string ⟨(txtR l 64).1.toArray⟩, .int .i64 ((txtR l 64).2.1 : Int), .int .i64 (txtR l 64).2.2]) ∧ Ext w w' :=
  varText_any w a n c l 64 (by omega) hl hnc hn hg

/-- What series.Read leaves. -/
def SerTo (w : World) (r : Except Int (List ByteArray × Nat)) (e : Ending) (w' : World) : Prop :=
  Ext w w' ∧ match r with
  | .error x => e = .returned (.tuple #[.pointer none, .int .i64 0, .int .i64 x])
  | .ok (acc, at') => ∃ d mb, e = .returned (.tuple #[.pointer (some ⟨d, 0, none⟩), .int .i64 (at' : Int), .int .i64 0]) ∧ DictAt w' d mb acc ∧ w.heap.size ≤ d ∧ w.heap.size ≤ mb

/-- In a round. -/
structure SerR (w : World) (l : List UInt8) (N k at' d mb : Nat) (acc : List ByteArray) (wr : World) : Prop where
  dict : DictAt wr d mb acc
  len : acc.length = k
  eq : readN l (N - k) at' acc = serR l
  ext : Ext w wr
  new : w.heap.size ≤ d ∧ w.heap.size ≤ mb

set_option maxHeartbeats 8000000 in
set_option maxRecDepth 100000 in
theorem serRead_any (w : World) (a : Option Addr) (n c : Nat) (l : List UInt8) (hl : Src w 1 (.slice a n c) n (u8s l)) (hnc : n ≤ c) (hn : n < 4611686018427387904) (hg : HasET w) :
    Calls Tryd.prog 5 #[.slice a n c] w (SerTo w (serR l)) := by
  have HL := Lib.hid hl
  have HG := Lib.hid hg
  have hlen := u8s_src_len hl
  clear hl hg
  obtain ⟨u, k0, e0, hv⟩ : ∃ u k e, varR l = (u, k, e) := ⟨_, _, _, rfl⟩
  obtain ⟨hb1, hb2, hb3, _⟩ := varR_bounds l
  rw [hv] at hb1 hb2 hb3
  simp only at hb1 hb2 hb3
  rw [hlen] at hb2
  have HV := Lib.hid hv
  have HLEN := Lib.hid hlen
  clear hv hlen
  by_cases he : e0 = 0
  · subst he
    by_cases h1 : 1024 < u
    · have h1' : (1024 : Int) < (u : Int) := by omega
      have HT : Hid (serR l = .error 3) := Lib.hid (by unfold serR; rw [HV.out]; simp only; rw [if_neg (by omega), if_pos h1])
      go_enter Tryd.func5, Tryd.ntmps5
      go_wp2_with fail
      refine (varRead_any w a n c l HL.out hn HG.out).mono ?_
      rw [HV.out]
      rintro e' w1 ⟨rfl, hx⟩
      have HX := Lib.hid hx
      clear hx
      go_wp2_with fail
      go_ret3
      rw [HT.out]
      exact ⟨HX.out, rfl⟩
    · have h1' : ¬ (1024 : Int) < (u : Int) := by omega
      have HS0 : Hid (readN l u k0 [] = serR l) := Lib.hid (by unfold serR; rw [HV.out]; simp only; rw [if_neg (by omega), if_neg h1])
      go_enter Tryd.func5, Tryd.ntmps5
      go_wp2_with fail
      refine (varRead_any w a n c l HL.out hn HG.out).mono ?_
      rw [HV.out]
      rintro e' w1 ⟨rfl, hx⟩
      have HX := Lib.hid hx
      clear hx
      go_wp2_with fail
      refine (dict_new w1).mono ?_
      rintro e' w2 ⟨rfl, hd, hx2⟩
      obtain ⟨d, hdd⟩ : ∃ d, d = w1.heap.size + 1 := ⟨_, rfl⟩
      have H0 : Hid (SerR w l u 0 k0 d w1.heap.size [] w2) := Lib.hid ⟨by rw [hdd]; exact hd, rfl, HS0.out, HX.out.trans hx2, by have := HX.out.size; omega⟩
      rw [← hdd]
      obtain ⟨mb, hmb⟩ : ∃ mb, mb = w1.heap.size := ⟨_, rfl⟩
      rw [← hmb] at H0
      clear hd hx2 hdd hmb HS0 HX
      go_wp2_with fail
      go_loopw [2, 6, 30] (fun sd sa si wr => ∃ (k at' : Nat) (acc : List ByteArray), k ≤ u ∧ sd = .pointer (some ⟨d, 0, none⟩) ∧ si = .int .i64 k ∧ sa = .int .i64 at' ∧ at' ≤ n ∧ Hid (SerR w l u k at' d mb acc wr)) (fun _ _ si _ => u - (RowKit.intOf si).toNat)
      case atStart => exact ⟨0, k0, [], by omega, rfl, rfl, rfl, hb2, H0⟩
      case round =>
        clear H0
        obtain ⟨k, at', acc, hk, rfl, rfl, rfl, hat, HR⟩ := hrel
        by_cases hlt : k < u
        · obtain ⟨s, m, e, ht⟩ : ∃ s m e, txtR (l.drop at') 64 = (s, m, e) := ⟨_, _, _, rfl⟩
          obtain ⟨t1, t2, _⟩ := txtR_bounds (l.drop at') 64
          rw [ht] at t1
          simp only [List.length_drop] at t1
          rw [HLEN.out] at t1
          have hs1 := run_slice_lo Tryd.underlying22 sz_u8 a n c at' hat
          have hs2 := run_sliceAt_lo Tryd.underlying22 sz_u8 a n c at' hat
          have HSRC := Lib.hid (src_bytes_lo (HL.out.ext HR.out.ext) hat hnc)
          have HTX := Lib.hid ht
          have hsub : u - k = (u - (k + 1)) + 1 := by omega
          have hsz : s.length ≤ 64 := by have := t2; have h3 := (txtR_bounds (l.drop at') 64).2.2; rw [ht] at h3; simp only at h3; omega
          clear ht t2
          by_cases hee : e = 0
          · subst hee
            obtain ⟨S, hS⟩ : ∃ S, S = lb s := ⟨_, rfl⟩
            have hSz : S.size ≤ maxLen := by rw [hS]; show s.toArray.size ≤ maxLen; unfold maxLen; simp; omega
            have HSZ := Lib.hid hSz
            clear hSz
            have HSS := Lib.hid hS
            go_wp2_with fail
            refine (varText64 wr _ _ _ _ HSRC.out (by omega) (by omega) (HG.out.ext HR.out.ext)).mono ?_
            rw [HTX.out]
            simp only
            rintro e' w3 ⟨rfl, hx⟩
            rw [show (⟨s.toArray⟩ : ByteArray) = S from HSS.out.symm]
            have HD := Lib.hid (HR.out.dict.ext hx)
            have HX := Lib.hid (HR.out.ext.trans hx)
            clear hx hS
            go_wp2_with fail
            refine (dict_put HD.out S HSZ.out).mono ?_
            rintro e' w4 ⟨rfl, hd4, hc4⟩
            have hval : bl S = s := by rw [HSS.out]; simp
            have hX4 : Ext w w4 := ((Chg.of_ext (S := fun i => i = mb) HX.out).trans hc4 (fun _ _ e => e)).ext (fun i hi e => by have := HR.out.new; omega)
            rcases put_parts acc S with ⟨p1, p2, p3⟩ | ⟨p1, p2, p3, p4, p5⟩ | ⟨p1, p2, _, ⟨p3, _⟩ | ⟨p3, p4, p5⟩⟩
            · have HERR : Hid (serR l = .error 11) := Lib.hid (by rw [← HR.out.eq, hsub]; exact readN_bad HTX.out (fun h => by rw [hval] at p1; rw [p1] at h; cases h.1))
              rw [p2]
              have HX4 := Lib.hid hX4
              clear hd4 hc4 p1 p2 p3 hval hX4
              go_wp2_with fail
              go_ret3
              rw [HERR.out]
              exact ⟨HX4.out, rfl⟩
            · have HERR : Hid (serR l = .error 11) := Lib.hid (by rw [← HR.out.eq, hsub]; exact readN_bad HTX.out (fun h => h.2 (by rw [← HSS.out]; exact p2)))
              have hne : (findZ acc S != (k : Int)) = true := by
                rw [bne_iff_ne]
                intro e
                have h1 := List.idxOf_lt_length_of_mem p2
                have h2 := HR.out.len
                unfold findZ at e
                rw [if_pos p2] at e
                omega
              rw [p3]
              have HX4 := Lib.hid hX4
              clear hd4 hc4 p1 p2 p3 p4 p5 hval hX4
              go_wp2_with fail
              go_ret3
              rw [HERR.out]
              exact ⟨HX4.out, rfl⟩
            · have := HR.out.len; omega
            · have HNXT : Hid (SerR w l u (k + 1) (at' + m) d mb (acc ++ [S]) w4) := Lib.hid ⟨by rw [p5] at hd4; exact hd4, by simp; exact HR.out.len, by
                have h1 := HR.out.eq
                rw [hsub, readN_step HTX.out (by rw [hval] at p1; exact p1) (by rw [← HSS.out]; exact p2)] at h1
                rw [HSS.out]; exact h1, hX4, HR.out.new⟩
              have hkk : (acc.length : Int) = (k : Int) := by have := HR.out.len; omega
              rw [p4, hkk]
              have hke : ((k : Int) != (k : Int)) = false := bne_self_eq_false _
              clear hd4 hc4 p1 p2 p3 p4 p5 hval hX4 hkk
              go_wp2_with fail
              go_roundw
              case rel => exact ⟨k + 1, at' + m, acc ++ [S], by omega, rfl, by go_num, by go_num, by omega, HNXT⟩
              case measure => simp [RowKit.intOf]; omega
          · have HERR : Hid (serR l = .error e) := Lib.hid (by rw [← HR.out.eq, hsub]; exact readN_err HTX.out hee)
            have hee' : (e != 0) = true := by simpa using hee
            go_wp2_with fail
            refine (varText64 wr _ _ _ _ HSRC.out (by omega) (by omega) (HG.out.ext HR.out.ext)).mono ?_
            rw [HTX.out]
            simp only
            rintro e' w3 ⟨rfl, hx⟩
            have HX := Lib.hid (HR.out.ext.trans hx)
            clear hx
            go_wp2_with fail
            go_ret3
            rw [HERR.out]
            exact ⟨HX.out, rfl⟩
        · have HOK : Hid (serR l = .ok (acc, at')) := Lib.hid (by rw [← HR.out.eq, show u - k = 0 by omega]; rfl)
          go_wp2_with fail
          go_ret3
          rw [HOK.out]
          exact ⟨HR.out.ext, d, mb, rfl, HR.out.dict, HR.out.new⟩
  · have HT : Hid (serR l = .error e0) := Lib.hid (by unfold serR; rw [HV.out]; simp only; rw [if_pos he])
    have he' : (e0 != 0) = true := by simpa using he
    go_enter Tryd.func5, Tryd.ntmps5
    go_wp2_with fail
    refine (varRead_any w a n c l HL.out hn HG.out).mono ?_
    rw [HV.out]
    rintro e' w1 ⟨rfl, hx⟩
    have HX := Lib.hid hx
    clear hx
    go_wp2_with fail
    go_ret3
    rw [HT.out]
    exact ⟨HX.out, rfl⟩
end Go.Proofs.YtafaagkhgdggbaaDoor
