/- memtable.Table.Fits. -/
import Derived.Test.YtabnngcaohgppaaPlace
import Derived.Test.YtabnngcaohgppaaSmp
namespace Go.Proofs.Ytabnngcaohgppaa
open Go.RowKit Go.Sort Go.Lib

/-- The places that are not there, each once. -/
def freshStep (T : List (ByteArray × Sl)) (ks : List (ByteArray × Int)) (q : Sm) : List (ByteArray × Int) :=
  if hasL (tabPts T q.s) q.t then ks else if (q.s, q.t) ∈ ks then ks else ks ++ [(q.s, q.t)]
def freshPl (T : List (ByteArray × Sl)) (l : List Sm) : List (ByteArray × Int) := l.foldl (freshStep T) []
theorem freshPl_snoc (T : List (ByteArray × Sl)) (l : List Sm) (q : Sm) : freshPl T (l ++ [q]) = freshStep T (freshPl T l) q := by simp [freshPl]
theorem freshStep_len (T : List (ByteArray × Sl)) (ks : List (ByteArray × Int)) (q : Sm) : (freshStep T ks q).length ≤ ks.length + 1 := by
  unfold freshStep
  split
  · omega
  · split <;> simp

def trues (ks : List (ByteArray × Int)) : List ((ByteArray × Int) × Value) := ks.map fun k => (k, .bool true)
theorem trues_keys (ks : List (ByteArray × Int)) : (trues ks).map (·.1) = ks := by simp [trues, Function.comp_def]
theorem aput_trues (ks : List (ByteArray × Int)) (k : ByteArray × Int) : aput (trues ks) k (.bool true) = trues (if k ∈ ks then ks else ks ++ [k]) := by
  induction ks with
  | nil => rfl
  | cons x ks ih =>
    simp only [trues, List.map_cons, aput] at *
    by_cases hk : k = x
    · subst hk; simp
    · rw [if_neg hk, ih]
      by_cases hm : k ∈ ks
      · simp [hm]
      · simp [hm, hk]

structure FitsAt (w : World) (fb : Nat) (ks : List (ByteArray × Int)) (wr : World) : Prop where
  map : MapIs encPlace wr fb (trues ks)
  ext : Ext w wr

set_option maxHeartbeats 8000000 in
set_option maxRecDepth 100000 in
theorem tab_fits {w : World} {d mb : Nat} {T : List (ByteArray × Sl)} {cnt most : Nat} (h : TabAt w d mb T cnt most) (a : Option Addr) (n c : Nat) (l : List Sm) (hs : Src w 3 (.slice a n c) n (sms l)) (hn : n < 4398046511104) :
    Calls Try.prog 8 #[.pointer (some ⟨d, 0, none⟩), .slice a n c] w fun e w' => e = .returned (.bool (decide (cnt + (freshPl T l).length ≤ most))) ∧ Ext w w' := by
  have hcap := h.cap
  have hle := h.le
  have hmm := @run_makeMap Try.prog
  have H := Lib.hid h; clear h
  have HS := Lib.hid hs
  have Ln := Lib.hid (sms_src_len hs)
  clear hs
  go_enter Try.func8, Try.ntmps8
  go_wp2_with (go_at_call 22; refine (tab_none H.out).mono ?_; rintro e w' ⟨rfl, rfl⟩)
  clear hmm
  go_loopw [13] (fun i wr => ∃ j : Nat, j ≤ n ∧ i = .int .i64 j ∧ Hid (FitsAt w w.heap.size (freshPl T (l.take j)) wr ∧ (freshPl T (l.take j)).length ≤ j)) (fun i _ => n - (RowKit.intOf i).toNat)
  case atStart => exact ⟨0, by omega, rfl, Lib.hid ⟨⟨MapIs.new w, (Ext.refl w).alloc _⟩, by simp [freshPl]⟩⟩
  case round =>
    obtain ⟨j, hj, rfl, I⟩ := hrel
    by_cases hlt : j < n
    · obtain ⟨qb, qo, q, rfl, hq, q0, q1, q2⟩ := sms_src (HS.out.ext I.out.1.ext) hlt
      have HT : Hid (freshPl T (l.take (j + 1)) = freshStep T (freshPl T (l.take j)) q) := Lib.hid (by rw [take_snoc' hq, freshPl_snoc])
      clear hq
      go_wp2_with fail
      clear q0 q1 q2
      generalize hW : World.alloc _ _ = W
      have HX : Hid (Ext wr W) := Lib.hid (by subst hW; exact (Ext.refl _).alloc _)
      have e0 : W.cell? ⟨wr.heap.size, 0, none⟩ = some (.string q.s) := by subst hW; simp [go_sem]
      have e1 : W.cell? ⟨wr.heap.size, 1, none⟩ = some (.int .i64 q.t) := by subst hW; simp [go_sem]
      clear hW
      have E0 := Lib.hid e0
      have E1 := Lib.hid e1
      clear e0 e1
      refine (tab_has (H.out.ext (I.out.1.ext.trans HX.out)) q.s ⟨q.t, 0, 0⟩).mono ?_
      rintro e w3 ⟨rfl, hx3⟩
      have HX3 : Hid (Ext wr w3) := Lib.hid (HX.out.trans hx3)
      have e0 := (hx3.cell (p := ⟨wr.heap.size, 0, none⟩) (World.block_lt_of_cell? W _ E0.out)).trans E0.out
      have e1 := (hx3.cell (p := ⟨wr.heap.size, 1, none⟩) (World.block_lt_of_cell? W _ E1.out)).trans E1.out
      clear hx3 HX E0 E1
      cases hh : hasL (tabPts T q.s) q.t
      · have HH := Lib.hid hh; clear hh
        obtain ⟨w4, hup, hmap, hchg⟩ := (I.out.1.map.ext HX3.out).update (P := Try.prog) place_kind Try.underlying68 (q.s, q.t) (.bool true)
        simp only [encPlace] at hup
        rw [aput_trues] at hmap
        have HM := Lib.hid hmap
        have HC := Lib.hid hchg
        clear hmap hchg
        go_wp2_with fail
        clear hup
        go_roundw
        case rel =>
          have hst : freshStep T (freshPl T (l.take j)) q = if (q.s, q.t) ∈ freshPl T (l.take j) then freshPl T (l.take j) else freshPl T (l.take j) ++ [(q.s, q.t)] := by
            unfold freshStep; rw [HH.out]; simp
          refine ⟨j + 1, by omega, by go_num, Lib.hid ⟨⟨by rw [HT.out, hst]; exact HM.out, Chg.ext ((Chg.of_ext (I.out.1.ext.trans HX3.out)).trans HC.out (fun _ _ e => e)) (fun i hi e => by omega)⟩, ?_⟩⟩
          rw [HT.out]
          have h1 := freshStep_len T (freshPl T (l.take j)) q
          have h2 := I.out.2
          omega
        case measure => simp [RowKit.intOf]; omega
      · have HH := Lib.hid hh; clear hh
        go_wp2_with fail
        go_roundw
        case rel =>
          have hst : freshStep T (freshPl T (l.take j)) q = freshPl T (l.take j) := by unfold freshStep; rw [HH.out]; simp
          exact ⟨j + 1, by omega, by go_num, Lib.hid ⟨⟨by rw [HT.out, hst]; exact I.out.1.map.ext HX3.out, I.out.1.ext.trans HX3.out⟩, by rw [HT.out, hst]; have := I.out.2; omega⟩⟩
        case measure => simp [RowKit.intOf]; omega
    · have HF : Hid (l.take j = l) := Lib.hid (List.take_of_length_le (by have := Ln.out; omega))
      have c1 : wr.cell? ⟨d, 1, none⟩ = some (.int .i64 cnt) := by have := cell_of_block (H.out.ext I.out.1.ext).blk 1; simpa using this
      have c2 : wr.cell? ⟨d, 2, none⟩ = some (.int .i64 most) := by have := cell_of_block (H.out.ext I.out.1.ext).blk 2; simpa using this
      have hl := fun ty k => (I.out.1.map.ext (Ext.drewN wr k)).run_len (P := Try.prog) Try.underlying68 ty
      obtain ⟨N, hN⟩ : ∃ N : Nat, N = (trues (freshPl T (l.take j))).length := ⟨_, rfl⟩
      rw [← hN] at hl
      have HN : Hid (N = (freshPl T l).length) := Lib.hid (by rw [hN, HF.out]; simp [trues])
      have hNn : N ≤ n := by have := I.out.2; rw [hN]; simp [trues]; omega
      clear hN
      by_cases hfit : cnt + N ≤ most
      · have hf : (N : Int) ≤ (most : Int) - (cnt : Int) := by omega
        go_wp2_with fail
        go_quiet (fail)
        go_wp2_with fail
        go_ret
        exact ⟨by rw [← HN.out, decide_eq_true hfit]; simp [hf], I.out.1.ext.drewN' _⟩
      · have hf : ¬ (N : Int) ≤ (most : Int) - (cnt : Int) := by omega
        go_wp2_with fail
        go_quiet (fail)
        go_wp2_with fail
        go_ret
        exact ⟨by rw [← HN.out, decide_eq_false hfit]; simp [hf], I.out.1.ext.drewN' _⟩

end Go.Proofs.Ytabnngcaohgppaa
