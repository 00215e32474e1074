/- The log: Open. -/
import Derived.Test.YtfablbhkmddnbaaDoorWl8
namespace Go.Proofs.YtfablbhkmddnbaaDoor
open Go.RowKit Go.Sort Go.Lib

theorem fileW_inv {L : LogS} {S : DiskS} {k : Nat} (h : DInv S k) (s : ByteArray) (last : Bool) : DInv (fileW L S s last).S (k + 4) := by
  unfold fileW
  split
  · exact h.mono (by omega)
  · split
    · exact h.mono (by omega)
    · unfold fileEnd
      split
      · exact h.mono (by omega)
      · exact h.mono (by omega)
      · split
        · split
          · exact h.mend s _
          · exact h.mend s _
        · exact h.mono (by omega)
/-- How much a file may add. -/
theorem fileW_bd {L : LogS} {S : DiskS} (ok : S.Ok) (s : ByteArray) (last : Bool) (hn : L.next ≤ 10000000000000) : (fileW L S s last).L.next ≤ 10000000000000 ∧ (fileW L S s last).L.files.length ≤ L.files.length + 1 ∧ (fileW L S s last).rs.length ≤ 1048576 ∧ (fileW L S s last).L.limit = L.limit := by
  have hb := bytesOf_len ok s
  unfold fileW
  cases h : numL (bl s) with
  | none => exact ⟨hn, by simp, by simp, rfl⟩
  | some m =>
    have hm := numL_lt h
    simp only
    split
    · exact ⟨hn, by simp, by simp, rfl⟩
    · have hl := eachW_len (bytesOf S s).length 0 (bytesOf S s)
      unfold fileEnd
      split
      · exact ⟨by simp only; omega, by simp, by simp only; omega, rfl⟩
      · exact ⟨by simp only; omega, by simp, by simp only; omega, rfl⟩
      · split
        · split
          · exact ⟨by simp only; omega, by simp, by simp only; omega, rfl⟩
          · exact ⟨by simp only; omega, by simp, by simp only; omega, rfl⟩
        · exact ⟨by simp only; omega, by simp, by simp only; omega, rfl⟩
theorem OpB.backB {wb wi wc wj : World} {X : List Nat} {lg d ab : Nat} {L L' : LogS} {S S' : DiskS} {K K' : List Bs} {V Va V' Va' : Value} {B B' : List Nat} (h : OpB wb X lg d ab L S K V Va B wi) (hx : Ext wi wc) (h' : OpB wc (lfoot lg V B ++ afoot ab Va) lg d ab L' S' K' V' Va' B' wj) : OpB wb X lg d ab L' S' K' V' Va' B' wj := by
  have hs := h.chg.size
  have hs2 := hx.size
  refine ⟨h'.log, h'.all, h'.ap, fun b hb => ?_, (h.chg.trans (Chg.of_ext (S := fun _ => False) hx) (fun _ _ e => e.elim)).trans h'.chg (fun i hi e => ?_)⟩
  · rcases h'.fr b hb with e | e
    · exact h.fr b e
    · exact .inr (by omega)
  · rcases h.fr i e with e | e
    · exact e
    · omega
theorem listp_len {S : DiskS} (ok : S.Ok) (p : ByteArray) : (S.list p).length ≤ 512 := by
  unfold DiskS.list
  rw [sortS_length]
  unfold DiskS.names
  exact Nat.le_trans (List.length_filter_le _ _) (by rw [List.length_map]; exact ok.few)
theorem listp_nm {S : DiskS} {k : Nat} {p s : ByteArray} (h : DInv S k) (hs : s ∈ S.list p) : s.size ≤ 64 := by
  unfold DiskS.list at hs
  have h1 := (sortS_perm _).subset hs
  unfold DiskS.names at h1
  obtain ⟨q, hq, e⟩ := List.mem_map.1 (List.mem_filter.1 h1).1
  rw [← e]
  exact h.nm q hq
/-- What Open leaves. -/
structure OpenTo (w : World) (d : Nat) (B : List Nat) (R : FileR) (e : Ending) (w' : World) : Prop where
  bad : R.e ≠ 0 → e = .returned (.tuple #[.pointer none, .slice none 0 0, .int .i64 R.e])
  disk : DiskTo w d B R.S w'
  good : R.e = 0 → ∃ (lg : Nat) (a : Option Addr) (c : Nat) (K : List Bs) (F : List Nat), e = .returned (.tuple #[.pointer (some ⟨lg, 0, none⟩), .slice a K.length c, .int .i64 0]) ∧ LogAt w' lg d R.L R.S F ∧ (∀ b ∈ F, b ∈ B ∨ w.heap.size ≤ b) ∧
    bsl K = R.rs ∧ Src w' 1 (.slice a K.length c) K.length (bsv K) ∧ (∀ x ∈ K, x.Ok w') ∧ (∀ g, (Value.slice a K.length c).ownBlock = some g → g ∉ F) ∧ ∀ x ∈ K, ∀ g, x.v.ownBlock = some g → g ∉ F
theorem OpAt.diskTo {w wi : World} {X : List Nat} {lg d ab : Nat} {L : LogS} {S : DiskS} {rs : List (List UInt8)} (h : OpAt w X lg d ab L S rs wi) : DiskTo w d X S wi := by
  obtain ⟨V, Va, B, K, hk, h⟩ := h
  exact ⟨B, h.log.disk, h.chg, fun b hb => h.fr b (List.mem_append_left _ (lfoot_disk hb))⟩
theorem OpenTo.ok {w wi : World} {d : Nat} {X : List Nat} {lg ab : Nat} {R : FileR} {K : List Bs} {a : Option Addr} {c : Nat} {V : Value} {B : List Nat} {e : Ending} (hR : R.e = 0) (hk : bsl K = R.rs) (h : OpB w X lg d ab R.L R.S K V (.slice a K.length c) B wi) (he : e = .returned (.tuple #[.pointer (some ⟨lg, 0, none⟩), .slice a K.length c, .int .i64 0])) : OpenTo w d X R e wi :=
  ⟨fun h0 => absurd hR h0, (hk ▸ h.at).diskTo, fun _ => ⟨lg, a, c, K, _, he, ⟨V, B, h.log, rfl⟩, fun b hb => h.fr b (List.mem_append_left _ hb), hk, h.all.row.src (bsv_one _), h.all.ok, fun g hg => h.ap g (List.mem_append_left _ (afoot_mem.2 (.inr hg))), fun x hx g hg => h.ap g (List.mem_append_right _ (efoot_mem.2 ⟨x, hx, hg⟩))⟩⟩

set_option maxHeartbeats 16000000 in
set_option maxRecDepth 100000 in
theorem logopen_any {w : World} {d k : Nat} {S : DiskS} {B : List Nat} (hk : k ≤ 100000) (inv : DInv S k) (h : DiskAt w d S B) (limit : Int) (hl : 1 ≤ limit ∧ limit ≤ 1048576) (hg : HasET w) (hgB : 0 ∉ B) :
    Calls Tryd.prog 9 #[.pointer (some ⟨d, 0, none⟩), .int .i64 limit] w (OpenTo w d B (openW S limit)) := by
  have HD := Lib.hid h
  have HI := Lib.hid inv
  have HG := Lib.hid hg
  obtain ⟨R, hR⟩ : ∃ R, R = openW S limit := ⟨_, rfl⟩
  rw [← hR]
  have HR := Lib.hid hR
  obtain ⟨z, hz, HRD⟩ : ∃ z : Int, (z = 0 ∨ z = 13) ∧ Hid (Calls Tryd.prog 19 #[.pointer (some ⟨d, 0, none⟩), .string fW] w (RdAny w z)) := by
    cases hx : aget S.files fW with
    | none =>
      refine ⟨13, .inr rfl, Lib.hid ((disk_read_none h fW hx).mono fun e w' he => ?_)⟩
      obtain ⟨rfl, rfl⟩ := he
      exact ⟨_, rfl, Ext.refl _⟩
    | some f =>
      refine ⟨0, .inl rfl, Lib.hid ((disk_read_some inv.ok h fW f hx).mono fun e w' he => ?_)⟩
      obtain ⟨v, rfl, hn⟩ := he
      exact ⟨v, rfl, hn.2.2⟩
  have hz1 : (z == 1) = false := by rcases hz with rfl | rfl <;> rfl
  have hl1 : ¬ limit < 1 := by omega
  have hl2 : ¬ 1048576 < limit := by omega
  clear h inv hg hR hl hz
  go_enter Tryd.func9, Tryd.ntmps9
  go_wp2_with fail
  refine HRD.out.mono ?_
  rintro e w1 ⟨v1, rfl, hx⟩
  have HX1 := Lib.hid hx
  clear hx HRD
  go_upto_region 8 with fail
  clear hz1 hl1 hl2
  obtain ⟨lg, hlg⟩ : ∃ q, q = w1.heap.size := ⟨_, rfl⟩
  obtain ⟨ab, hab⟩ : ∃ q, q = w1.heap.size + 1 := ⟨_, rfl⟩
  rw [← hab, ← hlg]
  generalize hW : (w1.alloc _).alloc _ = W
  have HX2 : Hid (Ext w W) := Lib.hid (by rw [← hW]; exact (HX1.out.alloc _).alloc _)
  have HL2 : Hid (W.heap[lg]? = some (.cells #[.pointer (some ⟨d, 0, none⟩), .int .i64 limit, .slice none 0 0, .int .i64 0, .int .i64 0, .bool false, .bool false] 53 (0, 0))) := Lib.hid (by rw [← hW, hlg, heap_alloc_old _ _ (by simp)]; exact heap_alloc_new w1 _)
  have HA2 : Hid (W.heap[ab]? = some (.cells #[.slice none 0 0] 24 (0, 0))) := Lib.hid (by rw [← hW, hab]; exact heap_alloc2 w1 _ _)
  have HLA : Hid (lg = w1.heap.size ∧ ab = w1.heap.size + 1) := Lib.hid ⟨hlg, hab⟩
  clear hW hlg hab
  have HO2 : Hid (OpB w B lg d ab (log0 limit) S [] (.slice none 0 0) (.slice none 0 0) B W) := Lib.hid (by
    have h1 := HX1.out.size
    have h2 := HLA.out
    have h3 := HD.out.lt
    refine ⟨⟨⟨HL2.out, Row.nil _ _ _⟩, HD.out.ext HX2.out, fun e => by have := h3 lg e; omega, fun g hg => by simp [Value.ownBlock] at hg⟩, ⟨HA2.out, Row.nil _ _ _, by simp, by simp, by simp [Value.ownBlock], by simp⟩, fun b hb e => ?_, fun b hb => ?_, Chg.of_ext HX2.out⟩
    · simp [afoot, efoot, Value.ownBlock] at hb
      simp [lfoot, Value.ownBlock] at e
      rcases e with e | e
      · omega
      · have := h3 b e; omega
    · simp [afoot, lfoot, Value.ownBlock] at hb
      rcases hb with e | e | e
      · exact .inr (by omega)
      · exact .inl e
      · exact .inr (by omega))
  clear HL2 HA2
  go_wp2_with fail
  refine (disk_list HI.out.ok HO2.out.log.disk fW).mono ?_
  rintro e w3 ⟨v3, rfl, hst⟩
  obtain ⟨na, nc, rfl⟩ := hst.row.shape
  have HST := Lib.hid hst
  have HO3 := Lib.hid (HO2.out.ext hst.ext)
  have HNL := Lib.hid (listp_len HI.out.ok fW)
  have HNM := Lib.hid (fun s (hs : s ∈ S.list fW) => listp_nm HI.out hs)
  have HXL : Hid (∀ q ∈ lfoot lg (.slice none 0 0) B ++ afoot ab (.slice none 0 0), q < W.heap.size ∧ (q ∈ B ∨ w.heap.size ≤ q)) := Lib.hid (fun q hq => ⟨by
    rcases List.mem_append.1 hq with e | e
    · exact HO2.out.log.lt q e
    · exact HO2.out.all.ltF q (List.mem_append_left _ e), HO2.out.fr q hq⟩)
  have HB3 := Lib.hid HO3.out.rebase
  have HR0 : Hid (R = openGo (S.list fW) (log0 limit) S []) := Lib.hid HR.out
  generalize S.list fW = NS at *
  clear hst HR HO2
  obtain ⟨X3, hX3⟩ : ∃ X3, X3 = lfoot lg (.slice none 0 0) B ++ afoot ab (.slice none 0 0) := ⟨_, rfl⟩
  rw [← hX3] at HB3 HXL
  have HBACK : Hid (∀ (L' : LogS) (S' : DiskS) (K' : List Bs) (V' Va' : Value) (B' : List Nat) (wj : World), OpB w3 X3 lg d ab L' S' K' V' Va' B' wj → OpB w B lg d ab L' S' K' V' Va' B' wj) := Lib.hid (fun L' S' K' V' Va' B' wj h' => HO3.out.backB (Ext.refl _) (by rw [← hX3]; exact h'))
  have HG3 : Hid (HasET w3) := Lib.hid (HG.out.ext (HX2.out.trans HST.out.ext))
  have HGX : Hid (0 ∉ X3) := Lib.hid (fun e => by
    rcases (HXL.out _ e).2 with e | e
    · exact hgB e
    · have := HG.out.lt; omega)
  have HROW := Lib.hid (HST.out.row.src (strs_one _))
  have HOWN := Lib.hid HST.out.own
  clear hX3 HO3 HX2 HST
  go_wp2_with fail
  go_loopw [37, 12, 13, 14, 4, 5, 6] (fun s37 s12 s13 s14 s4 s5 s6 wr => ∃ (i : Nat) (L' : LogS) (S' : DiskS) (rs' : List (List UInt8)), s37 = .int .i64 (i : Int) ∧ i ≤ NS.length ∧ Hid (OpAt w3 X3 lg d ab L' S' rs' wr ∧ R = openGo (NS.drop i) L' S' rs' ∧ DInv S' (k + 4 * i) ∧ L'.next ≤ 10000000000000 ∧ L'.files.length ≤ i ∧ rs'.length ≤ 1048576 * i)) (fun s37 _ _ _ _ _ _ _ => NS.length - (RowKit.intOf s37).toNat)
  case atStart => exact ⟨0, log0 limit, S, [], by go_num, by omega, Lib.hid ⟨HB3.out.at, HR0.out, HI.out, by simp [log0], by simp [log0], by simp⟩⟩
  case round =>
    clear HB3 HR0
    obtain ⟨i, L', S', rs', rfl, hi, HH⟩ := hrel
    have hn512 := HNL.out
    rcases Nat.lt_or_ge i NS.length with hlt | hge
    · have hsrcN : Src wr 1 (.slice na NS.length nc) NS.length (strs NS) := by
        obtain ⟨_, _, _, _, _, hb⟩ := HH.out.1
        exact HROW.out.chg hb.chg (fun g hg e => by have := HOWN.out g hg; have := (HXL.out g e).1; omega)
      obtain ⟨nb, no, s, rfl, hs, cs⟩ := strs_src hsrcN hlt
      have HS := Lib.hid hs
      have HSZ := Lib.hid (HNM.out s (List.mem_of_getElem? hs))
      have hlti : (i : Int) < (NS.length : Int) := by omega
      obtain ⟨lb, hlb, hlb2⟩ : ∃ lb : Bool, ((i : Int) == (NS.length : Int) - 1) = lb ∧ lb = decide (NS.drop (i + 1) = []) := by
        refine ⟨decide (NS.drop (i + 1) = []), ?_, rfl⟩
        by_cases hN : i + 1 = NS.length
        · have e1 : NS.drop (i + 1) = [] := List.drop_of_length_le (by omega)
          rw [e1]; simp; omega
        · have e1 : NS.drop (i + 1) ≠ [] := fun e => by have := congrArg List.length e; simp at this; omega
          rw [decide_eq_false e1]; simp; omega
      have HLB := Lib.hid hlb2
      have HRR : Hid (R = if (fileW L' S' s lb).e ≠ 0 then ⟨(fileW L' S' s lb).e, (fileW L' S' s lb).L, (fileW L' S' s lb).S, rs' ++ (fileW L' S' s lb).rs⟩ else openGo (NS.drop (i + 1)) (fileW L' S' s lb).L (fileW L' S' s lb).S (rs' ++ (fileW L' S' s lb).rs)) := Lib.hid (by
        have e1 : NS.drop i = s :: NS.drop (i + 1) := by
          rw [List.drop_eq_getElem_cons hlt]
          congr 1
          rw [List.getElem?_eq_getElem hlt] at hs
          exact Option.some.inj hs
        rw [HH.out.2.1, e1, openGo, hlb2])
      have HF := Lib.hid (file_any HH.out.1 (by omega) HH.out.2.2.1 HH.out.2.2.2.1 (by have := HH.out.2.2.2.2.1; omega) (by have := HH.out.2.2.2.2.2; omega) s (by unfold maxLen; have := HSZ.out; omega) lb HG3.out HGX.out)
      have HIV := Lib.hid (fileW_inv (L := L') HH.out.2.2.1 s lb)
      have HBD := Lib.hid (fileW_bd HH.out.2.2.1.ok s lb HH.out.2.2.2.1)
      clear hs hlb2 hsrcN
      generalize fileW L' S' s lb = Q at *
      obtain ⟨qe, qL, qS, qrs⟩ := Q
      simp only at HRR HF HIV HBD
      go_wp2_with fail
      refine HF.out.mono ?_
      rintro e w4 ⟨rfl, hop⟩
      have HOP := Lib.hid hop
      clear hop cs hlb
      by_cases hq : qe = 0
      · subst hq
        have HR2 : Hid (R = openGo (NS.drop (i + 1)) qL qS (rs' ++ qrs)) := Lib.hid (by rw [HRR.out, if_neg (by simp)])
        clear HRR
        go_wp2_with fail
        go_roundw
        case rel => exact ⟨i + 1, qL, qS, rs' ++ qrs, by go_num, by omega, Lib.hid ⟨HOP.out, HR2.out, by rw [show k + 4 * (i + 1) = k + 4 * i + 4 by omega]; exact HIV.out, HBD.out.1, by have := HBD.out.2.1; have := HH.out.2.2.2.2.1; omega, by have := HBD.out.2.2.1; have := HH.out.2.2.2.2.2; rw [List.length_append]; omega⟩⟩
        case measure => simp [RowKit.intOf]; omega
      · have hqi : (qe != 0) = true := by simp [hq]
        have HR2 : Hid (R = ⟨qe, qL, qS, rs' ++ qrs⟩) := Lib.hid (by rw [HRR.out, if_pos hq])
        have HQ := Lib.hid hq
        clear HRR hq
        go_wp2_with fail
        go_ret3
        rw [HR2.out]
        obtain ⟨V', Va', B', K', hk', hb'⟩ := HOP.out
        exact ⟨fun _ => rfl, (HBACK.out _ _ _ _ _ _ _ hb').at.diskTo, fun h0 => absurd h0 HQ.out⟩
    · obtain rfl : i = NS.length := by omega
      have HR2 : Hid (R = ⟨0, L', S', rs'⟩) := Lib.hid (by
        have e1 : NS.drop NS.length = [] := List.drop_of_length_le (Nat.le_refl _)
        rw [HH.out.2.1, e1, openGo])
      obtain ⟨V', Va', B', K', hk', hb'⟩ := HH.out.1
      have HOP := Lib.hid (HBACK.out _ _ _ _ _ _ _ hb')
      obtain ⟨va', vc', rfl⟩ := hb'.all.row.shape
      have a0 := cell_of_block hb'.all.box 0
      simp only [List.getElem?_toArray, List.getElem?_cons_zero] at a0
      have HK := Lib.hid hk'
      clear hb' hk'
      go_wp2_with fail
      go_big_quiet (fail)
      go_wp2_with fail
      go_ret3
      rw [HR2.out]
      exact OpenTo.ok rfl HK.out (HOP.out.ext (Ext.drewN _ _)) rfl
end Go.Proofs.YtfablbhkmddnbaaDoor
