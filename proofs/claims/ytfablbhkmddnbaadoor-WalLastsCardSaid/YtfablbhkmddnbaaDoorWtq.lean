/- The log: Open. -/
import Derived.Test.YtfablbhkmddnbaaDoorWl8
import Derived.Test.YtfablbhkmddnbaaDoorWl4
namespace Go.Proofs.YtfablbhkmddnbaaDoor
open Go.RowKit Go.Sort Go.Lib

theorem fileW_inv {L : LogS} {S : DiskS} {k : Nat} (h : DInv S k) (s : ByteArray) (last : Bool) : DInv (fileW L S s last).S (k + 4) := by
  unfold fileW
  split
  · exact h.mono (by omega)
  · split
    · exact h.mono (by omega)
    · unfold fileEnd
      split
      · exact h.mono (by omega)
      · exact h.mono (by omega)
      · split
        · split
          · exact h.mend s _
          · exact h.mend s _
        · exact h.mono (by omega)
/-- How much a file may add. -/
theorem fileW_bd {L : LogS} {S : DiskS} (ok : S.Ok) (s : ByteArray) (last : Bool) (hn : L.next ≤ 10000000000000) : (fileW L S s last).L.next ≤ 10000000000000 ∧ (fileW L S s last).L.files.length ≤ L.files.length + 1 ∧ (fileW L S s last).rs.length ≤ 1048576 ∧ (fileW L S s last).L.limit = L.limit := by
  have hb := bytesOf_len ok s
  unfold fileW
  cases h : numL (bl s) with
  | none => exact ⟨hn, by simp, by simp, rfl⟩
  | some m =>
    have hm := numL_lt h
    simp only
    split
    · exact ⟨hn, by simp, by simp, rfl⟩
    · have hl := eachW_len (bytesOf S s).length 0 (bytesOf S s)
      unfold fileEnd
      split
      · exact ⟨by simp only; omega, by simp, by simp only; omega, rfl⟩
      · exact ⟨by simp only; omega, by simp, by simp only; omega, rfl⟩
      · split
        · split
          · exact ⟨by simp only; omega, by simp, by simp only; omega, rfl⟩
          · exact ⟨by simp only; omega, by simp, by simp only; omega, rfl⟩
        · exact ⟨by simp only; omega, by simp, by simp only; omega, rfl⟩
theorem OpB.backB {wb wi wc wj : World} {X : List Nat} {lg d ab : Nat} {L L' : LogS} {S S' : DiskS} {K K' : List Bs} {V Va V' Va' : Value} {B B' : List Nat} (h : OpB wb X lg d ab L S K V Va B wi) (hx : Ext wi wc) (h' : OpB wc (lfoot lg V B ++ afoot ab Va) lg d ab L' S' K' V' Va' B' wj) : OpB wb X lg d ab L' S' K' V' Va' B' wj := by
  have hs := h.chg.size
  have hs2 := hx.size
  refine ⟨h'.log, h'.all, h'.ap, fun b hb => ?_, (h.chg.trans (Chg.of_ext (S := fun _ => False) hx) (fun _ _ e => e.elim)).trans h'.chg (fun i hi e => ?_)⟩
  · rcases h'.fr b hb with e | e
    · exact h.fr b e
    · exact .inr (by omega)
  · rcases h.fr i e with e | e
    · exact e
    · omega
theorem listp_len {S : DiskS} (ok : S.Ok) (p : ByteArray) : (S.list p).length ≤ 512 := by
  unfold DiskS.list
  rw [sortS_length]
  unfold DiskS.names
  exact Nat.le_trans (List.length_filter_le _ _) (by rw [List.length_map]; exact ok.few)
theorem listp_nm {S : DiskS} {k : Nat} {p s : ByteArray} (h : DInv S k) (hs : s ∈ S.list p) : s.size ≤ 64 := by
  unfold DiskS.list at hs
  have h1 := (sortS_perm _).subset hs
  unfold DiskS.names at h1
  obtain ⟨q, hq, e⟩ := List.mem_map.1 (List.mem_filter.1 h1).1
  rw [← e]
  exact h.nm q hq
/-- What Open leaves. -/
structure OpenTo (w : World) (d : Nat) (B : List Nat) (R : FileR) (e : Ending) (w' : World) : Prop where
  bad : R.e ≠ 0 → e = .returned (.tuple #[.pointer none, .slice none 0 0, .int .i64 R.e])
  disk : DiskTo w d B R.S w'
  good : R.e = 0 → ∃ (lg : Nat) (a : Option Addr) (c : Nat) (K : List Bs) (F : List Nat), e = .returned (.tuple #[.pointer (some ⟨lg, 0, none⟩), .slice a K.length c, .int .i64 0]) ∧ LogAt w' lg d R.L R.S F ∧ (∀ b ∈ F, b ∈ B ∨ w.heap.size ≤ b) ∧
    bsl K = R.rs ∧ Src w' 1 (.slice a K.length c) K.length (bsv K) ∧ (∀ x ∈ K, x.Ok w') ∧ (∀ g, (Value.slice a K.length c).ownBlock = some g → g ∉ F) ∧ ∀ x ∈ K, ∀ g, x.v.ownBlock = some g → g ∉ F
theorem OpAt.diskTo {w wi : World} {X : List Nat} {lg d ab : Nat} {L : LogS} {S : DiskS} {rs : List (List UInt8)} (h : OpAt w X lg d ab L S rs wi) : DiskTo w d X S wi := by
  obtain ⟨V, Va, B, K, hk, h⟩ := h
  exact ⟨B, h.log.disk, h.chg, fun b hb => h.fr b (List.mem_append_left _ (lfoot_disk hb))⟩
theorem OpenTo.ok {w wi : World} {d : Nat} {X : List Nat} {lg ab : Nat} {R : FileR} {K : List Bs} {a : Option Addr} {c : Nat} {V : Value} {B : List Nat} {e : Ending} (hR : R.e = 0) (hk : bsl K = R.rs) (h : OpB w X lg d ab R.L R.S K V (.slice a K.length c) B wi) (he : e = .returned (.tuple #[.pointer (some ⟨lg, 0, none⟩), .slice a K.length c, .int .i64 0])) : OpenTo w d X R e wi :=
  ⟨fun h0 => absurd hR h0, (hk ▸ h.at).diskTo, fun _ => ⟨lg, a, c, K, _, he, ⟨V, B, h.log, rfl⟩, fun b hb => h.fr b (List.mem_append_left _ hb), hk, h.all.row.src (bsv_one _), h.all.ok, fun g hg => h.ap g (List.mem_append_left _ (afoot_mem.2 (.inr hg))), fun x hx g hg => h.ap g (List.mem_append_right _ (efoot_mem.2 ⟨x, hx, hg⟩))⟩⟩

set_option maxHeartbeats 16000000 in
set_option maxRecDepth 100000 in
theorem logopen_any {w : World} {d k : Nat} {S : DiskS} {B : List Nat} (hk : k ≤ 100000) (inv : DInv S k) (h : DiskAt w d S B) (limit : Int) (hl : 1 ≤ limit ∧ limit ≤ 1048576) (hg : HasET w) (hgB : 0 ∉ B) :
    Calls Tryd.prog 9 #[.pointer (some ⟨d, 0, none⟩), .int .i64 limit] w (OpenTo w d B (openW S limit)) := by
  have HD := Lib.hid h
  have HI := Lib.hid inv
  have HG := Lib.hid hg
  obtain ⟨R, hR⟩ : ∃ R, R = openW S limit := ⟨_, rfl⟩
  rw [← hR]
  have HR := Lib.hid hR
  obtain ⟨z, hz, HRD⟩ : ∃ z : Int, (z = 0 ∨ z = 13) ∧ Hid (Calls Tryd.prog 19 #[.pointer (some ⟨d, 0, none⟩), .string fW] w (RdAny w z)) := by
    cases hx : aget S.files fW with
    | none =>
      refine ⟨13, .inr rfl, Lib.hid ((disk_read_none h fW hx).mono fun e w' he => ?_)⟩
      obtain ⟨rfl, rfl⟩ := he
      exact ⟨_, rfl, Ext.refl _⟩
    | some f =>
      refine ⟨0, .inl rfl, Lib.hid ((disk_read_some inv.ok h fW f hx).mono fun e w' he => ?_)⟩
      obtain ⟨v, rfl, hn⟩ := he
      exact ⟨v, rfl, hn.2.2⟩
  have hz1 : (z == 1) = false := by rcases hz with rfl | rfl <;> rfl
  have hl1 : ¬ limit < 1 := by omega
  have hl2 : ¬ 1048576 < limit := by omega
  clear h inv hg hR hl hz
  go_enter Tryd.func9, Tryd.ntmps9
  go_wp2_with fail
  refine HRD.out.mono ?_
  rintro e w1 ⟨v1, rfl, hx⟩
  have HX1 := Lib.hid hx
  clear hx HRD
  go_upto_region 8 with fail
  clear hz1 hl1 hl2
  obtain ⟨lg, hlg⟩ : ∃ q, q = w1.heap.size := ⟨_, rfl⟩
  obtain ⟨ab, hab⟩ : ∃ q, q = w1.heap.size + 1 := ⟨_, rfl⟩
  rw [← hab, ← hlg]
  generalize hW : (w1.alloc _).alloc _ = W
  have HX2 : Hid (Ext w W) := Lib.hid (by rw [← hW]; exact (HX1.out.alloc _).alloc _)
  have HL2 : Hid (W.heap[lg]? = some (.cells #[.pointer (some ⟨d, 0, none⟩), .int .i64 limit, .slice none 0 0, .int .i64 0, .int .i64 0, .bool false, .bool false] 53 (0, 0))) := Lib.hid (by rw [← hW, hlg, heap_alloc_old _ _ (by simp)]; exact heap_alloc_new w1 _)
  have HA2 : Hid (W.heap[ab]? = some (.cells #[.slice none 0 0] 24 (0, 0))) := Lib.hid (by rw [← hW, hab]; exact heap_alloc2 w1 _ _)
  have HLA : Hid (lg = w1.heap.size ∧ ab = w1.heap.size + 1) := Lib.hid ⟨hlg, hab⟩
  clear hW hlg hab
  have HO2 : Hid (OpB w B lg d ab (log0 limit) S [] (.slice none 0 0) (.slice none 0 0) B W) := Lib.hid (by
    have h1 := HX1.out.size
    have h2 := HLA.out
    have h3 := HD.out.lt
    refine ⟨⟨⟨HL2.out, Row.nil _ _ _⟩, HD.out.ext HX2.out, fun e => by have := h3 lg e; omega, fun g hg => by simp [Value.ownBlock] at hg⟩, ⟨HA2.out, Row.nil _ _ _, by simp, by simp, by simp [Value.ownBlock], by simp⟩, fun b hb e => ?_, fun b hb => ?_, Chg.of_ext HX2.out⟩
    · simp [afoot, efoot, Value.ownBlock] at hb
      simp [lfoot, Value.ownBlock] at e
      rcases e with e | e
      · omega
      · have := h3 b e; omega
    · simp [afoot, lfoot, Value.ownBlock] at hb
      rcases hb with e | e | e
      · exact .inr (by omega)
      · exact .inl e
      · exact .inr (by omega))
  clear HL2 HA2
  go_wp2_with fail
  refine (disk_list HI.out.ok HO2.out.log.disk fW).mono ?_
  rintro e w3 ⟨v3, rfl, hst⟩
  obtain ⟨na, nc, rfl⟩ := hst.row.shape
  have HST := Lib.hid hst
  have HO3 := Lib.hid (HO2.out.ext hst.ext)
  have HNL := Lib.hid (listp_len HI.out.ok fW)
  have HNM := Lib.hid (fun s (hs : s ∈ S.list fW) => listp_nm HI.out hs)
  have HXL : Hid (∀ q ∈ lfoot lg (.slice none 0 0) B ++ afoot ab (.slice none 0 0), q < W.heap.size ∧ (q ∈ B ∨ w.heap.size ≤ q)) := Lib.hid (fun q hq => ⟨by
    rcases List.mem_append.1 hq with e | e
    · exact HO2.out.log.lt q e
    · exact HO2.out.all.ltF q (List.mem_append_left _ e), HO2.out.fr q hq⟩)
  have HB3 := Lib.hid HO3.out.rebase
  have HR0 : Hid (R = openGo (S.list fW) (log0 limit) S []) := Lib.hid HR.out
  generalize S.list fW = NS at *
  clear hst HR HO2
  obtain ⟨X3, hX3⟩ : ∃ X3, X3 = lfoot lg (.slice none 0 0) B ++ afoot ab (.slice none 0 0) := ⟨_, rfl⟩
  rw [← hX3] at HB3 HXL
  have HBACK : Hid (∀ (L' : LogS) (S' : DiskS) (K' : List Bs) (V' Va' : Value) (B' : List Nat) (wj : World), OpB w3 X3 lg d ab L' S' K' V' Va' B' wj → OpB w B lg d ab L' S' K' V' Va' B' wj) := Lib.hid (fun L' S' K' V' Va' B' wj h' => HO3.out.backB (Ext.refl _) (by rw [← hX3]; exact h'))
  have HG3 : Hid (HasET w3) := Lib.hid (HG.out.ext (HX2.out.trans HST.out.ext))
  have HGX : Hid (0 ∉ X3) := Lib.hid (fun e => by
    rcases (HXL.out _ e).2 with e | e
    · exact hgB e
    · have := HG.out.lt; omega)
  have HROW := Lib.hid (HST.out.row.src (strs_one _))
  have HOWN := Lib.hid HST.out.own
  clear hX3 HO3 HX2 HST
  go_wp2_with fail
  go_loopw [37, 12, 13, 14, 4, 5, 6] (fun s37 s12 s13 s14 s4 s5 s6 wr => ∃ (i : Nat) (L' : LogS) (S' : DiskS) (rs' : List (List UInt8)), s37 = .int .i64 (i : Int) ∧ i ≤ NS.length ∧ Hid (OpAt w3 X3 lg d ab L' S' rs' wr ∧ R = openGo (NS.drop i) L' S' rs' ∧ DInv S' (k + 4 * i) ∧ L'.next ≤ 10000000000000 ∧ L'.files.length ≤ i ∧ rs'.length ≤ 1048576 * i)) (fun s37 _ _ _ _ _ _ _ => NS.length - (RowKit.intOf s37).toNat)
  case atStart => exact ⟨0, log0 limit, S, [], by go_num, by omega, Lib.hid ⟨HB3.out.at, HR0.out, HI.out, by simp [log0], by simp [log0], by simp⟩⟩
  case round =>
    clear HB3 HR0
    obtain ⟨i, L', S', rs', rfl, hi, HH⟩ := hrel
    have hn512 := HNL.out
    rcases Nat.lt_or_ge i NS.length with hlt | hge
    · have hsrcN : Src wr 1 (.slice na NS.length nc) NS.length (strs NS) := by
        obtain ⟨_, _, _, _, _, hb⟩ := HH.out.1
        exact HROW.out.chg hb.chg (fun g hg e => by have := HOWN.out g hg; have := (HXL.out g e).1; omega)
      obtain ⟨nb, no, s, rfl, hs, cs⟩ := strs_src hsrcN hlt
      have HS := Lib.hid hs
      have HSZ := Lib.hid (HNM.out s (List.mem_of_getElem? hs))
      have hlti : (i : Int) < (NS.length : Int) := by omega
      obtain ⟨lb, hlb, hlb2⟩ : ∃ lb : Bool, ((i : Int) == (NS.length : Int) - 1) = lb ∧ lb = decide (NS.drop (i + 1) = []) := by
        refine ⟨decide (NS.drop (i + 1) = []), ?_, rfl⟩
        by_cases hN : i + 1 = NS.length
        · have e1 : NS.drop (i + 1) = [] := List.drop_of_length_le (by omega)
          rw [e1]; simp; omega
        · have e1 : NS.drop (i + 1) ≠ [] := fun e => by have := congrArg List.length e; simp at this; omega
          rw [decide_eq_false e1]; simp; omega
      have HLB := Lib.hid hlb2
      have HRR : Hid (R = if (fileW L' S' s lb).e ≠ 0 then ⟨(fileW L' S' s lb).e, (fileW L' S' s lb).L, (fileW L' S' s lb).S, rs' ++ (fileW L' S' s lb).rs⟩ else openGo (NS.drop (i + 1)) (fileW L' S' s lb).L (fileW L' S' s lb).S (rs' ++ (fileW L' S' s lb).rs)) := Lib.hid (by
        have e1 : NS.drop i = s :: NS.drop (i + 1) := by
          rw [List.drop_eq_getElem_cons hlt]
          congr 1
          rw [List.getElem?_eq_getElem hlt] at hs
          exact Option.some.inj hs
        rw [HH.out.2.1, e1, openGo, hlb2])
      have HF := Lib.hid (file_any HH.out.1 (by omega) HH.out.2.2.1 HH.out.2.2.2.1 (by have := HH.out.2.2.2.2.1; omega) (by have := HH.out.2.2.2.2.2; omega) s (by unfold maxLen; have := HSZ.out; omega) lb HG3.out HGX.out)
      have HIV := Lib.hid (fileW_inv (L := L') HH.out.2.2.1 s lb)
      have HBD := Lib.hid (fileW_bd HH.out.2.2.1.ok s lb HH.out.2.2.2.1)
      clear hs hlb2 hsrcN
      generalize fileW L' S' s lb = Q at *
      obtain ⟨qe, qL, qS, qrs⟩ := Q
      simp only at HRR HF HIV HBD
      go_wp2_with fail
      refine HF.out.mono ?_
      rintro e w4 ⟨rfl, hop⟩
      have HOP := Lib.hid hop
      clear hop cs hlb
      by_cases hq : qe = 0
      · subst hq
        have HR2 : Hid (R = openGo (NS.drop (i + 1)) qL qS (rs' ++ qrs)) := Lib.hid (by rw [HRR.out, if_neg (by simp)])
        clear HRR
        go_wp2_with fail
        go_roundw
        case rel => exact ⟨i + 1, qL, qS, rs' ++ qrs, by go_num, by omega, Lib.hid ⟨HOP.out, HR2.out, by rw [show k + 4 * (i + 1) = k + 4 * i + 4 by omega]; exact HIV.out, HBD.out.1, by have := HBD.out.2.1; have := HH.out.2.2.2.2.1; omega, by have := HBD.out.2.2.1; have := HH.out.2.2.2.2.2; rw [List.length_append]; omega⟩⟩
        case measure => simp [RowKit.intOf]; omega
      · have hqi : (qe != 0) = true := by simp [hq]
        have HR2 : Hid (R = ⟨qe, qL, qS, rs' ++ qrs⟩) := Lib.hid (by rw [HRR.out, if_pos hq])
        have HQ := Lib.hid hq
        clear HRR hq
        go_wp2_with fail
        go_ret3
        rw [HR2.out]
        obtain ⟨V', Va', B', K', hk', hb'⟩ := HOP.out
        exact ⟨fun _ => rfl, (HBACK.out _ _ _ _ _ _ _ hb').at.diskTo, fun h0 => absurd h0 HQ.out⟩
    · obtain rfl : i = NS.length := by omega
      have HR2 : Hid (R = ⟨0, L', S', rs'⟩) := Lib.hid (by
        have e1 : NS.drop NS.length = [] := List.drop_of_length_le (Nat.le_refl _)
        rw [HH.out.2.1, e1, openGo])
      obtain ⟨V', Va', B', K', hk', hb'⟩ := HH.out.1
      have HOP := Lib.hid (HBACK.out _ _ _ _ _ _ _ hb')
      obtain ⟨va', vc', rfl⟩ := hb'.all.row.shape
      have a0 := cell_of_block hb'.all.box 0
      simp only [List.getElem?_toArray, List.getElem?_cons_zero] at a0
      have HK := Lib.hid hk'
      clear hb' hk'
      go_wp2_with fail
      go_big_quiet (fail)
      go_wp2_with fail
      go_ret3
      rw [HR2.out]
      exact OpenTo.ok rfl HK.out (HOP.out.ext (Ext.drewN _ _)) rfl
end Go.Proofs.YtfablbhkmddnbaaDoor

/-! The log: Sync, First. -/

namespace Go.Proofs.YtfablbhkmddnbaaDoor
open Go.RowKit Go.Sort Go.Lib

theorem nts_src {w : World} {a : Option Addr} {n c : Nat} {l : List Nat} (h : Src w 1 (.slice a n c) n (nts l)) {k : Nat} (hk : k < n) :
    ∃ b off x, a = some ⟨b, off, none⟩ ∧ l[k]? = some x ∧ w.cell? ⟨b, off + k, none⟩ = some (.int .i64 (x : Int)) := by
  rcases h with ⟨_, h, _⟩ | ⟨ad, c', h, hl, h2, _⟩
  · omega
  · simp at h
    obtain ⟨rfl, rfl⟩ := h
    have hkl : k < l.length := by simp [nts] at hl; omega
    have key : ∀ (k : Nat) (hkl : k < l.length), w.cell? (ad.add k) = some (.int .i64 (l[k] : Int)) := fun k hkl => h2 k _ (by simp [nts, List.getElem?_eq_getElem hkl])
    obtain ⟨b, off, spot⟩ := ad
    have hz := key 0 (by omega)
    have hspot : spot = none := by simpa [Addr.add] using World.cell?_spot hz
    subst hspot
    refine ⟨b, off, l[k], rfl, List.getElem?_eq_getElem hkl, ?_⟩
    rw [← Go.WideShapes.add_plain]; exact key k hkl
theorem lastN_eq {L : LogS} {k x : Nat} (hk : k + 1 = L.files.length) (h : L.files[k]? = some x) : lastN L = x := by
  unfold lastN
  rw [List.getLastD_eq_getLast?, List.getLast?_eq_getElem?, show L.files.length - 1 = k by omega, h]
  rfl
theorem lastN_le {L : LogS} {N : Nat} (h : ∀ f ∈ L.files, f ≤ N) : lastN L ≤ N := by
  unfold lastN
  cases hf : L.files.getLast? with
  | none => rw [List.getLastD_eq_getLast?, hf]; exact Nat.zero_le _
  | some x => rw [List.getLastD_eq_getLast?, hf]; exact h x (List.mem_of_getLast? hf)
theorem nameW_size (n : Nat) : (nameW n).size = 13 := by
  have := nameL_len n
  simpa [nameW, lb, ByteArray.size] using this
theorem LogB.fin {w w3 w5 : World} {lg d : Nat} {V : Value} {L L' : LogS} {S : DiskS} {B F : List Nat} (h : LogB w3 lg d V L S B)
    (hb : w5.heap[lg]? = some (.cells #[.pointer (some ⟨d, 0, none⟩), .int .i64 L'.limit, V, .int .i64 (L'.size : Int), .int .i64 (L'.next : Int), .bool L'.dirty, .bool L'.bad] 53 (0, 0)))
    (hf : L'.files = L.files) (hc : Chg (· = lg) w3 w5) (hlg : lg ∈ F) (hC : Chg (· ∈ F) w w3) (hF : ∀ b ∈ lfoot lg V B, b ∈ F ∨ w.heap.size ≤ b) : LogTo w lg d F L' S w5 :=
  ⟨_, ⟨V, B, h.set hb hf hc, rfl⟩, hC.trans (hc.mono (fun i _ e => by rw [e]; exact hlg)) (fun _ _ e => e), hF⟩
theorem syncW_inv {L : LogS} {S : DiskS} {k : Nat} (h : DInv S k) : DInv (syncW L S).2.2 (k + 1) := by
  unfold syncW
  split
  · exact h.mono (by omega)
  · split
    · exact h.mono (by omega)
    · exact h.sync _

set_option maxHeartbeats 8000000 in
set_option maxRecDepth 100000 in
theorem logsync_any {w : World} {lg d k : Nat} {L : LogS} {S : DiskS} {F : List Nat} (hk : k ≤ 900000) (inv : DInv S k) (h : LogAt w lg d L S F) (hd : L.dirty = true → L.files ≠ []) (hf : ∀ f ∈ L.files, f ≤ 1000000000000000) (hfl : L.files.length ≤ 1000000) :
    Calls Tryd.prog 14 #[.pointer (some ⟨lg, 0, none⟩)] w fun e w' => e = .returned (.int .i64 (syncW L S).1) ∧ LogTo w lg d F (syncW L S).2.1 (syncW L S).2.2 w' := by
  obtain ⟨V, B, hl, rfl⟩ := h
  have HL := Lib.hid hl
  have HI := Lib.hid inv
  obtain ⟨va, vc, rfl⟩ := hl.raw.row.shape
  have c5 := cell_of_block hl.raw.box 5
  have c6 := cell_of_block hl.raw.box 6
  simp only [List.getElem?_toArray] at c5 c6
  obtain ⟨R, hR⟩ : ∃ R, R = syncW L S := ⟨_, rfl⟩
  rw [← hR]
  have HLE := Lib.hid (lastN_le hf)
  clear hl inv hf
  cases hb : L.bad with
  | true =>
    have HR : Hid (R = (16, L, S)) := Lib.hid (by rw [hR]; unfold syncW; rw [if_pos hb])
    rw [hb] at c6
    clear hR
    go_enter Tryd.func14, Tryd.ntmps14
    go_wp2_with fail
    refine (lognone_any HL.out.raw).mono ?_
    rintro e w1 ⟨rfl, rfl⟩
    go_wp2_with fail
    go_ret
    rw [HR.out]
    exact ⟨rfl, LogTo.same ⟨_, B, HL.out, rfl⟩ (Ext.refl _)⟩
  | false =>
    rw [hb] at c6
    cases hdi : L.dirty with
    | false =>
      have HR : Hid (R = (0, L, S)) := Lib.hid (by rw [hR]; unfold syncW; rw [if_neg (by simp [hb]), if_pos hdi])
      rw [hdi] at c5
      clear hR
      go_enter Tryd.func14, Tryd.ntmps14
      go_wp2_with fail
      refine (lognone_any HL.out.raw).mono ?_
      rintro e w1 ⟨rfl, rfl⟩
      go_wp2_with fail
      go_ret
      rw [HR.out]
      exact ⟨rfl, LogTo.same ⟨_, B, HL.out, rfl⟩ (Ext.refl _)⟩
    | true =>
      rw [hdi] at c5
      have HR : Hid (R = ((S.sync (nameW (lastN L))).1, { L with bad := decide ((S.sync (nameW (lastN L))).1 ≠ 0), dirty := decide ((S.sync (nameW (lastN L))).1 ≠ 0) }, (S.sync (nameW (lastN L))).2)) := Lib.hid (by rw [hR]; unfold syncW; rw [if_neg (by simp [hb]), if_neg (by simp [hdi])])
      have hne : L.files ≠ [] := hd hdi
      obtain ⟨j, hj⟩ : ∃ j, j + 1 = L.files.length := ⟨L.files.length - 1, by have : L.files.length ≠ 0 := fun e => hne (List.length_eq_zero_iff.1 e); omega⟩
      obtain ⟨vb, vo, x, rfl, hx, cx⟩ := nts_src (k := j) (HL.out.raw.row.src (nts_one _)) (by omega)
      obtain rfl := lastN_eq hj hx
      have c0 := cell_of_block HL.out.raw.box 0
      have c2 := cell_of_block HL.out.raw.box 2
      simp only [List.getElem?_toArray, List.getElem?_cons_zero] at c0 c2
      clear hR hne hx
      go_enter Tryd.func14, Tryd.ntmps14
      go_wp2_with fail
      refine (lognone_any HL.out.raw).mono ?_
      rintro e w1 ⟨rfl, rfl⟩
      go_upto_region 7 with fail
      have f0 := cell_turned (T := fun _ => false) c0 rfl
      have f2 := cell_turned (T := fun _ => false) c2 rfl
      have fx := cell_turned (T := fun _ => false) cx rfl
      have hw1 : IntKind.i64.wrap ((L.files.length : Int) - 1) = (j : Int) := by rw [IntKind.wrap_i64]; omega
      clear c0 c2 c5 c6 cx
      go_wp2_with fail
      refine wp_region_plan 17 (fun w' => ∃ z : Turned, w' = turned w (fun _ => false) z.d z.f z.os) (.reads [0, 1, 2, 3, 4, 5, 6, 7, 8, 9, 10, 11, 12, 13, 14, 15] (.one 16 (.one 17 (.one 18 .done)))) (by kernel_rfl) (by kernel_rfl) (fun _ _ dd _ _ hh => by cases dd <;> exact hh) ?_ ?_
      · exact turned_of_ext (Ext.drewN w 1)
      refine wpPlan_reads ?_
      simp only [pickOps, List.getElem?_cons_succ, List.getElem?_cons_zero]
      repeat (go_big_quiet_step (fail))
      refine wpQuiet_nil ?_
      clear f0 f2 fx hw1
      refine wpPlan_one ?_
      simp only [pickOps, List.getElem?_cons_succ, List.getElem?_cons_zero]
      go_wp2_with fail
      refine (name_any (w.drewN 1) (lastN L) (by have := HLE.out; omega)).mono ?_
      rintro e w2 ⟨rfl, hx⟩
      have HX := Lib.hid ((Ext.drewN w 1).trans hx)
      clear hx
      go_wp2_with fail
      refine thenX_mk (turned_of_ext HX.out) (wpPlan_one ?_)
      simp only [pickOps, List.getElem?_cons_succ, List.getElem?_cons_zero]
      have H2 := Lib.hid (HL.out.ext HX.out)
      go_wp2_with fail
      refine (disk_sync HI.out.ok (by have := HI.out.ops; omega) H2.out.disk (nameW (lastN L)) (by rw [nameW_size]; decide)).mono ?_
      rintro e w3 ⟨rfl, hto⟩
      generalize S.sync (nameW (lastN L)) = Q at *
      obtain ⟨y, S1⟩ := Q
      simp only at HR hto ⊢
      obtain ⟨B3, h3, hc3, hf3⟩ := H2.out.onDisk hto
      have H3 := Lib.hid h3
      have HC3 : Hid (Chg (· ∈ lfoot lg (.slice (some ⟨vb, vo, none⟩) L.files.length vc) B) w w3) := Lib.hid ((Chg.of_ext HX.out).trans (hc3.mono (fun i _ e => lfoot_disk e)) (fun _ _ e => e))
      have HF3 := Lib.hid (fun b hb => (hf3 b hb).imp id (fun h => Nat.le_trans HX.out.size h))
      clear hto h3 hc3 hf3
      go_wp2_with fail
      refine thenX_last (wpPlan_one ?_)
      simp only [pickOps, List.getElem?_cons_succ, List.getElem?_cons_zero]
      go_wp2_with fail
      refine thenX_last (wpPlan_done ?_)
      have e6 := cell_of_block H3.out.raw.box 6
      have z6 := free_of_block H3.out.raw.box 6
      have HB6 := Lib.hid (setCell_block H3.out.raw.box (i := 6) (.bool (y != 0)))
      have e5 := cell_of_block HB6.out 5
      have z5 := free_of_block HB6.out 5
      simp only [List.getElem?_toArray] at e6 e5
      have HB5 := Lib.hid (setCell_block HB6.out (i := 5) (.bool (y != 0)))
      have hye : (y != 0) = decide (y ≠ 0) := by by_cases h : y = 0 <;> simp [h]
      have HYE := Lib.hid hye
      clear hye
      go_wp2_with fail
      go_ret
      rw [HR.out]
      refine ⟨rfl, H3.out.fin (L' := { L with bad := decide (y ≠ 0), dirty := decide (y ≠ 0) }) ?_ rfl ((setCell_chg w3 lg 6 _).trans (setCell_chg _ lg 5 _) (fun _ _ e => e)) (lfoot_lg _ _ _) HC3.out HF3.out⟩
      have := HB5.out
      simp only
      rw [← HYE.out]
      simpa using this
end Go.Proofs.YtfablbhkmddnbaaDoor

/-! Plain: WalBits. -/

namespace Go.Proofs.YtfablbhkmddnbaaDoor
open Go.RowKit Go.Sort Go.Lib

theorem flip_one {room : Int} {rs : List (List UInt8)} (hne : rs ≠ []) {at' b : Nat} (hat : at' < 8 * (b1 rs).length) : (S1 room rs).flip (nameW 0) (at' : Int) b = (0, ⟨[(nameW 0, ⟨flipL b at' (b1 rs), 0, false⟩)], room, ((b1 rs).length : Nat), -1, (rs.length : Nat)⟩) := by
  have hs : S1 room rs = ⟨[(nameW 0, ⟨b1 rs, 0, false⟩)], room, ((b1 rs).length : Nat), -1, (rs.length : Nat)⟩ := by simp [S1, hne]
  rw [hs]
  unfold DiskS.flip
  rw [show aget ((⟨[(nameW 0, ⟨b1 rs, 0, false⟩)], room, ((b1 rs).length : Nat), -1, (rs.length : Nat)⟩ : DiskS).files) (nameW 0) = some ⟨b1 rs, 0, false⟩ by simp [aget]]
  simp only
  rw [if_neg (by omega)]
  simp [aput]
theorem newDisk_inv' {room : Int} (h0 : 0 ≤ room) (h1 : room ≤ 1073741824) : DInv (newDisk room) 0 := ⟨newDisk_ok h0 h1, Int.le_refl _, by simp [newDisk], by simp [newDisk, sumF]⟩
theorem open_new (room : Int) (limit : Int) : openW (newDisk room) limit = ⟨0, log0 limit, newDisk room, []⟩ := by
  unfold openW
  rw [show (newDisk room).list fW = [] from list_none _ _ _ _]
  rfl
theorem L1_nil (limit : Int) : L1 limit [] = log0 limit := by simp [L1, log0, b1]
theorem S1_nil (room : Int) : S1 room [] = newDisk room := by simp [S1, newDisk, b1]
/-- What is opened where bits of one frame are turned. -/
theorem bits_open {rs : List (List UInt8)} (hr : ∀ r ∈ rs, r.length ≤ 65536) {room u o : Int} {k e at' b : Nat} (hk : (endsL rs 0)[k]? = some e) (hat : at' < 8 * e)
    (h0 : ∀ e', 0 < k → (endsL rs 0)[k - 1]? = some e' → 8 * e' ≤ at') (hb : ∀ i, i < 32 → b.testBit i = true → at' + i < 8 * e) (hb32 : b < 4294967296) (hb0 : b ≠ 0) :
    (openW ⟨[(nameW 0, ⟨flipL b at' (b1 rs), 0, false⟩)], room, u, -1, o⟩ 5).e = 24 := by
  obtain ⟨A, M, C, e1, e2, e3, e4, e5, e6⟩ := ends_frame rs 0 k e hr hk
  have hA : 8 * A.length ≤ at' := by
    rcases Nat.eq_zero_or_pos k with hk0 | hk0
    · rw [e3 hk0]; simp
    · have hkl := (List.getElem?_eq_some_iff.1 hk).1
      have hx := List.getElem?_eq_getElem (l := endsL rs 0) (show k - 1 < (endsL rs 0).length by omega)
      have h1 := e4 _ hk0 hx
      have h2 := h0 _ hk0 hx
      omega
  have hfl : flipL b at' (b1 rs) = A ++ (flipL b (at' - 8 * A.length) M ++ C) := by
    rw [e1]
    exact flipL_mid hA (fun i hi hbi => by have := hb i hi hbi; omega)
  have hlen : (flipL b at' (b1 rs)).length = (b1 rs).length := flipL_len _ _ _
  have hbad := e6 (at' - 8 * A.length) b (flipL b at' (b1 rs)).length 0 (by omega) (by
    obtain ⟨i, hi⟩ := Nat.exists_testBit_of_ne_zero hb0
    have hi32 : i < 32 := by
      rcases Nat.lt_or_ge i 32 with h | h
      · exact h
      · have : b < 2 ^ i := Nat.lt_of_lt_of_le hb32 (Nat.pow_le_pow_right (by omega) h : 2 ^ 32 ≤ 2 ^ i)
        rw [Nat.testBit_lt_two_pow this] at hi
        cases hi
    exact ⟨i, by have := hb i hi32 hi; omega, hi⟩) (by rw [hlen]; exact recs_len rs)
  rw [← hfl] at hbad
  rw [openW_one (list_one _ _ _ _ _ _), bytesOf_one]
  simp only
  have hf : (fileEnd (log0 5) ⟨[(nameW 0, ⟨flipL b at' (b1 rs), 0, false⟩)], room, u, -1, o⟩ (nameW 0) true 0 (flipL b at' (b1 rs)) (eachW (flipL b at' (b1 rs)).length 0 (flipL b at' (b1 rs)))).e = 24 := by
    unfold fileEnd
    rw [hbad]
  rw [if_pos (by rw [hf]; decide)]
  exact hf
theorem bits_same {rs : List (List UInt8)} (hr : ∀ r ∈ rs, r.length ≤ 65536) {room u o : Int} {at' : Nat} :
    (openW ⟨[(nameW 0, ⟨flipL 0 at' (b1 rs), 0, false⟩)], room, u, -1, o⟩ 5).e = 0 ∧ (openW ⟨[(nameW 0, ⟨flipL 0 at' (b1 rs), 0, false⟩)], room, u, -1, o⟩ 5).rs = rs := by
  have hs : flipL 0 at' (b1 rs) = b1 rs := flip_same (by rintro ⟨i, _, h⟩; simp at h)
  rw [hs, openW_one (list_one _ _ _ _ _ _), bytesOf_one]
  simp only
  have he : eachW (b1 rs).length 0 (b1 rs) = (rs, .done) := eachW_whole rs hr
  rw [he]
  simp [fileEnd]
theorem addW_inv {L : LogS} {S : DiskS} {k : Nat} (h : DInv S k) (b : List UInt8) : DInv (addW L S b).2.2 (k + 2) := by
  have hp : ∀ (L : LogS) (S : DiskS) (fr : Bool) (f j : Nat), DInv S j → DInv (putW L S fr f b).2.2 (j + 1) := fun L S fr f j h => by
    unfold putW
    split
    · exact h.append _ _
    · exact h.append _ _
  unfold addW
  split
  · exact h.mono (by omega)
  split
  · exact h.mono (by omega)
  split
  · exact (hp _ _ _ _ _ h).mono (by omega)
  split
  · split
    · exact (syncW_inv h).mono (by omega)
    · exact hp _ _ _ _ _ (syncW_inv h)
  · exact (hp _ _ _ _ _ h).mono (by omega)
theorem b1_small {rs : List (List UInt8)} (h : ∀ r ∈ rs, r.length ≤ 8) : (b1 rs).length ≤ 30 * rs.length := by
  induction rs with
  | nil => simp [b1]
  | cons r rs ih =>
    have h1 := h r List.mem_cons_self
    have h2 := ih (fun x hx => h x (List.mem_cons_of_mem _ hx))
    have : b1 (r :: rs) = recL r ++ b1 rs := rfl
    rw [this, List.length_append, recL_len, List.length_cons]
    omega
theorem L1_bd {limit : Int} {rs : List (List UInt8)} (h : ∀ r ∈ rs, r.length ≤ 8) (hn : rs.length ≤ 60) (hl : 1 ≤ limit ∧ limit ≤ 1048576) : LBd (L1 limit rs) 10000 := by
  have hb := b1_small h
  refine ⟨by show rs.length ≤ 10000; omega, by show (b1 rs).length ≤ 10000; omega, ?_, fun f hf => ?_, hl, fun hd => ?_⟩
  · show (if rs = [] then [] else [0]).length ≤ 10000
    split <;> simp
  · have hf' : f ∈ (if rs = [] then [] else [0]) := hf
    split at hf' <;> simp at hf'
    omega
  · have hd' : rs ≠ [] := by simpa [L1] using hd
    simp [L1, hd']
theorem L1_files {limit : Int} {rs : List (List UInt8)} : (L1 limit rs).files.length ≤ 1 := by
  show (if rs = [] then [] else [0]).length ≤ 1
  split <;> simp
theorem ends_last : ∀ (rs : List (List UInt8)) (n k e : Nat), (endsL rs n)[k]? = some e → k + 1 = 2 * rs.length → e = n + (b1 rs).length
  | [], _, k, _, _, h => by simp at h
  | r :: rs, n, k, e, h, hk => by
    have hl : (b1 (r :: rs)).length = (r.length + 22) + (b1 rs).length := by
      show (recL r ++ b1 rs).length = _
      rw [List.length_append, recL_len]
    rcases k with _ | _ | k
    · simp at hk; omega
    · have h0 : rs = [] := List.length_eq_zero_iff.1 (by simp at hk; omega)
      subst h0
      simp [endsL] at h
      rw [hl]
      simp [b1]; omega
    · have h' : (endsL rs (n + 22 + r.length))[k]? = some e := by simpa [endsL] using h
      have := ends_last rs _ k e h' (by simp at hk; omega)
      rw [hl]; omega
theorem mask_bits {b left i : Nat} (h : (b % 2 ^ left).testBit i = true) : i < left := by
  rw [Nat.testBit_mod_two_pow] at h
  simp at h
  exact h.1
theorem nameW0 : nameW 0 = ⟨#[119, 48, 48, 48, 48, 48, 48, 48, 48, 48, 48, 48, 48]⟩ := by decide
end Go.Proofs.YtfablbhkmddnbaaDoor
