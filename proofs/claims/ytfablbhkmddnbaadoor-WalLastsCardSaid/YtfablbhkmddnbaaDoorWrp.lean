/- Plain: WalTorn: a log's one file that ends anywhere. -/
import Derived.Test.YtfablbhkmddnbaaDoorWtq
import Derived.Test.YtfablbhkmddnbaaDoorDiskC
namespace Go.Proofs.YtfablbhkmddnbaaDoor
open Go.RowKit Go.Sort Go.Lib

/-- A log of one file, and its disk, whatever is kept of it. -/
def L2 (limit : Int) (rs : List (List UInt8)) (dirty : Bool) : LogS := ⟨limit, if rs = [] then [] else [0], (b1 rs).length, rs.length, dirty, false⟩
def S2 (room : Int) (rs : List (List UInt8)) (la : Nat) (sy : Bool) (o : Int) : DiskS := ⟨if rs = [] then [] else [(nameW 0, ⟨b1 rs, la, sy⟩)], room, ((b1 rs).length : Nat), -1, o⟩
theorem L1_L2 (limit : Int) (rs : List (List UInt8)) : L1 limit rs = L2 limit rs (decide (rs ≠ [])) := rfl
theorem S1_S2 (room : Int) (rs : List (List UInt8)) : S1 room rs = S2 room rs 0 false (rs.length : Nat) := rfl
theorem b1_ne {rs : List (List UInt8)} (h : rs ≠ []) : 0 < (b1 rs).length := by
  obtain ⟨r, q, rfl⟩ := List.exists_cons_of_ne_nil h
  show 0 < (recL r ++ b1 q).length
  rw [List.length_append, recL_len]; omega
theorem append_more' {room u k : Int} {n la : Nat} {sy : Bool} {b bl : List UInt8} (h : (bl.length : Int) ≤ room - u) (hb : bl.length + b.length ≤ 1048576) : (⟨[(nameW n, ⟨b, la, sy⟩)], room, u, -1, k⟩ : DiskS).append (nameW n) bl = (0, ⟨[(nameW n, ⟨b ++ bl, la, sy⟩)], room, u + (bl.length : Nat), -1, k + 1⟩) := by
  have hp : (⟨[(nameW n, ⟨b, la, sy⟩)], room, u, -1, k⟩ : DiskS).put (nameW n) bl = (0, ⟨[(nameW n, ⟨b ++ bl, la, sy⟩)], room, u + (bl.length : Nat), -1, k⟩) := by
    unfold DiskS.put
    rw [if_neg (by simp only; omega), show aget ((⟨[(nameW n, ⟨b, la, sy⟩)], room, u, -1, k⟩ : DiskS).files) (nameW n) = some ⟨b, la, sy⟩ by simp [aget]]
    simp only
    rw [if_neg (by omega)]
    simp [aput]
  unfold DiskS.append DiskS.doing
  rw [hp]
  simp [stops_name, DiskS.count]
theorem append_first' {room k : Int} {n : Nat} {bl : List UInt8} (h : (bl.length : Int) ≤ room) (hb : bl.length ≤ 1048576) : (⟨[], room, 0, -1, k⟩ : DiskS).append (nameW n) bl = (0, ⟨[(nameW n, ⟨bl, 0, false⟩)], room, (bl.length : Nat), -1, k + 1⟩) := by
  have hp : (⟨[], room, 0, -1, k⟩ : DiskS).put (nameW n) bl = (0, ⟨[(nameW n, ⟨bl, 0, false⟩)], room, (bl.length : Nat), -1, k⟩) := by
    unfold DiskS.put
    rw [if_neg (by simp only; omega), show aget ((⟨[], room, 0, -1, k⟩ : DiskS).files) (nameW n) = none from rfl]
    simp only
    rw [if_neg (by simp; omega)]
    simp [aput]
  unfold DiskS.append DiskS.doing
  rw [hp]
  simp [stops_name, DiskS.count]
theorem addW_two {limit room o : Int} {rs : List (List UInt8)} {r : List UInt8} {la : Nat} {sy d : Bool} (hl : ((b1 rs).length : Int) < limit) (hr : r.length ≤ 65536) (hroom : (((b1 rs).length + r.length + 22 : Nat) : Int) ≤ room) (hb : (b1 rs).length + r.length + 22 ≤ 1048576) :
    ∃ la' sy', addW (L2 limit rs d) (S2 room rs la sy o) r = (0, L2 limit (rs ++ [r]) true, S2 room (rs ++ [r]) la' sy' (o + 1)) := by
  have hrl := recL_len r
  unfold addW
  rw [if_neg (by simp [L2]), if_neg (by omega)]
  by_cases hrs : rs = []
  · subst hrs
    rw [if_pos (by simp [L2])]
    unfold putW
    have ha : (S2 room [] la sy o).append (nameW (L2 limit [] d).next) (recL r) = (0, ⟨[(nameW 0, ⟨recL r, 0, false⟩)], room, ((recL r).length : Nat), -1, o + 1⟩) := append_first' (n := 0) (by omega) (by omega)
    rw [ha, if_neg (by simp)]
    exact ⟨0, false, by simp [L2, S2, b1]⟩
  · rw [if_neg (by simp [L2, hrs]), if_neg (by show ¬ limit ≤ (((b1 rs).length : Nat) : Int); omega)]
    unfold putW
    have hlast : lastN (L2 limit rs d) = 0 := by simp [lastN, L2, hrs]
    have ha : (S2 room rs la sy o).append (nameW (lastN (L2 limit rs d))) (recL r) = (0, ⟨[(nameW 0, ⟨b1 rs ++ recL r, la, sy⟩)], room, ((b1 rs).length : Nat) + ((recL r).length : Nat), -1, o + 1⟩) := by
      rw [hlast]
      have : S2 room rs la sy o = ⟨[(nameW 0, ⟨b1 rs, la, sy⟩)], room, ((b1 rs).length : Nat), -1, o⟩ := by simp [S2, hrs]
      rw [this]
      exact append_more' (n := 0) (by omega) (by omega)
    rw [ha, if_neg (by simp)]
    exact ⟨la, sy, by simp [L2, S2, hrs, b1_snoc]⟩
theorem sync_one {n la : Nat} {sy : Bool} {b : List UInt8} {room u o : Int} : (⟨[(nameW n, ⟨b, la, sy⟩)], room, u, -1, o⟩ : DiskS).sync (nameW n) = (0, ⟨[(nameW n, ⟨b, b.length, true⟩)], room, u, -1, o + 1⟩) := by
  unfold DiskS.sync DiskS.onFile DiskS.doing DiskS.synced
  simp [stops_name, aget, aput, DiskS.count]
theorem syncW_two {limit room o : Int} {rs : List (List UInt8)} {la : Nat} {sy : Bool} (hne : rs ≠ []) :
    syncW (L2 limit rs true) (S2 room rs la sy o) = (0, L2 limit rs false, S2 room rs (b1 rs).length true (o + 1)) := by
  have hlast : lastN (L2 limit rs true) = 0 := by simp [lastN, L2, hne]
  have hs : (S2 room rs la sy o).sync (nameW 0) = (0, S2 room rs (b1 rs).length true (o + 1)) := by
    have : ∀ la sy o, S2 room rs la sy o = ⟨[(nameW 0, ⟨b1 rs, la, sy⟩)], room, ((b1 rs).length : Nat), -1, o⟩ := by intros; simp [S2, hne]
    rw [this, this]
    exact sync_one
  unfold syncW
  rw [if_neg (by simp [L2]), if_neg (by simp [L2]), hlast, hs]
  simp [L2]
theorem openW_two {limit room o : Int} {rs : List (List UInt8)} {la : Nat} {sy : Bool} (hr : ∀ r ∈ rs, r.length ≤ 65536) :
    openW (S2 room rs la sy o) limit = ⟨0, L2 limit rs false, S2 room rs la sy o, rs⟩ := by
  by_cases hne : rs = []
  · subst hne
    unfold openW
    rw [show (S2 room [] la sy o).list fW = [] from list_none _ _ _ _]
    rfl
  · have hs : S2 room rs la sy o = ⟨[(nameW 0, ⟨b1 rs, la, sy⟩)], room, ((b1 rs).length : Nat), -1, o⟩ := by simp [S2, hne]
    rw [hs, openW_one (list_one _ _ _ _ _ _), bytesOf_one]
    simp only
    have he : eachW (b1 rs).length 0 (b1 rs) = (rs, .done) := eachW_whole rs hr
    rw [he]
    simp [fileEnd, log0, L2, hne]

theorem openW_ok {S : DiskS} {limit : Int} {R : FileR} (h : S.list fW = [nameW 0]) (hR : fileEnd (log0 limit) S (nameW 0) true 0 (bytesOf S (nameW 0)) (eachW (bytesOf S (nameW 0)).length 0 (bytesOf S (nameW 0))) = R) (he : R.e = 0) : openW S limit = ⟨0, R.L, R.S, R.rs⟩ := by
  rw [openW_one h, hR, if_neg (by simp [he])]
theorem fileEnd_torn {L : LogS} {S S' : DiskS} {file : ByteArray} {n at' : Nat} {b : List UInt8} {E : List (List UInt8) × EndW} {rs : List (List UInt8)} (hE : E = (rs, .torn at')) (hm : mendW S file (b.take at') = (0, S')) :
    fileEnd L S file true n b E = if at' = 0 then ⟨0, { L with next := n + rs.length }, S', rs⟩ else ⟨0, { L with files := L.files ++ [n], size := at', next := n + rs.length }, S', rs⟩ := by
  subst hE
  simp only [fileEnd, hm]
  simp

/-! The crash. -/
theorem crash_none (room u o : Int) (keep : List Int) : (⟨[], room, u, -1, o⟩ : DiskS).crash keep = ⟨[], room, 0, -1, 0⟩ := by
  have h : (⟨[], room, u, -1, o⟩ : DiskS).list ⟨#[]⟩ = [] := List.length_eq_zero_iff.1 (by unfold DiskS.list; rw [sortS_length]; rfl)
  unfold DiskS.crash
  rw [h]
  rfl
theorem list_all (n : Nat) (f : FileS) (room u l o : Int) : (⟨[(nameW n, f)], room, u, l, o⟩ : DiskS).list ⟨#[]⟩ = [nameW n] := by
  have hn : (⟨[(nameW n, f)], room, u, l, o⟩ : DiskS).names ⟨#[]⟩ = [nameW n] := by
    unfold DiskS.names
    simp only [List.map_cons, List.map_nil]
    rw [List.filter_cons_of_pos, List.filter_nil]
    simp [Lib.hasPrefix, bl]
  unfold DiskS.list
  rw [hn]
  exact List.perm_singleton.1 (sortS_perm _)
theorem crash_one {room u o : Int} {b : List UInt8} {k : Nat} (hk : k ≤ b.length) : (⟨[(nameW 0, ⟨b, 0, false⟩)], room, u, -1, o⟩ : DiskS).crash [(k : Int)] = ⟨if k = 0 then [] else [(nameW 0, ⟨b.take k, k, true⟩)], room, (k : Int), -1, 0⟩ := by
  have hl := list_all 0 ⟨b, 0, false⟩ room u (-1) o
  have hkn : keepN [(k : Int)] 0 ⟨b, 0, false⟩ = k := by unfold keepN; simp; omega
  unfold DiskS.crash
  rw [hl]
  have hs : crashStep (⟨[(nameW 0, ⟨b, 0, false⟩)], room, u, -1, o⟩ : DiskS) [(k : Int)] 0 = if k = 0 then [] else [(nameW 0, ⟨b.take k, k, true⟩)] := by
    unfold crashStep
    rw [hl]
    simp only [List.getElem?_cons_zero]
    rw [show aget ((⟨[(nameW 0, ⟨b, 0, false⟩)], room, u, -1, o⟩ : DiskS).files) (nameW 0) = some ⟨b, 0, false⟩ by simp [aget]]
    simp only [Option.getD_some]
    unfold keepF
    rw [hkn]
    by_cases h0 : k = 0
    · rw [if_pos h0, if_neg (by simp; omega)]; rfl
    · rw [if_neg h0, if_pos (.inl (by omega))]; rfl
  have ht : crashTo (⟨[(nameW 0, ⟨b, 0, false⟩)], room, u, -1, o⟩ : DiskS) [(k : Int)] 1 = if k = 0 then [] else [(nameW 0, ⟨b.take k, k, true⟩)] := by
    show [] ++ crashStep _ _ 0 = _
    rw [hs]; rfl
  show crashS _ _ 1 = _
  unfold crashS
  rw [ht]
  by_cases h0 : k = 0
  · rw [if_pos h0, h0]; rfl
  · rw [if_neg h0]
    simp [sumF, Nat.min_eq_left hk]

/-! A torn file is mended. -/
theorem mend_one {room u o : Int} {f : FileS} {b : List UInt8} (hb : b ≠ []) (hu : u + (b.length : Nat) ≤ room) (hbl : b.length ≤ 1048576) :
    mendW (⟨[(nameW 0, f)], room, u, -1, o⟩ : DiskS) (nameW 0) b = (0, ⟨[(nameW 0, ⟨b, b.length, true⟩)], room, u + (b.length : Nat) - f.bytes.length, -1, o + 3⟩) := by
  have hX : nameB fX = true := by decide
  have hne : fX ≠ nameW 0 := by decide
  have hne' : nameW 0 ≠ fX := Ne.symm hne
  have hsX : doStops [fX] (-1) = none := by simp [doStops, hX]
  have hs2 : doStops [fX, nameW 0] (-1) = none := by simp [doStops, hX, nameB_name]
  have h0 : mendA (⟨[(nameW 0, f)], room, u, -1, o⟩ : DiskS) = (0, ⟨[(nameW 0, f)], room, u, -1, o⟩) := by
    unfold mendA
    rw [if_neg (by simp [aget, hne, hne'])]
  have h1 : (⟨[(nameW 0, f)], room, u, -1, o⟩ : DiskS).append fX b = (0, ⟨[(nameW 0, f), (fX, ⟨b, 0, false⟩)], room, u + (b.length : Nat), -1, o + 1⟩) := by
    have hp : (⟨[(nameW 0, f)], room, u, -1, o⟩ : DiskS).put fX b = (0, ⟨[(nameW 0, f), (fX, ⟨b, 0, false⟩)], room, u + (b.length : Nat), -1, o⟩) := by
      unfold DiskS.put
      rw [if_neg (by simp only; omega), show aget ((⟨[(nameW 0, f)], room, u, -1, o⟩ : DiskS).files) fX = none by simp [aget, hne, hne']]
      simp only
      rw [if_neg (by simp; omega)]
      simp [aput, hne, hne']
    unfold DiskS.append DiskS.doing
    rw [hp]
    simp [hsX, DiskS.count]
  have h2 : (⟨[(nameW 0, f), (fX, ⟨b, 0, false⟩)], room, u + (b.length : Nat), -1, o + 1⟩ : DiskS).sync fX = (0, ⟨[(nameW 0, f), (fX, ⟨b, b.length, true⟩)], room, u + (b.length : Nat), -1, o + 2⟩) := by
    unfold DiskS.sync DiskS.onFile DiskS.doing DiskS.synced
    simp [hsX, aget, aput, DiskS.count, hne, hne']
    omega
  have h3 : (⟨[(nameW 0, f), (fX, ⟨b, b.length, true⟩)], room, u + (b.length : Nat), -1, o + 2⟩ : DiskS).rename fX (nameW 0) = (0, ⟨[(nameW 0, ⟨b, b.length, true⟩)], room, u + (b.length : Nat) - f.bytes.length, -1, o + 3⟩) := by
    unfold DiskS.rename DiskS.onFile DiskS.doing DiskS.renamed DiskS.drop
    simp [hs2, aget, aput, adel, DiskS.count, hne, hne']
    omega
  unfold mendW
  rw [if_neg hb, h0]
  simp [seqS, h1, h2, h3]
theorem delete_one {room u o : Int} {f : FileS} : (⟨[(nameW 0, f)], room, u, -1, o⟩ : DiskS).delete (nameW 0) = (0, ⟨[], room, u - f.bytes.length, -1, o + 1⟩) := by
  unfold DiskS.delete DiskS.onFile DiskS.doing DiskS.drop
  simp [stops_name, aget, adel, DiskS.count]

/-- What is opened of a file that ends anywhere. -/
theorem open_torn {limit room : Int} {rs : List (List UInt8)} {keep whole : Nat} (hr : ∀ r ∈ rs, r.length ≤ 65536) (hk : keep ≤ (b1 rs).length) (hw : whole ≤ rs.length) (h1 : (b1 (rs.take whole)).length ≤ keep)
    (h2 : whole < rs.length → keep < (b1 (rs.take (whole + 1))).length) (hroom : 2 * ((b1 rs).length : Int) ≤ room) (hb : (b1 rs).length ≤ 1048576) :
    ∃ la sy o, openW ((S1 room rs).crash [(keep : Int)]) limit = ⟨0, L2 limit (rs.take whole) false, S2 room (rs.take whole) la sy o, rs.take whole⟩ := by
  have hrw : ∀ r ∈ rs.take whole, r.length ≤ 65536 := fun r h => hr r (List.mem_of_mem_take h)
  have hc : (S1 room rs).crash [(keep : Int)] = ⟨if keep = 0 then [] else [(nameW 0, ⟨(b1 rs).take keep, keep, true⟩)], room, (keep : Int), -1, 0⟩ := by
    by_cases hne : rs = []
    · subst hne
      have h0 : keep = 0 := by simpa [b1] using hk
      subst h0
      rw [if_pos rfl]
      exact crash_none _ _ _ _
    · have : S1 room rs = ⟨[(nameW 0, ⟨b1 rs, 0, false⟩)], room, ((b1 rs).length : Nat), -1, (rs.length : Nat)⟩ := by simp [S1, hne]
      rw [this]
      exact crash_one hk
  rw [hc]
  by_cases h0 : keep = 0
  · subst h0
    have hw0 : rs.take whole = [] := by
      rcases Classical.em (rs.take whole = []) with h | h
      · exact h
      · have := b1_ne h; omega
    refine ⟨0, false, 0, ?_⟩
    rw [hw0, if_pos rfl]
    exact openW_two (rs := []) (la := 0) (sy := false) (by simp)
  · rw [if_neg h0]
    have hcase : (b1 rs).take keep = b1 (rs.take whole) ∧ keep = (b1 (rs.take whole)).length ∨ ∃ r j, r.length ≤ 65536 ∧ 0 < j ∧ j < r.length + 22 ∧ (b1 rs).take keep = b1 (rs.take whole) ++ (recL r).take j ∧ keep = (b1 (rs.take whole)).length + j := by
      rcases Nat.lt_or_ge whole rs.length with hlt | hge
      · have e1 : rs.take (whole + 1) = rs.take whole ++ [rs[whole]] := by rw [List.take_add_one, List.getElem?_eq_getElem hlt]; rfl
        have e2 : b1 rs = b1 (rs.take whole) ++ (recL rs[whole] ++ b1 (rs.drop (whole + 1))) := by
          rw [← List.append_assoc, ← b1_snoc, ← e1, ← b1_app, List.take_append_drop]
        have h3 := h2 hlt
        rw [e1, b1_snoc, List.length_append, recL_len] at h3
        obtain ⟨j, hj⟩ : ∃ j, keep = (b1 (rs.take whole)).length + j := ⟨keep - (b1 (rs.take whole)).length, by omega⟩
        have e3 : (b1 rs).take keep = b1 (rs.take whole) ++ (recL rs[whole]).take j := by
          rw [e2, hj, List.take_length_add_append, List.take_append_of_le_length (by rw [recL_len]; omega)]
        rcases Nat.eq_zero_or_pos j with hj0 | hj0
        · subst hj0
          exact .inl ⟨by rw [e3]; simp, by omega⟩
        · exact .inr ⟨rs[whole], j, hr _ (List.getElem_mem hlt), hj0, by omega, e3, hj⟩
      · have e1 : rs.take whole = rs := List.take_of_length_le hge
        rw [e1] at h1 ⊢
        have : keep = (b1 rs).length := by omega
        exact .inl ⟨by rw [this, List.take_length], this⟩
    rcases hcase with ⟨e1, e2⟩ | ⟨r, j, hrl, hj0, hj, e1, e2⟩
    · have he : eachW (b1 (rs.take whole)).length 0 (b1 (rs.take whole)) = (rs.take whole, .done) := eachW_whole _ hrw
      have hne : rs.take whole ≠ [] := fun e => by rw [e] at e2; simp [b1] at e2; exact h0 e2
      refine ⟨keep, true, 0, ?_⟩
      have hS : S2 room (rs.take whole) keep true 0 = ⟨[(nameW 0, ⟨b1 (rs.take whole), keep, true⟩)], room, (keep : Int), -1, 0⟩ := by simp [S2, hne, ← e2]
      rw [e1, ← hS]
      exact openW_two hrw
    · have he : eachW (b1 (rs.take whole) ++ (recL r).take j).length 0 (b1 (rs.take whole) ++ (recL r).take j) = (rs.take whole, .torn (b1 (rs.take whole)).length) := eachW_torn _ r j hrw hrl hj0 hj
      have ht : (b1 (rs.take whole) ++ (recL r).take j).take (b1 (rs.take whole)).length = b1 (rs.take whole) := List.take_left' rfl
      have hjl : ((recL r).take j).length = j := by rw [List.length_take, recL_len]; omega
      rw [e1]
      by_cases hne : rs.take whole = []
      · have hm : mendW (⟨[(nameW 0, ⟨b1 (rs.take whole) ++ (recL r).take j, keep, true⟩)], room, (keep : Int), -1, 0⟩ : DiskS) (nameW 0) (b1 (rs.take whole)) = (0, S2 room (rs.take whole) 0 false 1) := by
          rw [hne] at e2 ⊢
          unfold mendW
          rw [if_pos (show b1 [] = [] from rfl), delete_one]
          simp [S2, b1, recL_len] at e2 ⊢
          omega
        refine ⟨0, false, 1, openW_ok (R := ⟨0, { log0 limit with next := 0 + (rs.take whole).length }, S2 room (rs.take whole) 0 false 1, rs.take whole⟩) (list_one _ _ _ _ _ _) ?_ rfl |>.trans ?_⟩
        · rw [bytesOf_one]
          exact fileEnd_torn (by exact he) (by rw [ht]; exact hm) |>.trans (if_pos (by rw [hne]; rfl))
        · rw [hne]; rfl
      · have hpos := b1_ne hne
        have hm : mendW (⟨[(nameW 0, ⟨b1 (rs.take whole) ++ (recL r).take j, keep, true⟩)], room, (keep : Int), -1, 0⟩ : DiskS) (nameW 0) (b1 (rs.take whole)) = (0, S2 room (rs.take whole) (b1 (rs.take whole)).length true 3) := by
          rw [mend_one (fun e => by rw [e] at hpos; simp at hpos) (by omega) (by omega)]
          simp [S2, hne, recL_len]
          omega
        refine ⟨(b1 (rs.take whole)).length, true, 3, openW_ok (R := ⟨0, { log0 limit with files := (log0 limit).files ++ [0], size := (b1 (rs.take whole)).length, next := 0 + (rs.take whole).length }, S2 room (rs.take whole) (b1 (rs.take whole)).length true 3, rs.take whole⟩) (list_one _ _ _ _ _ _) ?_ rfl |>.trans ?_⟩
        · rw [bytesOf_one]
          exact fileEnd_torn (by exact he) (by rw [ht]; exact hm) |>.trans (if_neg (by omega))
        · simp [log0, L2, hne]
/-! The records' ends. -/
def endT (rs : List (List UInt8)) : List Nat := (List.range rs.length).map fun k => (b1 (rs.take (k + 1))).length
theorem endT_len (rs : List (List UInt8)) : (endT rs).length = rs.length := by simp [endT]
theorem endT_snoc (rs : List (List UInt8)) (r : List UInt8) : endT (rs ++ [r]) = endT rs ++ [(b1 (rs ++ [r])).length] := by
  have h1 : (rs ++ [r]).take (rs.length + 1) = rs ++ [r] := List.take_of_length_le (by simp)
  unfold endT
  rw [List.length_append, List.length_singleton, List.range_succ, List.map_append, List.map_singleton, h1]
  congr 1
  refine List.map_congr_left fun k hk => ?_
  have hk' : k < rs.length := by simpa using hk
  rw [List.take_append_of_le_length (by omega)]
theorem endT_get {rs : List (List UInt8)} {k e : Nat} (h : (endT rs)[k]? = some e) : k < rs.length ∧ e = (b1 (rs.take (k + 1))).length := by
  have hl := (List.getElem?_eq_some_iff.1 h).1
  rw [endT_len] at hl
  refine ⟨hl, ?_⟩
  unfold endT at h
  rw [List.getElem?_map, List.getElem?_range hl] at h
  exact (Option.some.inj h).symm
theorem L2_bd {limit : Int} {rs : List (List UInt8)} {d : Bool} (h : ∀ r ∈ rs, r.length ≤ 8) (hn : rs.length ≤ 60) (hl : 1 ≤ limit ∧ limit ≤ 1048576) (hd : d = true → rs ≠ []) : LBd (L2 limit rs d) 10000 := by
  have hb := b1_small h
  refine ⟨by show rs.length ≤ 10000; omega, by show (b1 rs).length ≤ 10000; omega, ?_, fun f hf => ?_, hl, fun hdd => ?_⟩
  · show (if rs = [] then [] else [0]).length ≤ 10000
    split <;> simp
  · have hf' : f ∈ (if rs = [] then [] else [0]) := hf
    split at hf' <;> simp at hf'
    omega
  · simp [L2, hd hdd]
theorem L2_files {limit : Int} {rs : List (List UInt8)} {d : Bool} : (L2 limit rs d).files.length ≤ 1 ∧ ∀ f ∈ (L2 limit rs d).files, f = 0 := by
  refine ⟨?_, fun f hf => ?_⟩
  · show (if rs = [] then [] else [0]).length ≤ 1
    split <;> simp
  · have hf' : f ∈ (if rs = [] then [] else [0]) := hf
    split at hf' <;> simp at hf'
    exact hf'
theorem openGo_inv : ∀ (ss : List ByteArray) (L : LogS) (S : DiskS) (rs : List (List UInt8)) (k : Nat), DInv S k → DInv (openGo ss L S rs).S (k + 4 * ss.length)
  | [], _, _, _, _, h => h.mono (by omega)
  | s :: ss, L, S, rs, k, h => by
    have hf := fileW_inv (L := L) h s (decide (ss = []))
    unfold openGo
    split
    · exact hf.mono (by simp only [List.length_cons]; omega)
    · exact (openGo_inv ss _ _ _ _ hf).mono (by simp only [List.length_cons]; omega)
theorem openW_inv {S : DiskS} {k : Nat} (h : DInv S k) (limit : Int) : DInv (openW S limit).S (k + 2048) := by
  have hl : (S.list fW).length ≤ 512 := by
    have h1 : (S.names fW).length ≤ (S.files.map (·.1)).length := List.length_filter_le _ _
    rw [List.length_map] at h1
    unfold DiskS.list
    rw [sortS_length]
    have := h.ok.few
    omega
  exact (openGo_inv (S.list fW) (log0 limit) S [] k h).mono (by omega)
end Go.Proofs.YtfablbhkmddnbaaDoor
