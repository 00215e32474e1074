/- Plain: WalLasts: records in groups, a file for each group. -/
import Derived.Test.YtfablbhkmddnbaaDoorWds
namespace Go.Proofs.YtfablbhkmddnbaaDoor
open Go.RowKit Go.Sort Go.Lib

theorem names_up {l : List Nat} (h : l.Pairwise (· < ·)) (hl : ∀ x ∈ l, x < 64) : sortS (l.map nameW) = l.map nameW := by
  refine sorted_unique (sortS_perm _) (sortS_sorted _) ?_
  rw [List.pairwise_map]
  refine h.imp_of_mem fun {x y} hx hy hxy => ?_
  exact nameL_le ⟨x, hl x hx⟩ ⟨y, hl y hy⟩ (by show x ≤ y; omega)
theorem list_up {S : DiskS} {l : List Nat} (hF : S.files.map (·.1) = l.map nameW) (h : l.Pairwise (· < ·)) (hl : ∀ x ∈ l, x < 64) (p : ByteArray) (hp : ∀ n, Lib.hasPrefix (bl (nameW n)) (bl p) = true) : S.list p = l.map nameW := by
  have hn : S.names p = l.map nameW := by
    unfold DiskS.names
    rw [hF]
    refine List.filter_eq_self.2 fun x hx => ?_
    obtain ⟨n, _, rfl⟩ := List.mem_map.1 hx
    exact hp n
  unfold DiskS.list
  rw [hn, names_up h hl]
theorem up_nodup {l : List Nat} (h : l.Pairwise (· < ·)) (hl : ∀ x ∈ l, x < 64) : (l.map nameW).Nodup := by
  rw [List.nodup_iff_pairwise_ne, List.pairwise_map]
  refine h.imp_of_mem fun {x y} hx hy hxy e => ?_
  have h1 := hl x hx
  have h2 := hl y hy
  have := nameW_inj (by omega) (by omega) e
  omega
/-! Groups. -/
def startsG : Nat → List (List (List UInt8)) → List Nat
  | _, [] => []
  | a, g :: gs => a :: startsG (a + g.length) gs
def filesP : Nat → List (List (List UInt8)) → List (ByteArray × FileS)
  | _, [] => []
  | a, g :: gs => (nameW a, ⟨b1 g, (b1 g).length, true⟩) :: filesP (a + g.length) gs
theorem startsG_app : ∀ (gs : List (List (List UInt8))) (a : Nat) (q : List (List UInt8)), startsG a (gs ++ [q]) = startsG a gs ++ [a + gs.flatten.length]
  | [], a, q => by simp [startsG]
  | g :: gs, a, q => by
    rw [List.cons_append, startsG, startsG_app gs, startsG, List.flatten_cons, List.length_append, Nat.add_assoc]
    rfl
theorem filesP_app : ∀ (gs : List (List (List UInt8))) (a : Nat) (q : List (List UInt8)), filesP a (gs ++ [q]) = filesP a gs ++ [(nameW (a + gs.flatten.length), ⟨b1 q, (b1 q).length, true⟩)]
  | [], a, q => by simp [filesP]
  | g :: gs, a, q => by
    rw [List.cons_append, filesP, filesP_app gs, filesP, List.flatten_cons, List.length_append, Nat.add_assoc]
    rfl
theorem filesP_names : ∀ (gs : List (List (List UInt8))) (a : Nat), (filesP a gs).map (·.1) = (startsG a gs).map nameW
  | [], _ => rfl
  | g :: gs, a => by rw [filesP, startsG, List.map_cons, List.map_cons, filesP_names gs]
theorem startsG_lt : ∀ (gs : List (List (List UInt8))) (a : Nat), (∀ g ∈ gs, g ≠ []) → ∀ x ∈ startsG a gs, a ≤ x ∧ x < a + gs.flatten.length
  | [], _, _, x, hx => by simp [startsG] at hx
  | g :: gs, a, h, x, hx => by
    have hg : 0 < g.length := List.length_pos_iff.2 (h g List.mem_cons_self)
    rw [List.flatten_cons, List.length_append]
    rw [startsG] at hx
    rcases List.mem_cons.1 hx with rfl | hx
    · omega
    · have := startsG_lt gs (a + g.length) (fun g hg => h g (List.mem_cons_of_mem _ hg)) x hx
      omega
theorem startsG_up : ∀ (gs : List (List (List UInt8))) (a : Nat), (∀ g ∈ gs, g ≠ []) → (startsG a gs).Pairwise (· < ·)
  | [], _, _ => List.Pairwise.nil
  | g :: gs, a, h => by
    have hg : 0 < g.length := List.length_pos_iff.2 (h g List.mem_cons_self)
    rw [startsG]
    refine List.Pairwise.cons (fun x hx => ?_) (startsG_up gs _ (fun g hg => h g (List.mem_cons_of_mem _ hg)))
    have := startsG_lt gs (a + g.length) (fun g hg => h g (List.mem_cons_of_mem _ hg)) x hx
    omega
theorem startsG_len : ∀ (gs : List (List (List UInt8))) (a : Nat), (startsG a gs).length = gs.length
  | [], _ => rfl
  | g :: gs, a => by rw [startsG, List.length_cons, startsG_len gs, List.length_cons]
theorem groups_le : ∀ (gs : List (List (List UInt8))), (∀ g ∈ gs, g ≠ []) → gs.length ≤ gs.flatten.length
  | [], _ => by simp
  | g :: gs, h => by
    have hg : 0 < g.length := List.length_pos_iff.2 (h g List.mem_cons_self)
    have := groups_le gs (fun g hg => h g (List.mem_cons_of_mem _ hg))
    rw [List.flatten_cons, List.length_append, List.length_cons]
    omega
theorem sumF_P : ∀ (gs : List (List (List UInt8))) (a : Nat), sumF (filesP a gs) = (b1 gs.flatten).length
  | [], _ => by simp [filesP, sumF, b1]
  | g :: gs, a => by
    rw [filesP, sumF_one, sumF_P gs, List.flatten_cons, b1_app, List.length_append]
theorem filesP_none {gs : List (List (List UInt8))} {a n : Nat} (hne : ∀ g ∈ gs, g ≠ []) (hn : a + gs.flatten.length ≤ n) (hb : n < 1000) : aget (filesP a gs) (nameW n) = none := by
  refine aget_none_iff.2 fun hm => ?_
  rw [filesP_names] at hm
  obtain ⟨x, hx, e⟩ := List.mem_map.1 hm
  have h1 := startsG_lt gs a hne x hx
  have := nameW_inj (by omega) hb e
  omega
theorem flat_snoc (gs : List (List (List UInt8))) (q : List (List UInt8)) : (gs ++ [q]).flatten.length = gs.flatten.length + q.length := by
  rw [List.flatten_append, List.length_append, List.flatten_cons, List.flatten_nil, List.append_nil]
/-- The log of groups. -/
def LG (gs : List (List (List UInt8))) (d : Bool) : LogS := ⟨60, startsG 0 gs, (gs.getLast?.map fun g => (b1 g).length).getD 0, gs.flatten.length, d, false⟩
theorem LG_nil : LG [] false = log0 60 := rfl
theorem LG_snoc (gs : List (List (List UInt8))) (q : List (List UInt8)) (d : Bool) : LG (gs ++ [q]) d = ⟨60, startsG 0 gs ++ [gs.flatten.length], (b1 q).length, gs.flatten.length + q.length, d, false⟩ := by
  unfold LG
  rw [startsG_app, List.getLast?_concat, List.flatten_append]
  simp
theorem LG_last (gs : List (List (List UInt8))) (q : List (List UInt8)) (d : Bool) : lastN (LG (gs ++ [q]) d) = gs.flatten.length := by
  rw [LG_snoc]
  simp [lastN]

/-! What may stand on the disk. -/
structure LastA (gs : List (List (List UInt8))) (q : List (List UInt8)) (s : Nat) (sy : Bool) (rs : List (List UInt8)) (sn : Nat) (F : List (ByteArray × FileS)) : Prop where
  ne : q ≠ []
  nes : ∀ g ∈ gs, g ≠ []
  recs : rs = gs.flatten ++ q
  files : F = filesP 0 gs ++ [(nameW gs.flatten.length, ⟨b1 q, (b1 (q.take s)).length, sy⟩)]
  les : s ≤ q.length
  sync : sy = true → 0 < s
  least : sn ≤ gs.flatten.length + s
def FilesA (rs : List (List UInt8)) (sn : Nat) (F : List (ByteArray × FileS)) : Prop := (rs = [] ∧ sn = 0 ∧ F = []) ∨ ∃ gs q s sy, LastA gs q s sy rs sn F
def LogA (rs : List (List UInt8)) (sn : Nat) (L : LogS) (F : List (ByteArray × FileS)) : Prop := (rs = [] ∧ sn = 0 ∧ F = [] ∧ L = log0 60) ∨ ∃ gs q s sy d, LastA gs q s sy rs sn F ∧ L = LG (gs ++ [q]) d ∧ (d = false → s = q.length ∧ sy = true)
theorem LogA.weak {rs : List (List UInt8)} {sn : Nat} {L : LogS} {F : List (ByteArray × FileS)} (h : LogA rs sn L F) : FilesA rs sn F := by
  rcases h with ⟨h1, h2, h3, _⟩ | ⟨gs, q, s, sy, d, h, _⟩
  · exact .inl ⟨h1, h2, h3⟩
  · exact .inr ⟨gs, q, s, sy, h⟩
theorem FilesA.le {rs : List (List UInt8)} {sn : Nat} {F : List (ByteArray × FileS)} (h : FilesA rs sn F) : sn ≤ rs.length := by
  rcases h with ⟨rfl, rfl, _⟩ | ⟨gs, q, s, sy, h⟩
  · simp
  · have h1 := h.least
    have h2 := h.les
    rw [h.recs, List.length_append]
    omega
theorem append_cases (S : DiskS) (n : ByteArray) (b : List UInt8) : ((S.append n b).1 ≠ 0 ∧ (S.append n b).2 = S) ∨ ((S.append n b).1 = 0 ∧ (S.append n b).2.room = S.room ∧ (S.append n b).2.files = aput S.files n (match aget S.files n with | none => ⟨b, 0, false⟩ | some f => ⟨f.bytes ++ b, f.lasts, f.synced⟩)) := by
  unfold DiskS.append DiskS.doing
  cases hd : doStops [n] S.left with
  | some x =>
    refine .inl ⟨?_, rfl⟩
    unfold doStops at hd
    split at hd
    · cases hd; exact (by decide : (2 : Int) ≠ 0)
    · split at hd
      · cases hd; exact (by decide : (17 : Int) ≠ 0)
      · cases hd
  | none =>
    simp only
    unfold DiskS.put
    split
    · exact .inl ⟨by simp, by simp⟩
    · cases hg : aget S.files n with
      | none =>
        simp only
        split
        · exact .inl ⟨by simp, by simp⟩
        · exact .inr ⟨by simp, rfl, rfl⟩
      | some f =>
        simp only
        split
        · exact .inl ⟨by simp, by simp⟩
        · exact .inr ⟨by simp, rfl, rfl⟩
theorem sync_cases (S : DiskS) (n : ByteArray) : ((S.sync n).1 ≠ 0 ∧ (S.sync n).2 = S) ∨ ((S.sync n).1 = 0 ∧ (S.sync n).2.room = S.room ∧ ∃ f, aget S.files n = some f ∧ (S.sync n).2.files = aput S.files n ⟨f.bytes, f.bytes.length, true⟩) := by
  unfold DiskS.sync DiskS.onFile DiskS.doing
  cases hd : doStops [n] S.left with
  | some x =>
    refine .inl ⟨?_, rfl⟩
    unfold doStops at hd
    split at hd
    · cases hd; exact (by decide : (2 : Int) ≠ 0)
    · split at hd
      · cases hd; exact (by decide : (17 : Int) ≠ 0)
      · cases hd
  | none =>
    cases hg : aget S.files n with
    | none => exact .inl ⟨by simp, by simp⟩
    | some f =>
      refine .inr ⟨by simp, ?_, f, rfl, ?_⟩
      · simp [DiskS.synced, hg, DiskS.count]
      · simp [DiskS.synced, hg, DiskS.count]
theorem LastA.get {gs : List (List (List UInt8))} {q : List (List UInt8)} {s : Nat} {sy : Bool} {rs : List (List UInt8)} {sn : Nat} {F : List (ByteArray × FileS)} (h : LastA gs q s sy rs sn F) (hl : rs.length < 1000) :
    aget F (nameW gs.flatten.length) = some ⟨b1 q, (b1 (q.take s)).length, sy⟩ ∧ ∀ f, aput F (nameW gs.flatten.length) f = filesP 0 gs ++ [(nameW gs.flatten.length, f)] := by
  have hlen : gs.flatten.length < 1000 := by have := congrArg List.length h.recs; rw [List.length_append] at this; omega
  have hn := filesP_none (a := 0) h.nes (by omega : 0 + gs.flatten.length ≤ gs.flatten.length) hlen
  rw [h.files]
  exact ⟨aget_last hn, fun f => aput_last hn⟩
/-- Sync. -/
theorem sync_step {rs : List (List UInt8)} {sn : Nat} {L : LogS} {S : DiskS} (h : LogA rs sn L S.files) (hl : rs.length < 1000) :
    ((syncW L S).1 = 0 ∧ LogA rs rs.length (syncW L S).2.1 (syncW L S).2.2.files ∧ (syncW L S).2.2.room = S.room ∧ (syncW L S).2.1.dirty = false ∧ (rs = [] ∨ ∃ gs q d, LastA gs q q.length true rs rs.length (syncW L S).2.2.files ∧ L = LG (gs ++ [q]) d ∧ (syncW L S).2.1 = LG (gs ++ [q]) false)) ∨
    ((syncW L S).1 ≠ 0 ∧ FilesA rs sn (syncW L S).2.2.files ∧ (syncW L S).2.2.room = S.room) := by
  rcases h with ⟨rfl, rfl, hF, rfl⟩ | ⟨gs, q, s, sy, d, h, rfl, hd⟩
  · have : syncW (log0 60) S = (0, log0 60, S) := by simp [syncW, log0]
    rw [this]
    exact .inl ⟨rfl, .inl ⟨rfl, rfl, hF, rfl⟩, rfl, rfl, .inl rfl⟩
  · cases d with
    | false =>
      obtain ⟨rfl, rfl⟩ := hd rfl
      have : syncW (LG (gs ++ [q]) false) S = (0, LG (gs ++ [q]) false, S) := by simp [syncW, LG_snoc]
      rw [this]
      have h' : LastA gs q q.length true rs rs.length S.files := ⟨h.ne, h.nes, h.recs, h.files, h.les, h.sync, by rw [h.recs, List.length_append]; exact Nat.le_refl _⟩
      exact .inl ⟨rfl, .inr ⟨gs, q, q.length, true, false, h', rfl, fun _ => ⟨rfl, rfl⟩⟩, rfl, by rw [LG_snoc], .inr ⟨gs, q, false, h', rfl, rfl⟩⟩
    | true =>
      obtain ⟨h1, h2⟩ := h.get hl
      have hs : syncW (LG (gs ++ [q]) true) S = ((S.sync (nameW gs.flatten.length)).1, { LG (gs ++ [q]) true with bad := decide ((S.sync (nameW gs.flatten.length)).1 ≠ 0), dirty := decide ((S.sync (nameW gs.flatten.length)).1 ≠ 0) }, (S.sync (nameW gs.flatten.length)).2) := by
        unfold syncW
        rw [if_neg (by rw [LG_snoc]; simp), if_neg (by rw [LG_snoc]; simp), LG_last]
      rw [hs]
      rcases sync_cases S (nameW gs.flatten.length) with ⟨e1, e2⟩ | ⟨e1, e2, f, e3, e4⟩
      · exact .inr ⟨e1, by simp only [e2]; exact .inr ⟨gs, q, s, sy, h⟩, by simp only [e2]⟩
      · rw [h1] at e3
        obtain rfl := Option.some.inj e3
        rw [h2] at e4
        have h' : LastA gs q q.length true rs rs.length (S.sync (nameW gs.flatten.length)).2.files := ⟨h.ne, h.nes, h.recs, by rw [e4, List.take_length], Nat.le_refl _, fun _ => List.length_pos_iff.2 h.ne, by rw [h.recs, List.length_append]; exact Nat.le_refl _⟩
        have hL : ({ LG (gs ++ [q]) true with bad := decide ((S.sync (nameW gs.flatten.length)).1 ≠ 0), dirty := decide ((S.sync (nameW gs.flatten.length)).1 ≠ 0) } : LogS) = LG (gs ++ [q]) false := by rw [e1, LG_snoc, LG_snoc]; rfl
        simp only [hL]
        exact .inl ⟨e1, .inr ⟨gs, q, q.length, true, false, h', rfl, fun _ => ⟨rfl, rfl⟩⟩, e2, by rw [e1]; rfl, .inr ⟨gs, q, true, h', rfl, rfl⟩⟩
theorem putW_cases (L : LogS) (S : DiskS) (fr : Bool) (f : Nat) (b : List UInt8) : ((putW L S fr f b).1 ≠ 0 ∧ (putW L S fr f b).2.2 = S) ∨
    ((putW L S fr f b).1 = 0 ∧ (putW L S fr f b).2.1 = { L with files := if fr = true then L.files ++ [f] else L.files, size := (if fr = true then 0 else L.size) + (recL b).length, dirty := true, next := L.next + 1 } ∧ (putW L S fr f b).2.2.room = S.room ∧
      (putW L S fr f b).2.2.files = aput S.files (nameW f) (match aget S.files (nameW f) with | none => ⟨recL b, 0, false⟩ | some x => ⟨x.bytes ++ recL b, x.lasts, x.synced⟩)) := by
  have h := append_cases S (nameW f) (recL b)
  unfold putW
  generalize S.append (nameW f) (recL b) = R at h ⊢
  rcases h with ⟨e1, e2⟩ | ⟨e1, e2, e3⟩
  · rw [if_pos e1]
    exact .inl ⟨e1, e2⟩
  · rw [if_neg (fun h => h e1)]
    exact .inr ⟨rfl, rfl, e2, e3⟩
/-- Add. -/
theorem add_step {rs : List (List UInt8)} {sn : Nat} {L : LogS} {S : DiskS} {r : List UInt8} (h : LogA rs sn L S.files) (hl : rs.length < 900) (hr : r.length ≤ 65536) :
    ((addW L S r).1 = 0 ∧ LogA (rs ++ [r]) sn (addW L S r).2.1 (addW L S r).2.2.files ∧ (addW L S r).2.2.room = S.room) ∨
    ((addW L S r).1 ≠ 0 ∧ FilesA rs sn (addW L S r).2.2.files ∧ (addW L S r).2.2.room = S.room) := by
  have hw := h.weak
  rcases id h with ⟨rfl, rfl, hF, rfl⟩ | ⟨gs, q, s, sy, d, hq, rfl, hd⟩
  · have : addW (log0 60) S r = putW (log0 60) S true 0 r := by
      unfold addW
      rw [if_neg (by simp [log0]), if_neg (by omega), if_pos (show (log0 60).files = [] from rfl)]
      rfl
    rw [this]
    rcases putW_cases (log0 60) S true 0 r with ⟨e1, e2⟩ | ⟨e1, e2, e3, e4⟩
    · exact .inr ⟨e1, by rw [e2]; exact hw, by rw [e2]⟩
    · refine .inl ⟨e1, .inr ⟨[], [r], 0, false, true, ⟨by simp, by simp, by simp, ?_, by simp, by simp, by simp⟩, ?_, by simp⟩, e3⟩
      · rw [e4, hF]; simp [filesP, aput, aget, b1]
      · rw [e2]; simp [LG, log0, startsG, b1]
  · have hbad : ¬ (LG (gs ++ [q]) d).bad = true := by rw [LG_snoc]; simp
    have hfs : ¬ (LG (gs ++ [q]) d).files = [] := by rw [LG_snoc]; simp
    have hrl : rs.length = gs.flatten.length + q.length := by rw [hq.recs, List.length_append]
    by_cases hsz : (LG (gs ++ [q]) d).limit ≤ ((LG (gs ++ [q]) d).size : Int)
    · have : addW (LG (gs ++ [q]) d) S r = if (syncW (LG (gs ++ [q]) d) S).1 ≠ 0 then syncW (LG (gs ++ [q]) d) S else putW (syncW (LG (gs ++ [q]) d) S).2.1 (syncW (LG (gs ++ [q]) d) S).2.2 true (LG (gs ++ [q]) d).next r := by
        unfold addW
        rw [if_neg hbad, if_neg (by omega), if_neg hfs, if_pos hsz]
      rw [this]
      rcases sync_step h (by omega) with ⟨e1, -, e2, -, hrs | ⟨gs', q', d', hq', hL, hL'⟩⟩ | ⟨e1, e2, e3⟩
      · exact absurd (List.append_eq_nil_iff.1 (hq.recs.symm.trans hrs)).2 hq.ne
      · rw [if_neg (by simp [e1])]
        have hgl : gs'.flatten.length + q'.length = rs.length := by rw [hq'.recs, List.length_append]
        have hnext : (LG (gs ++ [q]) d).next = (gs' ++ [q']).flatten.length := by rw [hL, LG_snoc, flat_snoc]
        have hfp : (syncW (LG (gs ++ [q]) d) S).2.2.files = filesP 0 (gs' ++ [q']) := by rw [hq'.files, filesP_app, Nat.zero_add, List.take_length]
        have hnes : ∀ g ∈ gs' ++ [q'], g ≠ [] := fun g hg => by
          rcases List.mem_append.1 hg with hg | hg
          · exact hq'.nes g hg
          · simp at hg; rw [hg]; exact hq'.ne
        rw [hL', hnext]
        rcases putW_cases (LG (gs' ++ [q']) false) (syncW (LG (gs ++ [q]) d) S).2.2 true (gs' ++ [q']).flatten.length r with ⟨p1, p2⟩ | ⟨p1, p2, p3, p4⟩
        · refine .inr ⟨p1, ?_, by rw [p2]; exact e2⟩
          rw [p2]
          exact .inr ⟨gs', q', q'.length, true, hq'.ne, hq'.nes, hq'.recs, hq'.files, hq'.les, hq'.sync, Nat.le_trans hw.le hq'.least⟩
        · refine .inl ⟨p1, .inr ⟨gs' ++ [q'], [r], 0, false, true, ⟨by simp, hnes, by rw [hq'.recs]; simp, ?_, by simp, by simp, ?_⟩, ?_, by simp⟩, by rw [p3]; exact e2⟩
          · have hn : aget (filesP 0 (gs' ++ [q'])) (nameW (gs' ++ [q']).flatten.length) = none := filesP_none hnes (by omega) (by rw [flat_snoc]; omega)
            rw [p4, hfp, hn, aput_new _ hn]
            simp [b1]
          · rw [flat_snoc]
            have := hw.le
            omega
          · rw [p2, LG_snoc (gs' ++ [q'])]
            simp [LG, b1]
      · rw [if_pos e1]
        exact .inr ⟨e1, e2, e3⟩
    · have : addW (LG (gs ++ [q]) d) S r = putW (LG (gs ++ [q]) d) S false gs.flatten.length r := by
        unfold addW
        rw [if_neg hbad, if_neg (by omega), if_neg hfs, if_neg hsz, LG_last]
      rw [this]
      obtain ⟨h1, h2⟩ := hq.get (by omega)
      rcases putW_cases (LG (gs ++ [q]) d) S false gs.flatten.length r with ⟨p1, p2⟩ | ⟨p1, p2, p3, p4⟩
      · exact .inr ⟨p1, by rw [p2]; exact hw, by rw [p2]⟩
      · refine .inl ⟨p1, .inr ⟨gs, q ++ [r], s, sy, true, ⟨by simp, hq.nes, by rw [hq.recs]; simp, ?_, by have := hq.les; simp; omega, hq.sync, hq.least⟩, ?_, by simp⟩, p3⟩
        · rw [p4, h1, h2, b1_snoc, List.take_append_of_le_length hq.les]
        · rw [p2, LG_snoc, LG_snoc]
          simp [b1_snoc]
          omega
end Go.Proofs.YtfablbhkmddnbaaDoor

/-! Plain: WalLasts: what is found behind a crash, and what is opened of it. -/

namespace Go.Proofs.YtfablbhkmddnbaaDoor
open Go.RowKit Go.Sort Go.Lib

theorem crashTo_up {S : DiskS} {keep : List Int} {l : List Nat} (hF : S.files.map (·.1) = l.map nameW) (h : l.Pairwise (· < ·)) (hl : ∀ x ∈ l, x < 64) :
    ∀ k, k ≤ S.files.length → crashTo S keep k = ((S.files.take k).zipIdx).flatMap fun x => found x.1.1 (keepF keep x.2 x.1.2)
  | 0, _ => by simp [crashTo]
  | k + 1, hk => by
    have hlt : k < S.files.length := by omega
    have hli : (S.list ⟨#[]⟩)[k]? = some S.files[k].1 := by
      rw [list_up hF h hl _ (fun n => by simp [bl, Lib.hasPrefix]), ← hF, List.getElem?_map, List.getElem?_eq_getElem hlt]; rfl
    have hnd : (S.files.map (·.1)).Nodup := by rw [hF]; exact up_nodup h hl
    have hg : aget S.files S.files[k].1 = some S.files[k].2 := aget_of_mem hnd (show (S.files[k].1, S.files[k].2) ∈ S.files from List.getElem_mem hlt)
    rw [crashTo, crashTo_up hF h hl k (by omega), List.take_add_one, List.getElem?_eq_getElem hlt, List.zipIdx_append, List.flatMap_append]
    congr 1
    unfold crashStep
    rw [hli]
    simp only
    rw [hg]
    simp [List.length_take, Nat.min_eq_left (Nat.le_of_lt hlt)]
theorem crash_up {S : DiskS} {keep : List Int} {l : List Nat} (hF : S.files.map (·.1) = l.map nameW) (h : l.Pairwise (· < ·)) (hl : ∀ x ∈ l, x < 64) :
    (S.crash keep).files = S.files.zipIdx.flatMap (fun x => found x.1.1 (keepF keep x.2 x.1.2)) ∧ (S.crash keep).left = -1 ∧ (S.crash keep).room = S.room := by
  have hlen : (S.list ⟨#[]⟩).length = S.files.length := by
    rw [list_up hF h hl _ (fun n => by simp [bl, Lib.hasPrefix]), ← hF, List.length_map]
  refine ⟨?_, rfl, rfl⟩
  show crashTo S keep (S.list ⟨#[]⟩).length = _
  rw [hlen, crashTo_up hF h hl _ (Nat.le_refl _), List.take_length]
theorem keep_full (keep : List Int) (j : Nat) (b : List UInt8) : keepF keep j ⟨b, b.length, true⟩ = some ⟨b, b.length, true⟩ := by
  have : keepN keep j ⟨b, b.length, true⟩ = b.length := by unfold keepN; simp only; omega
  unfold keepF
  rw [this, if_pos (.inr rfl), List.take_length]
theorem kept_P (keep : List Int) : ∀ (gs : List (List (List UInt8))) (a j : Nat), ((filesP a gs).zipIdx j).flatMap (fun x => found x.1.1 (keepF keep x.2 x.1.2)) = filesP a gs
  | [], _, _ => rfl
  | g :: gs, a, j => by
    rw [filesP, List.zipIdx_cons, List.flatMap_cons, kept_P keep gs]
    simp only
    rw [keep_full]
    rfl
/-- What is found behind the crash. -/
def CrashA (rs : List (List UInt8)) (sn : Nat) (F : List (ByteArray × FileS)) : Prop := (∃ gs, (∀ g ∈ gs, g ≠ []) ∧ F = filesP 0 gs ∧ gs.flatten <+: rs ∧ sn ≤ gs.flatten.length) ∨
  ∃ gs q k s, (∀ g ∈ gs, g ≠ []) ∧ rs = gs.flatten ++ q ∧ F = filesP 0 gs ++ [(nameW gs.flatten.length, ⟨(b1 q).take k, k, true⟩)] ∧ 0 < k ∧ k ≤ (b1 q).length ∧ (b1 (q.take s)).length ≤ k ∧ s ≤ q.length ∧ sn ≤ gs.flatten.length + s
theorem b1_take_le (q : List (List UInt8)) (s : Nat) : (b1 (q.take s)).length ≤ (b1 q).length := by
  have h1 := congrArg List.length (congrArg b1 (List.take_append_drop s q))
  rw [b1_app, List.length_append] at h1
  omega
theorem crash_A {S : DiskS} {rs : List (List UInt8)} {sn : Nat} (h : FilesA rs sn S.files) (hl : rs.length < 64) (keep : List Int) : CrashA rs sn (S.crash keep).files ∧ (S.crash keep).left = -1 ∧ (S.crash keep).room = S.room := by
  rcases h with ⟨rfl, rfl, hF⟩ | ⟨gs, q, s, sy, h⟩
  · obtain ⟨h1, h2, h3⟩ := crash_up (S := S) (keep := keep) (l := []) (by rw [hF]; rfl) List.Pairwise.nil (by simp)
    refine ⟨.inl ⟨[], by simp, ?_, by simp, by simp⟩, h2, h3⟩
    rw [h1, hF]; rfl
  · have hrl : rs.length = gs.flatten.length + q.length := by rw [h.recs, List.length_append]
    have hq := List.length_pos_iff.2 h.ne
    have hnes : ∀ g ∈ gs ++ [q], g ≠ [] := fun g hg => by
      rcases List.mem_append.1 hg with hg | hg
      · exact h.nes g hg
      · simp at hg; rw [hg]; exact h.ne
    have hup := startsG_up (gs ++ [q]) 0 hnes
    have hlt : ∀ x ∈ startsG 0 (gs ++ [q]), x < 64 := fun x hx => by
      have := startsG_lt (gs ++ [q]) 0 hnes x hx
      rw [flat_snoc] at this
      omega
    obtain ⟨h1, h2, h3⟩ := crash_up (S := S) (keep := keep) (l := startsG 0 (gs ++ [q])) (by rw [h.files, startsG_app, List.map_append, List.map_append, filesP_names, Nat.zero_add]; rfl) hup hlt
    refine ⟨?_, h2, h3⟩
    rw [h.files, List.zipIdx_append, List.flatMap_append, kept_P, List.zipIdx_cons, List.zipIdx_nil, List.flatMap_cons, List.flatMap_nil, List.append_nil] at h1
    simp only at h1
    obtain ⟨j, hj⟩ : ∃ j, j = 0 + (filesP 0 gs).length := ⟨_, rfl⟩
    rw [← hj] at h1
    have hle := b1_take_le q s
    have k1 : (b1 (q.take s)).length ≤ keepN keep j ⟨b1 q, (b1 (q.take s)).length, sy⟩ := by unfold keepN; simp only; omega
    have k2 : keepN keep j ⟨b1 q, (b1 (q.take s)).length, sy⟩ ≤ (b1 q).length := keepN_le keep j (f := ⟨b1 q, (b1 (q.take s)).length, sy⟩) hle
    have hpos : 0 < s → 0 < keepN keep j ⟨b1 q, (b1 (q.take s)).length, sy⟩ := fun h0 => by
      have : q.take s ≠ [] := fun e => by
        have := congrArg List.length e
        rw [List.length_take, List.length_nil] at this
        have := h.les
        omega
      have := b1_ne this
      omega
    have hsy : 0 < keepN keep j ⟨b1 q, (b1 (q.take s)).length, sy⟩ ∨ sy = true → 0 < keepN keep j ⟨b1 q, (b1 (q.take s)).length, sy⟩ := fun e => by
      rcases e with e | e
      · exact e
      · exact hpos (h.sync e)
    unfold keepF at h1
    by_cases hk : 0 < keepN keep j ⟨b1 q, (b1 (q.take s)).length, sy⟩ ∨ sy = true
    · rw [if_pos hk] at h1
      exact .inr ⟨gs, q, _, s, h.nes, h.recs, h1, hsy hk, k2, k1, h.les, h.least⟩
    · rw [if_neg hk] at h1
      refine .inl ⟨gs, h.nes, by rw [h1]; simp [found], by rw [h.recs]; exact List.prefix_append _ _, ?_⟩
      have h4 := h.least
      rcases Nat.eq_zero_or_pos s with h0 | h0
      · omega
      · exact absurd (.inl (hpos h0)) hk
/-! What is opened. -/
theorem cut_recs : ∀ (q : List (List UInt8)) (k : Nat), k ≤ (b1 q).length → ∃ w, w ≤ q.length ∧ (∀ s, s ≤ q.length → (b1 (q.take s)).length ≤ k → s ≤ w) ∧
    ((b1 q).take k = b1 (q.take w) ∧ k = (b1 (q.take w)).length ∨ ∃ r j, r ∈ q ∧ 0 < j ∧ j < r.length + 22 ∧ (b1 q).take k = b1 (q.take w) ++ (recL r).take j ∧ k = (b1 (q.take w)).length + j)
  | [], k, hk => by
    have h0 : k = 0 := by simpa [b1] using hk
    subst h0
    exact ⟨0, by simp, by simp, .inl ⟨by simp [b1], by simp [b1]⟩⟩
  | r :: q, k, hk => by
    have hb : b1 (r :: q) = recL r ++ b1 q := rfl
    have hrl := recL_len r
    rw [hb, List.length_append] at hk
    rcases Nat.lt_or_ge k (r.length + 22) with hlt | hge
    · refine ⟨0, by simp, fun s hs h => ?_, ?_⟩
      · rcases Nat.eq_zero_or_pos s with h0 | h0
        · omega
        · obtain ⟨s', rfl⟩ : ∃ s', s = s' + 1 := ⟨s - 1, by omega⟩
          rw [List.take_succ_cons, show b1 (r :: q.take s') = recL r ++ b1 (q.take s') from rfl, List.length_append] at h
          omega
      · rw [hb, List.take_append_of_le_length (by omega)]
        rcases Nat.eq_zero_or_pos k with h0 | h0
        · subst h0
          exact .inl ⟨by simp [b1], by simp [b1]⟩
        · exact .inr ⟨r, k, List.mem_cons_self, h0, hlt, by simp [b1], by simp [b1]⟩
    · obtain ⟨k', rfl⟩ : ∃ k', k = (recL r).length + k' := ⟨k - (recL r).length, by omega⟩
      obtain ⟨w, h1, h2, h3⟩ := cut_recs q k' (by omega)
      have ht : ∀ n, b1 ((r :: q).take (n + 1)) = recL r ++ b1 (q.take n) := fun n => by rw [List.take_succ_cons]; rfl
      refine ⟨w + 1, by simp; omega, fun s hs h => ?_, ?_⟩
      · rcases Nat.eq_zero_or_pos s with h0 | h0
        · omega
        · obtain ⟨s', rfl⟩ : ∃ s', s = s' + 1 := ⟨s - 1, by omega⟩
          rw [ht, List.length_append] at h
          have := h2 s' (by simp at hs; omega) (by omega)
          omega
      · rw [hb, List.take_length_add_append, ht, List.length_append]
        rcases h3 with ⟨e1, e2⟩ | ⟨x, j, m1, m2, m3, m4, m5⟩
        · exact .inl ⟨by rw [e1], by omega⟩
        · exact .inr ⟨x, j, List.mem_cons_of_mem _ m1, m2, m3, by rw [m4, List.append_assoc], by omega⟩
def logG : LogS → Nat → List (List (List UInt8)) → LogS
  | L, _, [] => L
  | L, a, g :: gs => logG { L with files := L.files ++ [a], size := (b1 g).length, next := a + g.length } (a + g.length) gs
theorem logG_is : ∀ (gs : List (List (List UInt8))) (a : Nat) (L : LogS), logG L a gs = { L with files := L.files ++ startsG a gs, size := (gs.getLast?.map fun g => (b1 g).length).getD L.size, next := if gs = [] then L.next else a + gs.flatten.length }
  | [], a, L => by simp [logG, startsG]
  | g :: gs, a, L => by
    rw [logG, logG_is gs]
    cases gs with
    | nil => simp [startsG]
    | cons h gs =>
      rw [if_neg (by simp), if_neg (by simp), List.getLast?_cons_cons, show startsG a (g :: h :: gs) = a :: startsG (a + g.length) (h :: gs) from rfl, List.append_assoc, List.flatten_cons (l := g), List.length_append, Nat.add_assoc]
      simp only [LogS.mk.injEq, and_true, true_and]
      refine ⟨rfl, ?_⟩
      cases hx : (h :: gs).getLast? with
      | none => simp at hx
      | some y => rfl
theorem logG_0 (gs : List (List (List UInt8))) : logG (log0 60) 0 gs = LG gs false := by
  rw [logG_is]
  unfold LG log0
  cases gs with
  | nil => simp
  | cons g gs => simp
theorem fileW_group {L : LogS} {S : DiskS} {a : Nat} {g : List (List UInt8)} {last : Bool} (ha : a < 1000) (hr : ∀ r ∈ g, r.length ≤ 65536) (hL : L.files ≠ [] → L.next = a) (hb : bytesOf S (nameW a) = b1 g) :
    fileW L S (nameW a) last = ⟨0, { L with files := L.files ++ [a], size := (b1 g).length, next := a + g.length }, S, g⟩ := by
  have he : eachW (b1 g).length 0 (b1 g) = (g, .done) := eachW_whole g hr
  unfold fileW
  rw [show numL (bl (nameW a)) = some a from numL_name (by omega)]
  simp only
  rw [if_neg (fun h => h.2 (hL h.1).symm), hb, he]
  simp [fileEnd]
theorem openGo_groups {S : DiskS} {rest : List ByteArray} : ∀ (gs : List (List (List UInt8))) (a : Nat) (L : LogS) (acc : List (List UInt8)), a + gs.flatten.length < 1000 → (∀ g ∈ gs, ∀ r ∈ g, r.length ≤ 65536) → (L.files ≠ [] → L.next = a) → (∀ x ∈ filesP a gs, bytesOf S x.1 = x.2.bytes) →
    openGo ((startsG a gs).map nameW ++ rest) L S acc = openGo rest (logG L a gs) S (acc ++ gs.flatten)
  | [], _, _, _, _, _, _, _ => by simp [startsG, logG]
  | g :: gs, a, L, acc, h1, h2, h3, h4 => by
    rw [List.flatten_cons, List.length_append] at h1
    have hf : ∀ last, fileW L S (nameW a) last = _ := fun last => fileW_group (last := last) (by omega) (h2 g List.mem_cons_self) h3 (h4 _ List.mem_cons_self)
    have ih := openGo_groups (S := S) (rest := rest) gs (a + g.length) { L with files := L.files ++ [a], size := (b1 g).length, next := a + g.length } (acc ++ g) (by omega) (fun x hx => h2 x (List.mem_cons_of_mem _ hx)) (fun _ => rfl) (fun x hx => h4 x (List.mem_cons_of_mem _ hx))
    rw [startsG, List.map_cons, List.cons_append, openGo, hf, if_neg (by simp)]
    simp only
    rw [ih, logG, List.flatten_cons, List.append_assoc]
theorem bytes_mem {S : DiskS} {p : ByteArray × FileS} (hn : (S.files.map (·.1)).Nodup) (h : p ∈ S.files) : bytesOf S p.1 = p.2.bytes := by
  unfold bytesOf
  rw [aget_of_mem hn (show (p.1, p.2) ∈ S.files from h)]
  rfl
theorem starts64 {gs : List (List (List UInt8))} (hnes : ∀ g ∈ gs, g ≠ []) (hl : gs.flatten.length < 64) : ∀ x ∈ startsG 0 gs, x < 64 := fun x hx => by
  have := startsG_lt gs 0 hnes x hx
  omega
/-- Whole files. -/
theorem openW_groups {T : DiskS} {gs : List (List (List UInt8))} (hF : T.files = filesP 0 gs) (hnes : ∀ g ∈ gs, g ≠ []) (hr : ∀ g ∈ gs, ∀ r ∈ g, r.length ≤ 65536) (hl : gs.flatten.length < 64) :
    openW T 60 = ⟨0, LG gs false, T, gs.flatten⟩ := by
  have hnm : T.files.map (·.1) = (startsG 0 gs).map nameW := by rw [hF, filesP_names]
  have hup := startsG_up gs 0 hnes
  have hlt := starts64 hnes hl
  have hnd : (T.files.map (·.1)).Nodup := by rw [hnm]; exact up_nodup hup hlt
  unfold openW
  rw [list_up hnm hup hlt fW has_w]
  have := openGo_groups (S := T) (rest := []) gs 0 (log0 60) [] (by omega) hr (fun h => absurd rfl h) (fun x hx => bytes_mem hnd (by rw [hF]; exact hx))
  rw [List.append_nil] at this
  rw [this, logG_0, openGo, List.nil_append]
theorem aget_app_none {m : List (ByteArray × FileS)} {k k' : ByteArray} {v : FileS} (h : aget m k = none) (hk : k ≠ k') : aget (m ++ [(k', v)]) k = none := by
  rw [aget_none_iff] at h ⊢
  simp only [List.map_append, List.map_cons, List.map_nil, List.mem_append, List.mem_singleton]
  rintro (e | e)
  · exact h e
  · exact hk e
theorem adel_last {m m' : List (ByteArray × FileS)} {k : ByteArray} {v : FileS} (h : aget m k = none) : adel (m ++ (k, v) :: m') k = m ++ m' := by
  induction m with
  | nil => simp [adel]
  | cons p m ih =>
    obtain ⟨a, u⟩ := p
    by_cases e : k = a
    · subst e; simp [aget] at h
    · have h' : aget m k = none := by simpa [aget, e] using h
      rw [List.cons_append, adel, if_neg e, ih h', List.cons_append]
theorem aget_mid {m m' : List (ByteArray × FileS)} {k : ByteArray} {v : FileS} (h : aget m k = none) : aget (m ++ (k, v) :: m') k = some v := by
  induction m with
  | nil => simp [aget]
  | cons p m ih =>
    obtain ⟨a, u⟩ := p
    by_cases e : k = a
    · subst e; simp [aget] at h
    · have h' : aget m k = none := by simpa [aget, e] using h
      rw [List.cons_append, aget, if_neg e, ih h']
/-- A torn last file is mended. -/
theorem mend_G {G : List (ByteArray × FileS)} {room u o : Int} {n : Nat} {f : FileS} {b : List UInt8} (hX : aget G fX = none) (hn : aget G (nameW n) = none) (hnx : fX ≠ nameW n) (hlen : G.length < 511) (hb : b ≠ []) (hu : u + (b.length : Nat) ≤ room) (hbl : b.length ≤ 1048576) :
    mendW (⟨G ++ [(nameW n, f)], room, u, -1, o⟩ : DiskS) (nameW n) b = (0, ⟨G ++ [(nameW n, ⟨b, b.length, true⟩)], room, u + (b.length : Nat) - f.bytes.length, -1, o + 3⟩) := by
  have hXB : nameB fX = true := by decide
  have hsX : doStops [fX] (-1) = none := by simp [doStops, hXB]
  have hs2 : doStops [fX, nameW n] (-1) = none := by simp [doStops, hXB, nameB_name]
  have hX' : aget (G ++ [(nameW n, f)]) fX = none := aget_app_none hX hnx
  have h0 : mendA (⟨G ++ [(nameW n, f)], room, u, -1, o⟩ : DiskS) = (0, ⟨G ++ [(nameW n, f)], room, u, -1, o⟩) := by
    unfold mendA
    rw [if_neg (by simp only; rw [hX']; simp)]
  have h1 : (⟨G ++ [(nameW n, f)], room, u, -1, o⟩ : DiskS).append fX b = (0, ⟨G ++ [(nameW n, f)] ++ [(fX, ⟨b, 0, false⟩)], room, u + (b.length : Nat), -1, o + 1⟩) := by
    have hp : (⟨G ++ [(nameW n, f)], room, u, -1, o⟩ : DiskS).put fX b = (0, ⟨G ++ [(nameW n, f)] ++ [(fX, ⟨b, 0, false⟩)], room, u + (b.length : Nat), -1, o⟩) := by
      unfold DiskS.put
      rw [if_neg (by simp only; omega), show aget ((⟨G ++ [(nameW n, f)], room, u, -1, o⟩ : DiskS).files) fX = none from hX']
      simp only
      rw [if_neg (by simp; omega), aput_new _ hX']
    unfold DiskS.append DiskS.doing
    rw [hp]
    simp [hsX, DiskS.count]
  have hg1 : ∀ x, aget (G ++ [(nameW n, f)] ++ [(fX, x)]) fX = some x := fun x => aget_last hX'
  have h2 : (⟨G ++ [(nameW n, f)] ++ [(fX, ⟨b, 0, false⟩)], room, u + (b.length : Nat), -1, o + 1⟩ : DiskS).sync fX = (0, ⟨G ++ [(nameW n, f)] ++ [(fX, ⟨b, b.length, true⟩)], room, u + (b.length : Nat), -1, o + 2⟩) := by
    unfold DiskS.sync DiskS.onFile DiskS.doing DiskS.synced
    simp only [hsX, hg1, aput_last hX', DiskS.count]
    simp
    omega
  have h3 : (⟨G ++ [(nameW n, f)] ++ [(fX, ⟨b, b.length, true⟩)], room, u + (b.length : Nat), -1, o + 2⟩ : DiskS).rename fX (nameW n) = (0, ⟨G ++ [(nameW n, ⟨b, b.length, true⟩)], room, u + (b.length : Nat) - f.bytes.length, -1, o + 3⟩) := by
    have e1 : aget (G ++ [(nameW n, f)] ++ [(fX, (⟨b, b.length, true⟩ : FileS))]) (nameW n) = some f := by
      rw [List.append_assoc]; exact aget_mid hn
    have e2 : adel (G ++ [(nameW n, f)] ++ [(fX, (⟨b, b.length, true⟩ : FileS))]) (nameW n) = G ++ [(fX, (⟨b, b.length, true⟩ : FileS))] := by
      rw [List.append_assoc]; exact adel_last hn
    have e3 : adel (G ++ [(fX, (⟨b, b.length, true⟩ : FileS))]) fX = G := by
      have := adel_last (m' := []) (v := (⟨b, b.length, true⟩ : FileS)) hX
      rw [List.append_nil] at this
      exact this
    unfold DiskS.rename DiskS.onFile DiskS.doing DiskS.renamed DiskS.drop
    simp only [hs2, hg1, e1, e2, e3, if_neg hnx, aput_new _ hn, DiskS.count]
    simp
    omega
  unfold mendW
  rw [if_neg hb, h0]
  simp only [seqS, if_true, h1, h2, h3]
theorem fX_ne (n : Nat) : fX ≠ nameW n := by
  intro e
  have h := congrArg (fun x : ByteArray => (bl x).length) e
  have h2 := nameL_len n
  simp [fX, nameW, bl, lb] at h
  omega
theorem filesP_X (gs : List (List (List UInt8))) (a : Nat) : aget (filesP a gs) fX = none := by
  refine aget_none_iff.2 fun hm => ?_
  rw [filesP_names] at hm
  obtain ⟨x, _, e⟩ := List.mem_map.1 hm
  exact fX_ne x e.symm
theorem filesP_len (gs : List (List (List UInt8))) (a : Nat) : (filesP a gs).length = gs.length := by
  have := congrArg List.length (filesP_names gs a)
  rw [List.length_map, List.length_map, startsG_len] at this
  exact this
/-- What is opened behind the crash. -/
theorem open_A {T : DiskS} {rs : List (List UInt8)} {sn k0 : Nat} (h : CrashA rs sn T.files) (hi : DInv T k0) (hleft : T.left = -1) (hroom : T.room = 100000) (hl : rs.length ≤ 60) (hr : ∀ r ∈ rs, r.length ≤ 8) :
    ∃ gs T', openW T 60 = ⟨0, LG gs false, T', gs.flatten⟩ ∧ T'.files = filesP 0 gs ∧ T'.left = -1 ∧ T'.room = 100000 ∧ (∀ g ∈ gs, g ≠ []) ∧ gs.flatten <+: rs ∧ sn ≤ gs.flatten.length := by
  rcases h with ⟨gs, hnes, hF, hp, hsn⟩ | ⟨gs, q, k, s, hnes, hrs, hF, hk0, hk, hsk, hs, hsn⟩
  · have h1 : gs.flatten.length ≤ rs.length := hp.length_le
    exact ⟨gs, T, openW_groups hF hnes (fun g hg r hr' => by have := hr r (hp.subset (List.mem_flatten.2 ⟨g, hg, hr'⟩)); omega) (by omega), hF, hleft, hroom, hnes, hp, hsn⟩
  · obtain ⟨w, hw, hws, hc⟩ := cut_recs q k hk
    have hrl : rs.length = gs.flatten.length + q.length := by rw [hrs, List.length_append]
    have hsw := hws s hs hsk
    have hwl : (q.take w).length = w := by rw [List.length_take]; omega
    have hrg : ∀ g ∈ gs, ∀ r ∈ g, r.length ≤ 65536 := fun g hg r hr' => by
      have := hr r (by rw [hrs]; exact List.mem_append_left _ (List.mem_flatten.2 ⟨g, hg, hr'⟩)); omega
    have hrq : ∀ r ∈ q, r.length ≤ 65536 := fun r hr' => by
      have := hr r (by rw [hrs]; exact List.mem_append_right _ hr'); omega
    have hrw : ∀ r ∈ q.take w, r.length ≤ 65536 := fun r hr' => hrq r (List.mem_of_mem_take hr')
    have hpre : gs.flatten ++ q.take w <+: rs := by rw [hrs]; exact (List.prefix_append_right_inj _).2 (List.take_prefix _ _)
    have hgq : ∀ e : q.take w ≠ [], (∀ g ∈ gs ++ [q.take w], g ≠ []) ∧ (gs ++ [q.take w]).flatten <+: rs ∧ sn ≤ (gs ++ [q.take w]).flatten.length ∧ (∀ g ∈ gs ++ [q.take w], ∀ r ∈ g, r.length ≤ 65536) ∧ (gs ++ [q.take w]).flatten.length < 64 := fun e => by
      have hfl : (gs ++ [q.take w]).flatten = gs.flatten ++ q.take w := by simp
      have h1 := hpre.length_le
      refine ⟨fun g hg => ?_, by rw [hfl]; exact hpre, by rw [hfl, List.length_append, hwl]; omega, fun g hg => ?_, by rw [hfl]; omega⟩
      · rcases List.mem_append.1 hg with hg | hg
        · exact hnes g hg
        · simp at hg; rw [hg]; exact e
      · rcases List.mem_append.1 hg with hg | hg
        · exact hrg g hg
        · simp at hg; rw [hg]; exact hrw
    rcases hc with ⟨e1, e2⟩ | ⟨r, j, hrm, hj0, hj, e1, e2⟩
    · have hne : q.take w ≠ [] := fun e => by rw [e] at e2; simp [b1] at e2; omega
      obtain ⟨g1, g2, g3, g4, g5⟩ := hgq hne
      have hF' : T.files = filesP 0 (gs ++ [q.take w]) := by rw [hF, e1, filesP_app, Nat.zero_add, ← e2]
      exact ⟨_, T, openW_groups hF' g1 g4 g5, hF', hleft, hroom, g1, g2, g3⟩
    · have hup := startsG_up (gs ++ [q]) 0
      have hqne : q ≠ [] := List.ne_nil_of_mem hrm
      have hnq : ∀ g ∈ gs ++ [q], g ≠ [] := fun g hg => by
        rcases List.mem_append.1 hg with hg | hg
        · exact hnes g hg
        · simp at hg; rw [hg]; exact hqne
      have hup := startsG_up (gs ++ [q]) 0 hnq
      have hlt := starts64 hnq (by rw [flat_snoc]; omega)
      have hnm : T.files.map (·.1) = (startsG 0 (gs ++ [q])).map nameW := by rw [hF, startsG_app, List.map_append, List.map_append, filesP_names, Nat.zero_add]; rfl
      have hnd : (T.files.map (·.1)).Nodup := by rw [hnm]; exact up_nodup hup hlt
      have hgn : aget (filesP 0 gs) (nameW gs.flatten.length) = none := filesP_none hnes (by omega) (by omega)
      have hgl : gs.length ≤ gs.flatten.length := groups_le gs hnes
      obtain ⟨F, room, u, lf, o⟩ := T
      simp only at hF hleft hroom
      subst hF hleft hroom
      have hsum := hi.sum
      simp only at hsum
      have h1800 : (b1 gs.flatten).length + (b1 q).length ≤ 1800 := by
        have h1 := b1_small (rs := rs) hr
        have h2 := congrArg (fun x => (b1 x).length) hrs
        simp only [b1_app, List.length_append] at h2
        omega
      have hused : u + (b1 (q.take w)).length ≤ 100000 := by
        rw [sumF_app, sumF_P] at hsum
        have h2 := b1_take_le q w
        simp only [sumF, List.map_cons, List.map_nil, List.sum_cons, List.sum_nil, List.length_take, Nat.min_eq_left hk] at hsum
        omega
      have hbq : (b1 (q.take w)).length ≤ 1048576 := by
        have h2 := b1_take_le q w
        omega
      have hbytes : bytesOf (⟨filesP 0 gs ++ [(nameW gs.flatten.length, ⟨(b1 q).take k, k, true⟩)], 100000, u, -1, o⟩ : DiskS) (nameW gs.flatten.length) = b1 (q.take w) ++ (recL r).take j := by
        unfold bytesOf
        rw [show aget ((⟨filesP 0 gs ++ [(nameW gs.flatten.length, ⟨(b1 q).take k, k, true⟩)], 100000, u, -1, o⟩ : DiskS).files) (nameW gs.flatten.length) = some ⟨(b1 q).take k, k, true⟩ from aget_last hgn, ← e1]
        rfl
      have he : eachW (b1 (q.take w) ++ (recL r).take j).length 0 (b1 (q.take w) ++ (recL r).take j) = (q.take w, .torn (b1 (q.take w)).length) := eachW_torn _ r j hrw (hrq r hrm) hj0 hj
      have htk : (b1 (q.take w) ++ (recL r).take j).take (b1 (q.take w)).length = b1 (q.take w) := List.take_left' rfl
      have hlog : logG (log0 60) 0 gs = LG gs false := logG_0 gs
      have hfw : fileW (LG gs false) (⟨filesP 0 gs ++ [(nameW gs.flatten.length, ⟨(b1 q).take k, k, true⟩)], 100000, u, -1, o⟩ : DiskS) (nameW gs.flatten.length) true
          = fileEnd (LG gs false) (⟨filesP 0 gs ++ [(nameW gs.flatten.length, ⟨(b1 q).take k, k, true⟩)], 100000, u, -1, o⟩ : DiskS) (nameW gs.flatten.length) true gs.flatten.length (b1 (q.take w) ++ (recL r).take j) (eachW (b1 (q.take w) ++ (recL r).take j).length 0 (b1 (q.take w) ++ (recL r).take j)) := by
        unfold fileW
        rw [show numL (bl (nameW gs.flatten.length)) = some gs.flatten.length from numL_name (by omega)]
        simp only
        rw [if_neg (fun h => h.2 (by rfl)), hbytes]
      have hopen : ∀ R : FileR, fileEnd (LG gs false) (⟨filesP 0 gs ++ [(nameW gs.flatten.length, ⟨(b1 q).take k, k, true⟩)], 100000, u, -1, o⟩ : DiskS) (nameW gs.flatten.length) true gs.flatten.length (b1 (q.take w) ++ (recL r).take j) (eachW (b1 (q.take w) ++ (recL r).take j).length 0 (b1 (q.take w) ++ (recL r).take j)) = R → R.e = 0 →
          openW (⟨filesP 0 gs ++ [(nameW gs.flatten.length, ⟨(b1 q).take k, k, true⟩)], 100000, u, -1, o⟩ : DiskS) 60 = ⟨0, R.L, R.S, gs.flatten ++ R.rs⟩ := fun R hR h0 => by
        unfold openW
        rw [list_up hnm hup hlt fW has_w, startsG_app, List.map_append, Nat.zero_add]
        rw [openGo_groups gs 0 (log0 60) [] (by omega) hrg (fun h => absurd rfl h) (fun x hx => bytes_mem hnd (List.mem_append_left _ hx)), hlog]
        show openGo [nameW gs.flatten.length] _ _ _ = _
        rw [openGo, show decide (([] : List ByteArray) = []) = true by decide, hfw, hR, if_neg (by simp [h0])]
        rw [openGo, List.nil_append]
      by_cases hw0 : q.take w = []
      · have hm : mendW (⟨filesP 0 gs ++ [(nameW gs.flatten.length, ⟨(b1 q).take k, k, true⟩)], 100000, u, -1, o⟩ : DiskS) (nameW gs.flatten.length) (b1 (q.take w)) = (0, ⟨filesP 0 gs, 100000, u - ((b1 q).take k).length, -1, o + 1⟩) := by
          rw [hw0]
          have hd := adel_last (m' := []) (v := (⟨(b1 q).take k, k, true⟩ : FileS)) hgn
          rw [List.append_nil] at hd
          have hg : aget (filesP 0 gs ++ [(nameW gs.flatten.length, (⟨(b1 q).take k, k, true⟩ : FileS))]) (nameW gs.flatten.length) = some ⟨(b1 q).take k, k, true⟩ := aget_last hgn
          unfold mendW
          rw [if_pos (show b1 [] = [] from rfl)]
          unfold DiskS.delete DiskS.onFile DiskS.doing DiskS.drop
          simp only [stops_name, hg, hd, DiskS.count]
          simp
        refine ⟨gs, ⟨filesP 0 gs, 100000, u - ((b1 q).take k).length, -1, o + 1⟩, (hopen _ (fileEnd_torn (by exact he) (by rw [htk]; exact hm) |>.trans (if_pos (by rw [hw0]; rfl))) rfl).trans ?_, rfl, rfl, rfl, hnes, by rw [hrs]; exact List.prefix_append _ _, ?_⟩
        · rw [hw0]
          simp [LG]
        · have : w = 0 := by rw [hw0] at hwl; simpa using hwl.symm
          omega
      · obtain ⟨g1, g2, g3, g4, g5⟩ := hgq hw0
        have hpos := b1_ne hw0
        have hm := mend_G (room := 100000) (u := u) (o := o) (n := gs.flatten.length) (f := ⟨(b1 q).take k, k, true⟩) (b := b1 (q.take w)) (filesP_X gs 0) hgn (fX_ne _) (by rw [filesP_len]; omega) (fun e => by rw [e] at hpos; simp at hpos) hused hbq
        refine ⟨gs ++ [q.take w], ⟨filesP 0 gs ++ [(nameW gs.flatten.length, ⟨b1 (q.take w), (b1 (q.take w)).length, true⟩)], 100000, u + ((b1 (q.take w)).length : Nat) - ((b1 q).take k).length, -1, o + 3⟩, (hopen _ (fileEnd_torn (by exact he) (by rw [htk]; exact hm) |>.trans (if_neg (by omega))) rfl).trans ?_, ?_, rfl, rfl, g1, g2, g3⟩
        · rw [LG_snoc]
          simp [LG]
        · rw [filesP_app, Nat.zero_add]
theorem sumF_ge {p : ByteArray × FileS} : ∀ {l : List (ByteArray × FileS)}, p ∈ l → p.2.bytes.length ≤ sumF l
  | x :: l, h => by
    rw [sumF_one]
    rcases List.mem_cons.1 h with rfl | h
    · omega
    · have := sumF_ge h
      omega
/-- One more is added. -/
theorem append_ok {S : DiskS} {n : Nat} {b : List UInt8} (hl : S.left = -1) (hu : S.used + (b.length : Nat) ≤ S.room) (hF : S.files.length < 512) (hb : b.length ≤ 1048576) (hf : ∀ f, aget S.files (nameW n) = some f → b.length + f.bytes.length ≤ 1048576) : (S.append (nameW n) b).1 = 0 := by
  have hp : (S.put (nameW n) b).1 = 0 := by
    unfold DiskS.put
    rw [if_neg (by omega)]
    cases hg : aget S.files (nameW n) with
    | none => simp only; rw [if_neg (by omega)]
    | some f => simp only; rw [if_neg (by have := hf f hg; omega)]
  unfold DiskS.append DiskS.doing
  rw [hl, stops_name]
  simp only
  rw [if_pos hp]
theorem add_ok {T : DiskS} {gs : List (List (List UInt8))} {k0 : Nat} {r : List UInt8} (hF : T.files = filesP 0 gs) (hi : DInv T k0) (hleft : T.left = -1) (hroom : T.room = 100000) (hnes : ∀ g ∈ gs, g ≠ []) (hl : gs.flatten.length ≤ 60) (hr : ∀ x ∈ gs.flatten, x.length ≤ 8) (hr8 : r.length ≤ 8) : (addW (LG gs false) T r).1 = 0 := by
  have hb := b1_small (rs := gs.flatten) hr
  have hused : T.used = ((b1 gs.flatten).length : Nat) := by rw [hi.sum, hF, sumF_P]
  have hgl := groups_le gs hnes
  have hrl := recL_len r
  have hsm : ∀ p ∈ T.files, p.2.bytes.length ≤ 1800 := fun p hp => by
    have h1 : p.2.bytes.length ≤ sumF T.files := sumF_ge hp
    rw [hF, sumF_P] at h1
    omega
  have happ : ∀ n, (T.append (nameW n) (recL r)).1 = 0 := fun n => append_ok hleft (by omega) (by rw [hF, filesP_len]; omega) (by omega) (fun f hf => by have := hsm _ (aget_mem hf); simp only at this; omega)
  have hput : ∀ L fr n, (putW L T fr n r).1 = 0 := fun L fr n => by
    unfold putW
    rw [if_neg (by simp [happ])]
  have hsy : syncW (LG gs false) T = (0, LG gs false, T) := by
    unfold syncW
    rw [if_neg (by simp [LG]), if_pos (by simp [LG])]
  unfold addW
  rw [if_neg (by simp [LG]), if_neg (by omega)]
  split
  · exact hput _ _ _
  · split
    · rw [hsy, if_neg (by simp)]
      exact hput _ _ _
    · exact hput _ _ _
end Go.Proofs.YtfablbhkmddnbaaDoor
