/- memtable.Table: Names. -/
import Derived.Test.YtabnngcaohgppaaTab
import Derived.Test.YtabnngcaohgppaaStm
import Derived.Test.YtabnngcaohgppaaSrt
import Derived.Test.YtabnngcaohgppaaRng
namespace Go.Proofs.Ytabnngcaohgppaa
open Go.RowKit Go.Sort Go.Lib

/-- What has come of the names, while some are left. -/
structure TabNames (w : World) (mb r : Nat) (M : List (ByteArray × Value)) (rest : List (ByteArray × Value)) (L : List ByteArray) (v : Value) (wr : World) : Prop where
  iter : Iter (fun s : ByteArray => Value.string s) wr mb r M rest
  to : StrsTo w L v wr
  perm : (L ++ rest.map (·.1)).Perm (M.map (·.1))
  new : w.heap.size ≤ r
  ne : mb < w.heap.size
  own : ∀ g, v.ownBlock = some g → g ≠ r

theorem perm_next {L : List ByteArray} {l1 l2 : List (ByteArray × Value)} {s : ByteArray} {v : Value} {M : List ByteArray} (h : (L ++ (l1 ++ (s, v) :: l2).map (·.1)).Perm M) : ((L ++ [s]) ++ (l1 ++ l2).map (·.1)).Perm M := by
  refine List.Perm.trans ?_ h
  simp only [List.map_append, List.map_cons, List.append_assoc, List.singleton_append]
  exact List.Perm.append_left _ List.perm_middle.symm

theorem StrsTo.snoc {w w1 w2 w3 : World} {L : List ByteArray} {s : ByteArray} {v v' : Value} {n : Nat} (h : StrsTo w L v w1) (hx : Ext w1 w2) (ha : Appended w2 9 1 v n (strs L ++ strs [s]) v' w3) (hn : n = L.length + 1) : StrsTo w (L ++ [s]) v' w3 := by
  subst hn
  refine ⟨?_, fun g hg => ?_, Chg.ext ((Chg.of_ext (h.ext.trans hx)).trans ha.chg (fun _ _ e => e)) (fun i hi e => by have := h.own i e; omega)⟩
  · have := ha.row
    rw [show strs (L ++ [s]) = strs L ++ strs [s] by simp [strs], List.length_append]
    exact this
  · rcases ha.loc with e | e
    · rw [e] at hg; exact h.own g hg
    · rw [e] at hg; have := h.ext.size; have := hx.size; simp at hg; omega

def tabNames (T : List (ByteArray × Sl)) : List ByteArray := sortS (T.map (·.1))
/-- A table has at most as many series as points where no series is empty. -/
theorem sum_ge {T : List (ByteArray × Sl)} (h : ∀ p ∈ T, 0 < p.2.l.length) : T.length ≤ (T.map fun p => p.2.l.length).sum := by
  induction T with
  | nil => simp
  | cons p T ih =>
    have h1 := ih (fun q hq => h q (List.mem_cons_of_mem _ hq))
    have h2 := h p (by simp)
    simp; omega

set_option maxHeartbeats 4000000 in
set_option maxRecDepth 100000 in
theorem tab_names {w : World} {d mb : Nat} {T : List (ByteArray × Sl)} {cnt most : Nat} (h : TabAt w d mb T cnt most) (hT : T.length ≤ 70000) :
    Calls Try.prog 13 #[.pointer (some ⟨d, 0, none⟩)] w fun e w' => ∃ v, e = .returned v ∧ StrsTo w (tabNames T) v w' := by
  have c0 : w.cell? ⟨d, 0, none⟩ = some (.map (some mb)) := by have := cell_of_block h.blk 0; simpa using this
  obtain ⟨it, hrg, hit⟩ := iter_range (P := Try.prog) h.map Try.underlying49
  have hml := h.map.lt
  obtain ⟨r, hr⟩ : ∃ r, r = w.heap.size := ⟨_, rfl⟩
  have hM : (amap Sl.v T).map (·.1) = T.map (·.1) := amap_keys _ _
  have HR : Hid (TabNames w mb r (amap Sl.v T) (amap Sl.v T) [] (.slice none 0 0) (w.alloc it)) := Lib.hid (by
    subst hr
    exact ⟨hit, ⟨Row.nil _ _ _, fun g hg => by simp [Value.ownBlock] at hg, (Ext.refl w).alloc _⟩, by simp, Nat.le_refl _, hml, fun g hg => by simp [Value.ownBlock] at hg⟩)
  have HM := Lib.hid hM
  have H := Lib.hid h
  rw [← hr] at hrg
  clear h hit hr hM hml
  go_enter Try.func13, Try.ntmps13
  go_wp2_with (go_at_call 22; refine (tab_none H.out).mono ?_; rintro e w' ⟨rfl, rfl⟩)
  clear c0 hrg
  go_loopw [3] (fun v wr => ∃ rest L va vc, v = .slice va (List.length L) vc ∧ Hid (TabNames w mb r (amap Sl.v T) rest L v wr)) (fun _ wr => iterLeft wr mb r)
  case atStart => exact ⟨_, [], none, 0, rfl, HR⟩
  case round =>
    clear HR
    obtain ⟨rest, L, va, vc, rfl, HR⟩ := hrel
    have hLl : L.length ≤ 70000 := by
      have h1 := HR.out.perm.length_eq
      have h2 := congrArg List.length HM.out
      simp at h1 h2; omega
    rcases iter_next (P := Try.prog) HR.out.iter with ⟨rfl, hnx⟩ | ⟨l1, s, pv, l2, w2, hl, hnx, hen, hi, hch, hsz⟩
    · go_wp2_with fail
      refine (sort_any HR.out.to.row (by omega)).mono ?_
      rintro e w2 ⟨rfl, hrow, hc⟩
      have HRow := Lib.hid hrow
      have HC := Lib.hid hc
      clear hrow hc
      go_wp2_with fail
      go_ret
      have e1 : sortS L = tabNames T := by
        unfold tabNames
        rw [← HM.out]
        exact sorted_unique ((sortS_perm L).trans ((by simpa using HR.out.perm : L.Perm _).trans (sortS_perm _).symm)) (sortS_sorted _) (sortS_sorted _)
      refine ⟨_, rfl, ?_, HR.out.to.own, ((Chg.of_ext (S := fun k => (Value.slice va L.length vc).ownBlock = some k) HR.out.to.ext).trans HC.out (fun _ _ e => e)).ext (fun i hi e => by have := HR.out.to.own i e; omega)⟩
      rw [← e1, sortS_length]; exact HRow.out
    · have hx2 : Ext w w2 := ((Chg.of_ext (S := (· = r)) HR.out.to.ext).trans hch (fun _ _ e => e)).ext (fun i hi e => by have := HR.out.new; omega)
      have HT2 : Hid (StrsTo w L (.slice va L.length vc) w2) := Lib.hid ⟨HR.out.to.row.chg hch (fun g hg => HR.out.own g hg), HR.out.to.own, hx2⟩
      have hcnt := HR.out.iter.count
      have HCN : Hid (iterLeft wr mb r = l1.length + l2.length + 1) := Lib.hid (by rw [hcnt, hl, List.length_append, List.length_cons]; omega)
      have HI := Lib.hid hi
      have HRL := Lib.hid hi.lt.1
      have HK := Lib.hid (⟨HR.out.new, HR.out.ne, HR.out.own⟩ : _ ∧ _ ∧ _)
      have h0 := HR.out.perm
      rw [hl] at h0
      have HP := Lib.hid (perm_next h0)
      clear hl hx2 hcnt hi hch hsz h0
      go_wp2_with (at_builtin; go_must (refine wpList_append_to (n := L.length) (m := 1) elem_str rfl _ _ rfl (v := .slice _ _ _) rfl rfl (HT2.out.row.alloc _) (src_str' (heap_alloc_new _ _)) (by unfold maxLen; omega) (by omega) ?_; intro v2 w4 happ); have K := Lib.hid (HT2.out.snoc ((Ext.refl _).alloc _) happ rfl); have HCH4 := Lib.hid happ.chg; obtain ⟨va2, vc2, rfl⟩ := happ.row.shape; have HLOC := Lib.hid happ.loc; clear happ)
      have HI4 := Lib.hid ((HI.out.ext ((Ext.refl _).alloc (.cells #[.string s] 9 (0, 0)))).chg HCH4.out (fun e => by have h1 := HT2.out.own mb e; have h2 := HK.out.2.1; omega) (fun e => HK.out.2.2 r e rfl))
      go_roundw
      case rel => exact ⟨l1 ++ l2, L ++ [s], va2, vc2, by simp, Lib.hid ⟨HI4.out, K.out, HP.out, HK.out.1, HK.out.2.1, fun g hg => by
        rcases HLOC.out with e | e
        · rw [e] at hg; exact HK.out.2.2 g hg
        · rw [e] at hg; have := HRL.out; simp at hg; omega⟩⟩
      case measure => have h1 := HCN.out; have h2 := HI4.out.count; rw [List.length_append] at h2; omega
end Go.Proofs.Ytabnngcaohgppaa
