/- The law's records: some. -/
import Derived.Test.YtfablbhkmddnbaaDoorWl7
namespace Go.Proofs.YtfablbhkmddnbaaDoor
open Go.RowKit Go.Sort Go.Lib

/-- The records of the law: one for each of the first bytes. -/
def someR (i : Nat) (c : UInt8) : List UInt8 := UInt8.ofNat i :: List.replicate (c.toNat % 8) c
def someP (bs : List UInt8) (k : Nat) : List (List UInt8) := (List.range k).map fun i => someR i (bs.getD i 0)
def someL (bs : List UInt8) : List (List UInt8) := someP bs (min bs.length 60)
theorem someP_step (bs : List UInt8) (k : Nat) : someP bs (k + 1) = someP bs k ++ [someR k (bs.getD k 0)] := by
  unfold someP
  rw [List.range_succ, List.map_append]
  rfl
theorem someR_len (i : Nat) (c : UInt8) : 1 ≤ (someR i c).length ∧ (someR i c).length ≤ 8 := by
  unfold someR
  rw [List.length_cons, List.length_replicate]
  have := Nat.mod_lt c.toNat (show 0 < 8 by omega)
  omega
theorem someL_len (bs : List UInt8) : (someL bs).length = min bs.length 60 := by simp [someL, someP]
theorem someL_small (bs : List UInt8) : ∀ r ∈ someL bs, 1 ≤ r.length ∧ r.length ≤ 8 := by
  intro r hr
  unfold someL someP at hr
  obtain ⟨i, _, rfl⟩ := List.mem_map.1 hr
  exact someR_len _ _
theorem u8_and7 (x : UInt8) : bits .and .u8 (x.toNat : Int) 7 = ((x.toNat % 8 : Nat) : Int) := by
  have h : (BitVec.ofInt 8 7).toNat = 2 ^ 3 - 1 := by decide
  have hx := x.toNat_lt
  have key : (BitVec.ofInt 8 (x.toNat : Int) &&& BitVec.ofInt 8 7).toNat = x.toNat % 2 ^ 3 := by
    rw [BitVec.toNat_and, h, Nat.and_two_pow_sub_one_eq_mod, BitVec.toNat_ofInt]
    congr 1
    omega
  show IntKind.u8.wrap ((BitVec.ofInt 8 (x.toNat : Int) &&& BitVec.ofInt 8 7).toNat : Nat) = _
  rw [key, IntKind.wrap_u8]
  omega

/-- Lists of bytes that were made since a world. -/
structure LsB (w0 : World) (V : Value) (K : List Bs) (w : World) : Prop where
  row : Row w 22 1 V K.length (bsv K)
  ok : ∀ x ∈ K, x.Ok w
  own : ∀ g, V.ownBlock = some g → w0.heap.size ≤ g
  fr : ∀ x ∈ K, ∀ g, x.v.ownBlock = some g → w0.heap.size ≤ g ∧ g < w.heap.size ∧ V.ownBlock ≠ some g
  ext : Ext w0 w
theorem LsB.next {w0 w w' : World} {V : Value} {K : List Bs} (h : LsB w0 V K w) (hx : Ext w w') : LsB w0 V K w' :=
  ⟨h.row.ext hx, fun x hx' => (h.ok x hx').ext hx, h.own, fun x hx' g hg => ⟨(h.fr x hx' g hg).1, by have := (h.fr x hx' g hg).2.1; have := hx.size; omega, (h.fr x hx' g hg).2.2⟩, h.ext.trans hx⟩
theorem LsB.snoc {w0 w w1 w2 : World} {V v' : Value} {K : List Bs} {x : Bs} (h : LsB w0 V K w) (hx : x.Ok w) (hf : ∀ g, x.v.ownBlock = some g → w0.heap.size ≤ g ∧ g < w.heap.size ∧ V.ownBlock ≠ some g) (h1 : Ext w w1) (ha : Appended w1 22 1 V (K.length + 1) (bsv K ++ bsv [x]) v' w2) : LsB w0 v' (K ++ [x]) w2 := by
  have hs1 := h1.size
  have hs0 := h.ext.size
  have hs2 := ha.chg.size
  have hloc : ∀ g, v'.ownBlock = some g → V.ownBlock = some g ∨ w1.heap.size ≤ g := fun g hg => by
    rcases ha.loc with e | e
    · exact .inl (e ▸ hg)
    · rw [e] at hg; simp at hg; exact .inr (by omega)
  have key : ∀ z : Bs, z.Ok w → (∀ g, z.v.ownBlock = some g → V.ownBlock ≠ some g) → z.Ok w2 := fun z hz hza => (hz.ext h1).chg ha.chg hza
  refine ⟨by simpa [bsv] using ha.row, fun y hy => ?_, fun g hg => ?_, fun y hy g hg => ?_, ((Chg.of_ext (h.ext.trans h1)).trans ha.chg (fun _ _ e => e)).ext (fun i hi e => by have := h.own i e; omega)⟩
  · rcases List.mem_append.1 hy with hy | hy
    · exact key y (h.ok y hy) (fun g hg => (h.fr y hy g hg).2.2)
    · simp at hy; subst hy; exact key _ hx (fun g hg => (hf g hg).2.2)
  · rcases hloc g hg with e | e
    · exact h.own g e
    · omega
  · have hyf : w0.heap.size ≤ g ∧ g < w.heap.size ∧ V.ownBlock ≠ some g := by
      rcases List.mem_append.1 hy with hy | hy
      · exact h.fr y hy g hg
      · simp at hy; subst hy; exact hf g hg
    refine ⟨hyf.1, by omega, fun e => ?_⟩
    rcases hloc g e with e | e
    · exact hyf.2.2 e
    · omega

set_option maxHeartbeats 8000000 in
set_option maxRecDepth 100000 in
theorem some_any (w : World) (a : Option Addr) (n c : Nat) (bs : List UInt8) (hs : Src w 1 (.slice a n c) n (u8s bs)) (hn : n ≤ 9223372036854775807) :
    Calls Tryd.prog 7 #[.slice a n c] w fun e w' => ∃ va vc K, e = .returned (.slice va K.length vc) ∧ bsl K = someL bs ∧ LsB w (.slice va K.length vc) K w' := by
  have HS := Lib.hid hs
  have HN := Lib.hid (u8s_src_len hs)
  clear hs
  go_enter Tryd.func7, Tryd.ntmps7
  go_wp2_with fail
  go_loopw [4, 3, 5, 6] (fun s4 s3 s5 s6 wr => ∃ (i : Nat) (va : Option Addr) (vc : Nat) (K : List Bs), s4 = .int .i64 (i : Int) ∧ s3 = .slice va i vc ∧ i ≤ n ∧ i ≤ 60 ∧ K.length = i ∧ Hid (bsl K = someP bs i ∧ LsB w (.slice va K.length vc) K wr)) (fun s4 _ _ _ _ => 60 - (RowKit.intOf s4).toNat)
  case atStart => exact ⟨0, none, 0, [], by go_num, rfl, by omega, by omega, rfl, Lib.hid ⟨rfl, Row.nil _ _ _, by simp, fun g hg => by simp [Value.ownBlock] at hg, by simp, Ext.refl _⟩⟩
  case round =>
    obtain ⟨i, va, vc, K, rfl, rfl, hin, hi60, hKl, HH⟩ := hrel
    rcases Classical.em (i < n ∧ i < 60) with ⟨hlt, hlt60⟩ | hstop
    · obtain ⟨sb, so, x, rfl, hx, cx⟩ := byte_src (HS.out.ext HH.out.2.ext) hlt
      have hlti : (i : Int) < (n : Int) := by omega
      have h60i : (i : Int) < 60 := by omega
      have HX := Lib.hid hx
      have HCX := Lib.hid (fun W (hW : Ext wr W) => (hW.cell (World.block_lt_of_cell? wr _ cx)).trans cx)
      clear hx cx
      go_upto_region 6 with fail
      obtain ⟨g, hg⟩ : ∃ g, g = wr.heap.size := ⟨_, rfl⟩
      rw [← hg]
      generalize hW : World.alloc _ _ = W
      have hib : (i : Int) % 256 = (i : Int) := by omega
      have HM : Hid (MadeTo wr 5 1 (.slice (some ⟨g, 0, none⟩) 1 1) 1 (u8s [UInt8.ofNat i]) W) := Lib.hid (by
        have hiu : (UInt8.ofNat i).toNat = i := by rw [UInt8.toNat_ofNat']; omega
        refine ⟨⟨rfl, .inr ⟨g, 1, _, rfl, Nat.zero_le _, by rw [← hW, hg]; exact heap_alloc_new wr _, Nat.le_refl _, by unfold maxLen; omega, rfl, by simp [u8s, hiu]⟩⟩, fun g' hg' => ?_, by rw [← hW]; exact (Ext.refl wr).alloc _⟩
        have e2 : g = g' := Option.some.inj hg'
        omega)
      clear hW hg hib
      go_upto_block 2 with fail
      go_cut [5] (fun s5 wx => ∃ (ra : Option Addr) (rc : Nat), s5 = .slice ra (x.toNat % 8 + 1) rc ∧ Hid (MadeTo wr 5 1 (.slice ra (x.toNat % 8 + 1) rc) (x.toNat % 8 + 1) (u8s (someR i x)) wx))
      case first =>
        go_wp2_with fail
        go_loopw [6, 5] (fun s6 s5 wq => ∃ (k : Nat) (ra : Option Addr) (rc : Nat), s6 = .int .i64 (k : Int) ∧ k ≤ x.toNat % 8 ∧ s5 = .slice ra (k + 1) rc ∧ Hid (MadeTo wr 5 1 (.slice ra (k + 1) rc) (k + 1) (u8s (UInt8.ofNat i :: List.replicate k x)) wq)) (fun s6 _ _ => 8 - (RowKit.intOf s6).toNat)
        case atStart => exact ⟨0, _, _, by go_num, by omega, rfl, HM⟩
        case round =>
          obtain ⟨k, ra, rc, rfl, hk, rfl, HMk⟩ := hrel
          have cx := HCX.out wr HMk.out.ext
          have h7 := u8_and7 x
          have h8 : x.toNat % 8 < 8 := Nat.mod_lt _ (by omega)
          have HSR : Hid (someR i x = UInt8.ofNat i :: List.replicate (x.toNat % 8) x) := Lib.hid rfl
          generalize x.toNat % 8 = m at *
          rcases Nat.lt_or_ge k m with hkm | hkm
          · have hkmi : (k : Int) < (m : Int) := by omega
            go_wp2_with (first | (refine wpList_append_to (n := k + 1) (m := 1) byt_elem rfl _ _ rfl (v := .slice ra (k + 1) rc) rfl rfl (HMk.out.row.ext ((Ext.refl wr).alloc _)) (byt_src (x := x) (heap_alloc_new wr _)) (by unfold maxLen; omega) (by omega) ?_; intro v3 w3 happ; obtain ⟨a3, c3, rfl⟩ := happ.row.shape; have H3 := Lib.hid (HMk.out.more ((Ext.refl wr).alloc _) happ); clear happ cx))
            go_roundw
            case rel =>
              refine ⟨k + 1, a3, c3, by go_num, by omega, rfl, Lib.hid ?_⟩
              have := H3.out
              rw [← u8s_append] at this
              rw [List.replicate_succ', ← List.cons_append]
              exact this
            case measure => simp [RowKit.intOf]; omega
          · obtain rfl : k = m := by omega
            go_wp2_with fail
            go_meet
            case rel => exact ⟨ra, rc, rfl, Lib.hid (by rw [HSR.out]; exact HMk.out)⟩
      case rest =>
        obtain ⟨ra, rc, rfl, HMR⟩ := hcut
        have HL2 := Lib.hid (HH.out.2.next HMR.out.ext)
        have hsl : (someR i x).length = x.toNat % 8 + 1 := by simp [someR]
        obtain ⟨rn, hrn⟩ : ∃ rn, rn = x.toNat % 8 + 1 := ⟨_, rfl⟩
        rw [← hrn] at HMR hsl ⊢
        have HSL := Lib.hid hsl
        have HROW : Hid (Row wc 22 1 (.slice va i vc) i (bsv K)) := Lib.hid (by have := HL2.out.row; rw [hKl] at this; exact this)
        clear hrn hsl
        go_wp2_with (first | (refine wpList_append_to (n := i) (m := 1) elem_bs rfl _ _ rfl (v := .slice va i vc) rfl rfl (HROW.out.ext ((Ext.refl wc).alloc _)) (src_bs (x := ⟨ra, rn, rc, someR i x⟩) (heap_alloc_new wc _)) (by unfold maxLen; omega) (by omega) ?_; intro v3 w3 happ; obtain ⟨a3, c3, rfl⟩ := happ.row.shape; have HAPP := Lib.hid happ; clear happ))
        go_roundw
        case rel =>
          refine ⟨i + 1, a3, c3, K ++ [⟨ra, rn, rc, someR i x⟩], by go_num, rfl, by omega, by omega, by simp [hKl], Lib.hid ⟨?_, ?_⟩⟩
          · have hgd : bs.getD i 0 = x := by rw [List.getD_eq_getElem?_getD, HX.out]; rfl
            rw [someP_step, hgd, ← HH.out.1]
            simp [bsl]
          · have happ := HAPP.out
            have h2 := HL2.out
            rw [← hKl] at happ
            have := h2.snoc (x := ⟨ra, rn, rc, someR i x⟩) ⟨HMR.out.row.src (u8s_one _), rowB_le HMR.out.row⟩ (fun g hg => ⟨?_, HMR.out.row.lt hg, fun e => ?_⟩) ((Ext.refl wc).alloc _) happ
            · simpa [hKl] using this
            · have h3 := HMR.out.own g hg
              have := HH.out.2.ext.size
              omega
            · have h3 := HMR.out.own g hg
              have := HH.out.2.row.lt e
              omega
        case measure => simp [RowKit.intOf]; omega
    · have hi : i = min n 60 := by omega
      have hst : ¬ (i : Int) < (n : Int) ∨ ((i : Int) < (n : Int) ∧ ¬ (i : Int) < 60) := by omega
      have HE : Hid (bsl K = someL bs) := Lib.hid (by rw [HH.out.1]; unfold someL; rw [HN.out, ← hi])
      clear hi hstop
      subst hKl
      rcases hst with hst | ⟨hst, hst2⟩
      all_goals
        go_wp2_with fail
        go_ret
        exact ⟨va, vc, K, rfl, HE.out, HH.out.2⟩
end Go.Proofs.YtfablbhkmddnbaaDoor
