/- The law's records: some. -/
import Derived.Test.YtfablbhkmddnbaaDoorWl8
import Derived.Test.YtfablbhkmddnbaaDoorWtq
import Derived.Test.YtfablbhkmddnbaaDoorWlb
import Derived.Test.YtfablbhkmddnbaaDoorDip
namespace Go.Proofs.YtfablbhkmddnbaaDoor
open Go.RowKit Go.Sort Go.Lib

/-- The records of the law: one for each of the first bytes. -/
def someR (i : Nat) (c : UInt8) : List UInt8 := UInt8.ofNat i :: List.replicate (c.toNat % 8) c
def someP (bs : List UInt8) (k : Nat) : List (List UInt8) := (List.range k).map fun i => someR i (bs.getD i 0)
def someL (bs : List UInt8) : List (List UInt8) := someP bs (min bs.length 60)
theorem someP_step (bs : List UInt8) (k : Nat) : someP bs (k + 1) = someP bs k ++ [someR k (bs.getD k 0)] := by
  unfold someP
  rw [List.range_succ, List.map_append]
  rfl
theorem someR_len (i : Nat) (c : UInt8) : 1 ≤ (someR i c).length ∧ (someR i c).length ≤ 8 := by
  unfold someR
  rw [List.length_cons, List.length_replicate]
  have := Nat.mod_lt c.toNat (show 0 < 8 by omega)
  omega
theorem someL_len (bs : List UInt8) : (someL bs).length = min bs.length 60 := by simp [someL, someP]
theorem someL_small (bs : List UInt8) : ∀ r ∈ someL bs, 1 ≤ r.length ∧ r.length ≤ 8 := by
  intro r hr
  unfold someL someP at hr
  obtain ⟨i, _, rfl⟩ := List.mem_map.1 hr
  exact someR_len _ _
theorem u8_and7 (x : UInt8) : bits .and .u8 (x.toNat : Int) 7 = ((x.toNat % 8 : Nat) : Int) := by
  have h : (BitVec.ofInt 8 7).toNat = 2 ^ 3 - 1 := by decide
  have hx := x.toNat_lt
  have key : (BitVec.ofInt 8 (x.toNat : Int) &&& BitVec.ofInt 8 7).toNat = x.toNat % 2 ^ 3 := by
    rw [BitVec.toNat_and, h, Nat.and_two_pow_sub_one_eq_mod, BitVec.toNat_ofInt]
    congr 1
    omega
  show IntKind.u8.wrap ((BitVec.ofInt 8 (x.toNat : Int) &&& BitVec.ofInt 8 7).toNat : Nat) = _
  rw [key, IntKind.wrap_u8]
  omega

/-- Lists of bytes that were made since a world. -/
structure LsB (w0 : World) (V : Value) (K : List Bs) (w : World) : Prop where
  row : Row w 22 1 V K.length (bsv K)
  ok : ∀ x ∈ K, x.Ok w
  own : ∀ g, V.ownBlock = some g → w0.heap.size ≤ g
  fr : ∀ x ∈ K, ∀ g, x.v.ownBlock = some g → w0.heap.size ≤ g ∧ g < w.heap.size ∧ V.ownBlock ≠ some g
  ext : Ext w0 w
theorem LsB.next {w0 w w' : World} {V : Value} {K : List Bs} (h : LsB w0 V K w) (hx : Ext w w') : LsB w0 V K w' :=
  ⟨h.row.ext hx, fun x hx' => (h.ok x hx').ext hx, h.own, fun x hx' g hg => ⟨(h.fr x hx' g hg).1, by have := (h.fr x hx' g hg).2.1; have := hx.size; omega, (h.fr x hx' g hg).2.2⟩, h.ext.trans hx⟩
theorem LsB.snoc {w0 w w1 w2 : World} {V v' : Value} {K : List Bs} {x : Bs} (h : LsB w0 V K w) (hx : x.Ok w) (hf : ∀ g, x.v.ownBlock = some g → w0.heap.size ≤ g ∧ g < w.heap.size ∧ V.ownBlock ≠ some g) (h1 : Ext w w1) (ha : Appended w1 22 1 V (K.length + 1) (bsv K ++ bsv [x]) v' w2) : LsB w0 v' (K ++ [x]) w2 := by
  have hs1 := h1.size
  have hs0 := h.ext.size
  have hs2 := ha.chg.size
  have hloc : ∀ g, v'.ownBlock = some g → V.ownBlock = some g ∨ w1.heap.size ≤ g := fun g hg => by
    rcases ha.loc with e | e
    · exact .inl (e ▸ hg)
    · rw [e] at hg; simp at hg; exact .inr (by omega)
  have key : ∀ z : Bs, z.Ok w → (∀ g, z.v.ownBlock = some g → V.ownBlock ≠ some g) → z.Ok w2 := fun z hz hza => (hz.ext h1).chg ha.chg hza
  refine ⟨by simpa [bsv] using ha.row, fun y hy => ?_, fun g hg => ?_, fun y hy g hg => ?_, ((Chg.of_ext (h.ext.trans h1)).trans ha.chg (fun _ _ e => e)).ext (fun i hi e => by have := h.own i e; omega)⟩
  · rcases List.mem_append.1 hy with hy | hy
    · exact key y (h.ok y hy) (fun g hg => (h.fr y hy g hg).2.2)
    · simp at hy; subst hy; exact key _ hx (fun g hg => (hf g hg).2.2)
  · rcases hloc g hg with e | e
    · exact h.own g e
    · omega
  · have hyf : w0.heap.size ≤ g ∧ g < w.heap.size ∧ V.ownBlock ≠ some g := by
      rcases List.mem_append.1 hy with hy | hy
      · exact h.fr y hy g hg
      · simp at hy; subst hy; exact hf g hg
    refine ⟨hyf.1, by omega, fun e => ?_⟩
    rcases hloc g e with e | e
    · exact hyf.2.2 e
    · omega

set_option maxHeartbeats 8000000 in
set_option maxRecDepth 100000 in
theorem some_any (w : World) (a : Option Addr) (n c : Nat) (bs : List UInt8) (hs : Src w 1 (.slice a n c) n (u8s bs)) (hn : n ≤ 9223372036854775807) :
    Calls Tryd.prog 7 #[.slice a n c] w fun e w' => ∃ va vc K, e = .returned (.slice va K.length vc) ∧ bsl K = someL bs ∧ LsB w (.slice va K.length vc) K w' := by
  have HS := Lib.hid hs
  have HN := Lib.hid (u8s_src_len hs)
  clear hs
  go_enter Tryd.func7, Tryd.ntmps7
  go_wp2_with fail
  go_loopw [4, 3, 5, 6] (fun s4 s3 s5 s6 wr => ∃ (i : Nat) (va : Option Addr) (vc : Nat) (K : List Bs), s4 = .int .i64 (i : Int) ∧ s3 = .slice va i vc ∧ i ≤ n ∧ i ≤ 60 ∧ K.length = i ∧ Hid (bsl K = someP bs i ∧ LsB w (.slice va K.length vc) K wr)) (fun s4 _ _ _ _ => 60 - (RowKit.intOf s4).toNat)
  case atStart => exact ⟨0, none, 0, [], by go_num, rfl, by omega, by omega, rfl, Lib.hid ⟨rfl, Row.nil _ _ _, by simp, fun g hg => by simp [Value.ownBlock] at hg, by simp, Ext.refl _⟩⟩
  case round =>
    obtain ⟨i, va, vc, K, rfl, rfl, hin, hi60, hKl, HH⟩ := hrel
    rcases Classical.em (i < n ∧ i < 60) with ⟨hlt, hlt60⟩ | hstop
    · obtain ⟨sb, so, x, rfl, hx, cx⟩ := byte_src (HS.out.ext HH.out.2.ext) hlt
      have hlti : (i : Int) < (n : Int) := by omega
      have h60i : (i : Int) < 60 := by omega
      have HX := Lib.hid hx
      have HCX := Lib.hid (fun W (hW : Ext wr W) => (hW.cell (World.block_lt_of_cell? wr _ cx)).trans cx)
      clear hx cx
      go_upto_region 6 with fail
      obtain ⟨g, hg⟩ : ∃ g, g = wr.heap.size := ⟨_, rfl⟩
      rw [← hg]
      generalize hW : World.alloc _ _ = W
      have hib : (i : Int) % 256 = (i : Int) := by omega
      have HM : Hid (MadeTo wr 5 1 (.slice (some ⟨g, 0, none⟩) 1 1) 1 (u8s [UInt8.ofNat i]) W) := Lib.hid (by
        have hiu : (UInt8.ofNat i).toNat = i := by rw [UInt8.toNat_ofNat']; omega
        refine ⟨⟨rfl, .inr ⟨g, 1, _, rfl, Nat.zero_le _, by rw [← hW, hg]; exact heap_alloc_new wr _, Nat.le_refl _, by unfold maxLen; omega, rfl, by simp [u8s, hiu]⟩⟩, fun g' hg' => ?_, by rw [← hW]; exact (Ext.refl wr).alloc _⟩
        have e2 : g = g' := Option.some.inj hg'
        omega)
      clear hW hg hib
      go_upto_block 2 with fail
      go_cut [5] (fun s5 wx => ∃ (ra : Option Addr) (rc : Nat), s5 = .slice ra (x.toNat % 8 + 1) rc ∧ Hid (MadeTo wr 5 1 (.slice ra (x.toNat % 8 + 1) rc) (x.toNat % 8 + 1) (u8s (someR i x)) wx))
      case first =>
        go_wp2_with fail
        go_loopw [6, 5] (fun s6 s5 wq => ∃ (k : Nat) (ra : Option Addr) (rc : Nat), s6 = .int .i64 (k : Int) ∧ k ≤ x.toNat % 8 ∧ s5 = .slice ra (k + 1) rc ∧ Hid (MadeTo wr 5 1 (.slice ra (k + 1) rc) (k + 1) (u8s (UInt8.ofNat i :: List.replicate k x)) wq)) (fun s6 _ _ => 8 - (RowKit.intOf s6).toNat)
        case atStart => exact ⟨0, _, _, by go_num, by omega, rfl, HM⟩
        case round =>
          obtain ⟨k, ra, rc, rfl, hk, rfl, HMk⟩ := hrel
          have cx := HCX.out wr HMk.out.ext
          have h7 := u8_and7 x
          have h8 : x.toNat % 8 < 8 := Nat.mod_lt _ (by omega)
          have HSR : Hid (someR i x = UInt8.ofNat i :: List.replicate (x.toNat % 8) x) := Lib.hid rfl
          generalize x.toNat % 8 = m at *
          rcases Nat.lt_or_ge k m with hkm | hkm
          · have hkmi : (k : Int) < (m : Int) := by omega
            go_wp2_with (first | (refine wpList_append_to (n := k + 1) (m := 1) byt_elem rfl _ _ rfl (v := .slice ra (k + 1) rc) rfl rfl (HMk.out.row.ext ((Ext.refl wr).alloc _)) (byt_src (x := x) (heap_alloc_new wr _)) (by unfold maxLen; omega) (by omega) ?_; intro v3 w3 happ; obtain ⟨a3, c3, rfl⟩ := happ.row.shape; have H3 := Lib.hid (HMk.out.more ((Ext.refl wr).alloc _) happ); clear happ cx))
            go_roundw
            case rel =>
              refine ⟨k + 1, a3, c3, by go_num, by omega, rfl, Lib.hid ?_⟩
              have := H3.out
              rw [← u8s_append] at this
              rw [List.replicate_succ', ← List.cons_append]
              exact this
            case measure => simp [RowKit.intOf]; omega
          · obtain rfl : k = m := by omega
            go_wp2_with fail
            go_meet
            case rel => exact ⟨ra, rc, rfl, Lib.hid (by rw [HSR.out]; exact HMk.out)⟩
      case rest =>
        obtain ⟨ra, rc, rfl, HMR⟩ := hcut
        have HL2 := Lib.hid (HH.out.2.next HMR.out.ext)
        have hsl : (someR i x).length = x.toNat % 8 + 1 := by simp [someR]
        obtain ⟨rn, hrn⟩ : ∃ rn, rn = x.toNat % 8 + 1 := ⟨_, rfl⟩
        rw [← hrn] at HMR hsl ⊢
        have HSL := Lib.hid hsl
        have HROW : Hid (Row wc 22 1 (.slice va i vc) i (bsv K)) := Lib.hid (by have := HL2.out.row; rw [hKl] at this; exact this)
        clear hrn hsl
        go_wp2_with (first | (refine wpList_append_to (n := i) (m := 1) elem_bs rfl _ _ rfl (v := .slice va i vc) rfl rfl (HROW.out.ext ((Ext.refl wc).alloc _)) (src_bs (x := ⟨ra, rn, rc, someR i x⟩) (heap_alloc_new wc _)) (by unfold maxLen; omega) (by omega) ?_; intro v3 w3 happ; obtain ⟨a3, c3, rfl⟩ := happ.row.shape; have HAPP := Lib.hid happ; clear happ))
        go_roundw
        case rel =>
          refine ⟨i + 1, a3, c3, K ++ [⟨ra, rn, rc, someR i x⟩], by go_num, rfl, by omega, by omega, by simp [hKl], Lib.hid ⟨?_, ?_⟩⟩
          · have hgd : bs.getD i 0 = x := by rw [List.getD_eq_getElem?_getD, HX.out]; rfl
            rw [someP_step, hgd, ← HH.out.1]
            simp [bsl]
          · have happ := HAPP.out
            have h2 := HL2.out
            rw [← hKl] at happ
            have := h2.snoc (x := ⟨ra, rn, rc, someR i x⟩) ⟨HMR.out.row.src (u8s_one _), rowB_le HMR.out.row⟩ (fun g hg => ⟨?_, HMR.out.row.lt hg, fun e => ?_⟩) ((Ext.refl wc).alloc _) happ
            · simpa [hKl] using this
            · have h3 := HMR.out.own g hg
              have := HH.out.2.ext.size
              omega
            · have h3 := HMR.out.own g hg
              have := HH.out.2.row.lt e
              omega
        case measure => simp [RowKit.intOf]; omega
    · have hi : i = min n 60 := by omega
      have hst : ¬ (i : Int) < (n : Int) ∨ ((i : Int) < (n : Int) ∧ ¬ (i : Int) < 60) := by omega
      have HE : Hid (bsl K = someL bs) := Lib.hid (by rw [HH.out.1]; unfold someL; rw [HN.out, ← hi])
      clear hi hstop
      subst hKl
      rcases hst with hst | ⟨hst, hst2⟩
      all_goals
        go_wp2_with fail
        go_ret
        exact ⟨va, vc, K, rfl, HE.out, HH.out.2⟩
end Go.Proofs.YtfablbhkmddnbaaDoor

/-! WalBits: the walk. -/

namespace Go.Proofs.YtfablbhkmddnbaaDoor
open Go.RowKit Go.Sort Go.Lib

/-- The law's log of one file, in memory. -/
structure OneAt (w2 : World) (lg d k : Nat) (limit : Int) (rs : List (List UInt8)) (F : List Nat) (wr : World) : Prop where
  log : LogAt wr lg d (L1 limit rs) (S1 100000 rs) F
  fr : ∀ b ∈ F, w2.heap.size ≤ b
  inv : DInv (S1 100000 rs) k
  ext : Ext w2 wr
theorem OneAt.next {w2 wr w' : World} {lg d k : Nat} {limit : Int} {rs : List (List UInt8)} {F : List Nat} (h : OneAt w2 lg d k limit rs F wr) (hx : Ext wr w') : OneAt w2 lg d k limit rs F w' := ⟨h.log.ext hx, h.fr, h.inv, h.ext.trans hx⟩
theorem OneAt.add {w2 wr w' : World} {lg d k : Nat} {limit : Int} {rs : List (List UInt8)} {r : List UInt8} {F : List Nat} (h : OneAt w2 lg d k limit rs F wr) (hrs : ∀ x ∈ rs, x.length ≤ 8) (hr : r.length ≤ 8) (hn : rs.length < 60) (hl : 10000 ≤ limit)
    (ht : LogTo wr lg d F (addW (L1 limit rs) (S1 100000 rs) r).2.1 (addW (L1 limit rs) (S1 100000 rs) r).2.2 w') : (addW (L1 limit rs) (S1 100000 rs) r).1 = 0 ∧ ∃ F', OneAt w2 lg d (k + 2) limit (rs ++ [r]) F' w' ∧ ∀ b ∈ F', b ∈ F ∨ wr.heap.size ≤ b := by
  have hb := b1_small hrs
  have ha := addW_one (limit := limit) (room := 100000) (rs := rs) (r := r) (by omega) (by omega) (by omega) (by omega)
  have hi := addW_inv (L := L1 limit rs) h.inv r
  rw [ha] at ht hi ⊢
  obtain ⟨F', h1, h2, h3⟩ := ht
  refine ⟨rfl, F', ⟨h1, fun b hb => ?_, hi, ((Chg.of_ext (S := (· ∈ F)) h.ext).trans h2 (fun _ _ e => e)).ext (fun i hi e => by have := h.fr i e; omega)⟩, h3⟩
  rcases h3 b hb with e | e
  · exact h.fr b e
  · have := h.ext.size; omega
theorem OneAt.app {w2 w4 w' w5 : World} {lg d k m : Nat} {limit : Int} {rs : List (List UInt8)} {F : List Nat} {V v' : Value} {ys : List Value} (h : OneAt w2 lg d k limit rs F w4) (h1 : Ext w4 w') (ha : Appended w' 3 1 V m ys v' w5) (ho : ∀ g, V.ownBlock = some g → w2.heap.size ≤ g ∧ g ∉ F) :
    OneAt w2 lg d k limit rs F w5 ∧ ∀ g, v'.ownBlock = some g → w2.heap.size ≤ g ∧ g ∉ F := by
  have hlt := h.log.lt
  have hs1 := h1.size
  have hs2 := h.ext.size
  refine ⟨⟨?_, h.fr, h.inv, ((Chg.of_ext (S := fun k => V.ownBlock = some k) (h.ext.trans h1)).trans ha.chg (fun _ _ e => e)).ext (fun g hg e => by have := (ho g e).1; omega)⟩, fun g hg => ?_⟩
  · obtain ⟨V0, B0, hb, rfl⟩ := h.log
    exact ⟨V0, B0, (hb.ext h1).chg ha.chg (fun b hb e => (ho b e).2 hb), rfl⟩
  · rcases ha.loc with e | e
    · exact ho g (by rw [← e]; exact hg)
    · rw [e] at hg
      have : w'.heap.size = g := Option.some.inj hg
      exact ⟨by omega, fun hm => by have := hlt g hm; omega⟩
theorem src_nt2 {W : World} {b n m : Nat} {x y : Int} {t : TypeId} {fr : Nat × Nat} (hx : x = (n : Int)) (hy : y = (m : Int)) (h : W.heap[b]? = some (.cells #[.int .i64 x, .int .i64 y] t fr)) : Src W 1 (.slice (some ⟨b, 0, none⟩) 2 2) 2 (nts [n, m]) := by
  subst hx hy
  refine .inr ⟨_, _, rfl, rfl, fun j u hj => ?_, nts_one _⟩
  rw [Go.WideShapes.add_plain, Nat.zero_add, cell_of_block h]
  simpa [nts] using hj
theorem u32_mask (b left : Nat) (h : b < 4294967296) (hl : left < 32) : bits .and .u32 (b : Int) ((2 ^ left - 1) % 4294967296) = ((b % 2 ^ left : Nat) : Int) := by
  have hp : 2 ^ left ≤ 2 ^ 31 := Nat.pow_le_pow_right (by omega) (by omega)
  have hp0 : 0 < 2 ^ left := Nat.two_pow_pos _
  have e : ((2 : Int) ^ left - 1) % 4294967296 = ((2 ^ left - 1 : Nat) : Int) := by
    have : (2 : Int) ^ left = ((2 ^ left : Nat) : Int) := by push_cast; rfl
    rw [this]; omega
  rw [e]
  show IntKind.u32.wrap ((BitVec.ofInt 32 (b : Int) &&& BitVec.ofInt 32 ((2 ^ left - 1 : Nat) : Int)).toNat : Nat) = _
  rw [BitVec.toNat_and, BitVec.toNat_ofInt, BitVec.toNat_ofInt]
  have e1 : ((b : Int) % ((2 ^ 32 : Nat) : Int)).toNat = b := by omega
  have e2 : (((2 ^ left - 1 : Nat) : Int) % ((2 ^ 32 : Nat) : Int)).toNat = 2 ^ left - 1 := by omega
  rw [e1, e2, Nat.and_two_pow_sub_one_eq_mod, IntKind.wrap_u32]
  have := Nat.mod_le b (2 ^ left)
  omega
theorem bits_range (c : Int) (n : Nat) (hn : 0 < n) : 0 ≤ (Int.tmod c (n : Int) + n) % (n : Int) ∧ (Int.tmod c (n : Int) + n) % (n : Int) < n ∧ -(n : Int) < Int.tmod c (n : Int) ∧ Int.tmod c (n : Int) < n := by
  have h1 := Int.emod_nonneg (Int.tmod c (n : Int) + n) (show (n : Int) ≠ 0 by omega)
  have h2 := Int.emod_lt_of_pos (Int.tmod c (n : Int) + n) (show (0 : Int) < (n : Int) by omega)
  have key : ∀ d : Int, 0 ≤ d → 0 ≤ Int.tmod d (n : Int) ∧ Int.tmod d (n : Int) < n := by
    intro d hd
    rw [Int.tmod_eq_emod_of_nonneg hd]
    exact ⟨Int.emod_nonneg d (by omega), Int.emod_lt_of_pos d (by omega)⟩
  refine ⟨h1, h2, ?_⟩
  rcases Int.le_total 0 c with h | h
  · have := key c h; omega
  · have := key (-c) (by omega)
    rw [Int.neg_tmod] at this; omega

set_option maxHeartbeats 16000000 in
set_option maxRecDepth 100000 in
theorem walBits_any (w : World) (a : Option Addr) (n c : Nat) (bs : List UInt8) (hs : Src w 1 (.slice a n c) n (u8s bs)) (hn : n ≤ 9223372036854775807) (at' : Int) (by' : Nat) (hat : -9223372036854775808 ≤ at' ∧ at' ≤ 9223372036854775807) (hby : by' < 4294967296) (hg : HasET w) :
    Calls Tryd.prog 3 #[.slice a n c, .int .i64 at', .int .u32 (by' : Int)] w fun e w' => e = .returned (.bool true) ∧ Ext w w' := by
  have HS := Lib.hid hs
  have HG := Lib.hid hg
  have HBY := Lib.hid hby
  have HAT := Lib.hid hat
  clear hs hg hby hat
  go_enter Tryd.func3, Tryd.ntmps3
  go_wp2_with fail
  refine (some_any w a n c bs HS.out hn).mono ?_
  rintro e w1 ⟨ka, kc, K, rfl, hk, hlb⟩
  have HLB := Lib.hid hlb
  have HKL : Hid (K.length ≤ 60) := Lib.hid (by rw [← bsl_len, hk, someL_len]; omega)
  have HSM : Hid (∀ r ∈ bsl K, r.length ≤ 8) := Lib.hid (fun r hr => by rw [hk] at hr; exact (someL_small bs r hr).2)
  clear hk hlb HS
  go_wp2_with fail
  refine (disk_new (by omega) (by omega) w1).mono ?_
  rintro e w2 ⟨rfl, hd, hx⟩
  obtain ⟨d, hde⟩ : ∃ d, d = w1.heap.size + 1 := ⟨_, rfl⟩
  rw [← hde] at hd ⊢
  have HD := Lib.hid hd
  have HX2 := Lib.hid hx
  have HDE := Lib.hid hde
  have HG2 : Hid (HasET w2) := Lib.hid (HG.out.ext (HLB.out.ext.trans hx))
  clear hd hx hde
  go_wp2_with fail
  refine (logopen_any (k := 0) (by omega) (newDisk_inv' (by omega) (by omega)) HD.out 1048576 (by omega) HG2.out (fun e => by have h1 := HG.out.lt; have h2 := HLB.out.ext.size; have := HDE.out; simp at e; omega)).mono ?_
  rintro e w3 ho
  rw [open_new] at ho
  obtain ⟨lg, oa, oc, K0, F, rfl, hla, hfr, hk0, -⟩ := ho.good rfl
  simp only at hla hk0
  obtain rfl : K0 = [] := by
    cases K0 with
    | nil => rfl
    | cons x K => simp [bsl] at hk0
  have H1 : Hid (OneAt w1 lg d 0 1048576 [] F w3) := Lib.hid (by
    obtain ⟨B', h1, h2, h3⟩ := ho.disk
    refine ⟨by rw [L1_nil, S1_nil]; exact hla, fun b hb => ?_, by rw [S1_nil]; exact newDisk_inv' (by omega) (by omega), ((Chg.of_ext (S := (· ∈ [d, w1.heap.size])) HX2.out).trans h2 (fun _ _ e => e)).ext (fun i hi e => by have := HDE.out; simp at e; omega)⟩
    rcases hfr b hb with e | e
    · have := HDE.out; simp at e; omega
    · have := HX2.out.size; omega)
  clear ho hla hfr hk0 HD HX2 HDE HG2
  go_wp2_with fail
  go_loopw [14, 12, 13] (fun s14 s12 s13 wr => ∃ (i : Nat) (ea : Option Addr) (ec : Nat) (F : List Nat), s14 = .int .i64 (i : Int) ∧ i ≤ K.length ∧ s12 = .slice ea (2 * i) ec ∧ s13 = .int .i64 (((b1 ((bsl K).take i)).length : Nat) : Int) ∧
    Hid (OneAt w1 lg d (2 * i) 1048576 ((bsl K).take i) F wr ∧ Row wr 3 1 (.slice ea (2 * i) ec) (2 * i) (nts (endsL ((bsl K).take i) 0)) ∧ (∀ g, (Value.slice ea (2 * i) ec).ownBlock = some g → w1.heap.size ≤ g ∧ g ∉ F))) (fun s14 _ _ _ => K.length - (RowKit.intOf s14).toNat)
  case atStart => exact ⟨0, none, 0, F, by go_num, by omega, rfl, by simp [b1], Lib.hid ⟨H1.out, Row.nil _ _ _, fun g hg => by simp [Value.ownBlock] at hg⟩⟩
  case round =>
    clear H1
    obtain ⟨i, ea, ec, F, rfl, hi, rfl, rfl, HH⟩ := hrel
    have hkl := HKL.out
    rcases Nat.lt_or_ge i K.length with hlt | hge
    · obtain ⟨kb, ko, x, rfl, hx, cx⟩ := bls_src (HLB.out.row.src (bsv_one _)) hlt
      have hmem : x ∈ K := List.mem_of_getElem? hx
      have hxl : x.l.length ≤ 8 := HSM.out x.l (List.mem_map.2 ⟨x, hmem, rfl⟩)
      have hxn : x.n ≤ 8 := by rw [← (HLB.out.ok x hmem).len]; exact hxl
      have HXO := Lib.hid (HLB.out.ok x hmem)
      have HXL := Lib.hid hxl
      have HCX := Lib.hid (fun W (hW : Ext w1 W) => (hW.cell (World.block_lt_of_cell? w1 _ cx)).trans cx)
      have HNX : Hid ((bsl K).take (i + 1) = (bsl K).take i ++ [x.l]) := Lib.hid (by rw [List.take_add_one]; simp [bsl, hx])
      have HTS : Hid (∀ r ∈ (bsl K).take i, r.length ≤ 8) := Lib.hid (fun r hr => HSM.out r (List.mem_of_mem_take hr))
      have HTL : Hid (((bsl K).take i).length = i) := Lib.hid (by rw [List.length_take, bsl_len]; omega)
      have HB1 : Hid ((b1 ((bsl K).take (i + 1))).length = (b1 ((bsl K).take i)).length + 22 + x.n) := Lib.hid (by rw [HNX.out, b1_snoc, List.length_append, recL_len, HXO.out.len]; omega)
      have HEN : Hid (nts (endsL ((bsl K).take (i + 1)) 0) = nts (endsL ((bsl K).take i) 0) ++ nts [(b1 ((bsl K).take i)).length + 13, (b1 ((bsl K).take i)).length + 22 + x.n]) := Lib.hid (by rw [HNX.out, endsL_snoc, Nat.zero_add, HXO.out.len]; simp [nts])
      have hz := b1_small HTS.out
      rw [HTL.out] at hz
      have HONE := Lib.hid HH.out.1
      have HROW := Lib.hid HH.out.2.1
      have HOWN := Lib.hid HH.out.2.2
      clear HH hxl hx cx hmem
      generalize (bsl K).take i = rs at *
      obtain ⟨z, hzz⟩ : ∃ z, z = (b1 rs).length := ⟨_, rfl⟩
      rw [← hzz] at hz HB1 HEN ⊢
      clear hzz
      have cx := HCX.out wr HONE.out.ext
      go_wp2_with fail
      refine (logadd_any (N := 10000) (by omega) HONE.out.inv HONE.out.log (by omega) (L1_bd HTS.out (by rw [HTL.out]; omega) (by omega)) (by have := L1_files (limit := 1048576) (rs := rs); omega) x.a x.n x.c x.l (HXO.out.src.ext HONE.out.ext)).mono ?_
      rintro e w4 ⟨rfl, ht⟩
      obtain ⟨F1, htl, htc, htf⟩ := id ht
      obtain ⟨h0, F', hone, hF'⟩ := HONE.out.add HTS.out HXL.out (by rw [HTL.out]; omega) (by omega) ht
      rw [h0]
      clear cx h0
      have cx := HCX.out w4 hone.ext
      have HO4 := Lib.hid hone
      have HF4 := Lib.hid hF'
      have HROW4 : Hid (Row w4 3 1 (.slice ea (2 * i) ec) (2 * i) (nts (endsL rs 0))) := Lib.hid (HROW.out.chg htc (fun g hg => (HOWN.out g hg).2))
      have HOW4 : Hid (∀ g, (Value.slice ea (2 * i) ec).ownBlock = some g → w1.heap.size ≤ g ∧ g ∉ F') := Lib.hid (fun g hg => ⟨(HOWN.out g hg).1, fun hm => by
        rcases hF' g hm with e | e
        · exact (HOWN.out g hg).2 e
        · have := HROW.out.lt hg; omega⟩)
      clear ht htl htc htf hone hF'
      go_wp2_with (first | (refine wpList_append_to (n := 2 * i) (m := 2) elem_nt rfl _ _ rfl (v := .slice ea (2 * i) ec) rfl rfl (HROW4.out.ext ((Ext.refl w4).alloc _)) (src_nt2 (n := z + 13) (m := z + 22 + x.n) (by omega) (by omega) (heap_alloc_new w4 _)) (by unfold maxLen; omega) (by omega) ?_; intro v5 w5 happ; obtain ⟨a5, c5, rfl⟩ := happ.row.shape; have H5 := Lib.hid (HO4.out.app ((Ext.refl w4).alloc _) happ HOW4.out); have HR5 := Lib.hid happ.row; have cx5 := HCX.out w5 H5.out.1.ext; clear happ cx))
      go_roundw
      case rel =>
        refine ⟨i + 1, a5, c5, F', by go_num, by omega, rfl, ?_, Lib.hid ⟨?_, ?_, ?_⟩⟩
        · rw [HB1.out]; go_num
        · rw [HNX.out]; exact H5.out.1
        · rw [HEN.out]; exact HR5.out
        · exact H5.out.2
      case measure => simp [RowKit.intOf]; omega
    · obtain rfl : i = K.length := by omega
      have hall : (bsl K).take K.length = bsl K := List.take_of_length_le (by rw [bsl_len]; omega)
      rw [hall] at HH ⊢
      have HO := Lib.hid HH.out.1
      have HR := Lib.hid HH.out.2.1
      obtain ⟨V, B, hlog, hFe⟩ := HH.out.1.log
      have HD := Lib.hid hlog.disk
      have HBF : Hid (∀ b ∈ B, w1.heap.size ≤ b) := Lib.hid (fun b hb => HO.out.fr b (by rw [hFe]; exact lfoot_disk hb))
      have HGW : Hid (HasET w1) := Lib.hid (HG.out.ext HLB.out.ext)
      have HGB : Hid (∀ b, w1.heap.size ≤ b → 0 ≠ b) := Lib.hid (fun b hb e => by have h1 := HGW.out.lt; omega)
      have HLEN := Lib.hid (bsl_len K)
      have HEXT := Lib.hid HLB.out.ext
      clear HH hlog hFe hall hi hge HLB HG
      generalize hKN : K.length = kn at *
      generalize bsl K = rs at *
      clear hKN
      rcases Nat.eq_zero_or_pos kn with hk0 | hkp
      · obtain rfl : rs = [] := List.length_eq_zero_iff.1 (by rw [HLEN.out]; exact hk0)
        subst hk0
        have hz : (b1 []).length = 0 := rfl
        rw [hz]
        rw [S1_nil] at HD
        go_wp2_with fail
        refine (logopen_any (k := 0) (by omega) (newDisk_inv' (by omega) (by omega)) HD.out 5 (by omega) (HGW.out.ext HO.out.ext) (fun hm => HGB.out _ (HBF.out _ hm) rfl)).mono ?_
        rintro e w6 ho
        rw [open_new] at ho
        obtain ⟨lg6, a6, c6, K6, F6, rfl, -, -, hk6, -⟩ := ho.good rfl
        obtain ⟨B6, hd6, hc6, -⟩ := ho.disk
        have HX6 : Hid (Ext w w6) := Lib.hid (HEXT.out.trans (((Chg.of_ext (S := (· ∈ B)) HO.out.ext).trans hc6 (fun _ _ e => e)).ext (fun b hb e => by have := HBF.out b e; omega)))
        simp only at hk6
        have hk0 : K6.length = 0 := by rw [← bsl_len, hk6]; rfl
        rw [hk0]
        clear ho hd6 hc6 hk6 hk0
        go_wp2_with fail
        go_ret
        exact ⟨rfl, HX6.out⟩
      · have hne : rs ≠ [] := fun e => by have := HLEN.out; rw [e] at this; simp at this; omega
        have hN6 := b1_small HSM.out
        rw [HLEN.out] at hN6
        have hN0 : 0 < (b1 rs).length := by
          obtain ⟨r, q, rfl⟩ := List.exists_cons_of_ne_nil hne
          show 0 < (recL r ++ b1 q).length
          rw [List.length_append, recL_len]; omega
        have HEL : Hid ((endsL rs 0).length = 2 * kn) := Lib.hid (by rw [endsL_len, HLEN.out])
        have HLST : Hid (∀ k e, (endsL rs 0)[k]? = some e → k + 1 = 2 * kn → e = (b1 rs).length) := Lib.hid (fun k e h1 h2 => by have := ends_last rs 0 k e h1 (by rw [HLEN.out]; exact h2); omega)
        have HEB : Hid (∀ k e, (endsL rs 0)[k]? = some e → e ≤ 1800) := Lib.hid (fun k e h1 => by
          obtain ⟨A, M, C, e1, e2, -⟩ := ends_frame rs 0 k e (fun r hr => by have := HSM.out r hr; omega) h1
          have := congrArg List.length e1
          simp only [List.length_append] at this
          omega)
        have HFL : Hid (∀ p b : Nat, p < 8 * (b1 rs).length → (S1 100000 rs).flip (nameW 0) (p : Int) b = (0, ⟨[(nameW 0, ⟨flipL b p (b1 rs), 0, false⟩)], 100000, ((b1 rs).length : Nat), -1, (rs.length : Nat)⟩)) := Lib.hid (fun p b hp => flip_one hne hp)
        have hkl : kn ≤ 60 := HKL.out
        generalize hNN : (b1 rs).length = N at *
        obtain ⟨r1, r2, r3, r4⟩ := bits_range at' (8 * N) (by omega)
        rw [Int.natCast_mul] at r1 r2 r3 r4
        obtain ⟨p, hp⟩ : ∃ p : Nat, (at'.tmod (8 * (N : Int)) + 8 * (N : Int)) % (8 * (N : Int)) = (p : Int) := ⟨_, (Int.toNat_of_nonneg r1).symm⟩
        have hpn : p < 8 * N := by have := hp; have := r2; push_cast at *; omega
        rw [show ((8 : Nat) : Int) = 8 from rfl] at r1 r2 r3 r4
        have HP := Lib.hid hp
        have hN0i : ((N : Int) == 0) = false := by simp; omega
        have hat := HAT.out
        go_upto_region 21 with fail
        try rw [HP.out]
        clear r1 r2 r3 r4 hp hat
        go_wp2_with fail
        go_loopw [18] (fun s18 wz => ∃ k : Nat, s18 = .int .i64 (k : Int) ∧ k < 2 * kn ∧ wz = wr ∧ Hid (∀ e', 0 < k → (endsL rs 0)[k - 1]? = some e' → 8 * e' ≤ p)) (fun s18 _ => 2 * kn - (RowKit.intOf s18).toNat)
        case atStart => exact ⟨0, by go_num, by omega, rfl, Lib.hid (fun _ h => by omega)⟩
        case round =>
          obtain ⟨k, rfl, hk, rfl, HI⟩ := hrel
          obtain ⟨eb, eo, e, rfl, he, ce⟩ := nts_src (HR.out.src (nts_one _)) hk
          have hle := HEB.out k e he
          rcases Nat.lt_or_ge p (8 * e) with hpe | hpe
          · have HE := Lib.hid he
            obtain ⟨left, hleft⟩ : ∃ left : Nat, 8 * e = p + left := ⟨8 * e - p, by omega⟩
            have hl0 : 0 < left := by omega
            clear he
            rcases Nat.lt_or_ge left 32 with hl32 | hl32
            · have hcl : 8 * (e : Int) - (p : Int) < 32 := by omega
              go_upto_if 25 with fail
              clear ce
              rw [u32_mask by' left HBY.out hl32]
              have HB2 : Hid (by' % 2 ^ left < 4294967296 ∧ ∀ i, i < 32 → (by' % 2 ^ left).testBit i = true → p + i < 8 * e) := Lib.hid ⟨Nat.lt_of_le_of_lt (Nat.mod_le _ _) HBY.out, fun i _ h => by have := mask_bits h; omega⟩
              generalize by' % 2 ^ left = b2 at HB2 ⊢
              have HFI := Lib.hid (HO.out.inv.flip (nameW 0) (p : Int) b2)
              rw [HFL.out p b2 hpn] at HFI
              rw [← nameW0]
              refine (disk_flip HO.out.inv.ok HD.out (nameW 0) (p : Int) b2 HB2.out.1).mono ?_
              rintro e5 w5 ⟨rfl, hto⟩
              rw [HFL.out p b2 hpn] at hto ⊢
              simp only at hto
              obtain ⟨B5, hd5, hc5, hf5⟩ := hto
              have HD5 := Lib.hid hd5
              have HX5 : Hid (Ext w1 w5) := Lib.hid (((Chg.of_ext (S := (· ∈ B)) HO.out.ext).trans hc5 (fun _ _ e => e)).ext (fun b hb e => by have := HBF.out b e; omega))
              have HBF5 : Hid (∀ b ∈ B5, w1.heap.size ≤ b) := Lib.hid (fun b hb => by
                rcases hf5 b hb with e0 | e0
                · exact HBF.out b e0
                · have := HO.out.ext.size; omega)
              clear hd5 hc5 hf5
              go_wp2_with fail
              refine (logopen_any (k := 2 * kn) (by omega) HFI.out HD5.out 5 (by omega) (HGW.out.ext HX5.out) (fun hm => HGB.out _ (HBF5.out _ hm) rfl)).mono ?_
              rintro e6 w6 ho
              obtain ⟨B6, hd6, hc6, -⟩ := ho.disk
              have HX6 : Hid (Ext w w6) := Lib.hid (HEXT.out.trans (((Chg.of_ext (S := (· ∈ B5)) HX5.out).trans hc6 (fun _ _ e => e)).ext (fun b hb e => by have := HBF5.out b e; omega)))
              have hsm : ∀ r ∈ rs, r.length ≤ 65536 := fun r hr => by have := HSM.out r hr; omega
              clear hd6 hc6
              rcases Nat.eq_zero_or_pos b2 with hb0 | hb0
              · subst hb0
                obtain ⟨he6, hr6⟩ := bits_same (rs := rs) hsm (room := 100000) (u := (N : Int)) (o := (rs.length : Int)) (at' := p)
                obtain ⟨lg6, a6, c6, K6, F6, rfl, -, -, hk6, -⟩ := ho.good he6
                have hK6 : K6.length = kn := by rw [← bsl_len, hk6, hr6]; exact HLEN.out
                rw [hK6]
                clear ho hk6 hr6 he6 hK6 hsm
                go_wp2_with fail
                go_ret
                exact ⟨rfl, HX6.out⟩
              · have he6 := bits_open (rs := rs) hsm (room := 100000) (u := (N : Int)) (o := (rs.length : Int)) HE.out hpe (fun e' h1 h2 => HI.out e' h1 h2) HB2.out.2 HB2.out.1 (by omega)
                have hbad := ho.bad (by rw [he6]; decide)
                rw [he6] at hbad
                subst hbad
                have hb2 : ((b2 : Int) == 0) = false := by simp; omega
                clear ho he6 hsm
                go_wp2_with fail
                go_ret
                exact ⟨rfl, HX6.out⟩
            · have hcl : ¬ 8 * (e : Int) - (p : Int) < 32 := by omega
              go_upto_if 25 with fail
              clear ce
              have HB2 : Hid (by' < 4294967296 ∧ ∀ i, i < 32 → by'.testBit i = true → p + i < 8 * e) := Lib.hid ⟨HBY.out, fun i h _ => by omega⟩
              generalize by' = b2 at HB2 ⊢
              have HFI := Lib.hid (HO.out.inv.flip (nameW 0) (p : Int) b2)
              rw [HFL.out p b2 hpn] at HFI
              rw [← nameW0]
              refine (disk_flip HO.out.inv.ok HD.out (nameW 0) (p : Int) b2 HB2.out.1).mono ?_
              rintro e5 w5 ⟨rfl, hto⟩
              rw [HFL.out p b2 hpn] at hto ⊢
              simp only at hto
              obtain ⟨B5, hd5, hc5, hf5⟩ := hto
              have HD5 := Lib.hid hd5
              have HX5 : Hid (Ext w1 w5) := Lib.hid (((Chg.of_ext (S := (· ∈ B)) HO.out.ext).trans hc5 (fun _ _ e => e)).ext (fun b hb e => by have := HBF.out b e; omega))
              have HBF5 : Hid (∀ b ∈ B5, w1.heap.size ≤ b) := Lib.hid (fun b hb => by
                rcases hf5 b hb with e0 | e0
                · exact HBF.out b e0
                · have := HO.out.ext.size; omega)
              clear hd5 hc5 hf5
              go_wp2_with fail
              refine (logopen_any (k := 2 * kn) (by omega) HFI.out HD5.out 5 (by omega) (HGW.out.ext HX5.out) (fun hm => HGB.out _ (HBF5.out _ hm) rfl)).mono ?_
              rintro e6 w6 ho
              obtain ⟨B6, hd6, hc6, -⟩ := ho.disk
              have HX6 : Hid (Ext w w6) := Lib.hid (HEXT.out.trans (((Chg.of_ext (S := (· ∈ B5)) HX5.out).trans hc6 (fun _ _ e => e)).ext (fun b hb e => by have := HBF5.out b e; omega)))
              have hsm : ∀ r ∈ rs, r.length ≤ 65536 := fun r hr => by have := HSM.out r hr; omega
              clear hd6 hc6
              rcases Nat.eq_zero_or_pos b2 with hb0 | hb0
              · subst hb0
                obtain ⟨he6, hr6⟩ := bits_same (rs := rs) hsm (room := 100000) (u := (N : Int)) (o := (rs.length : Int)) (at' := p)
                obtain ⟨lg6, a6, c6, K6, F6, rfl, -, -, hk6, -⟩ := ho.good he6
                have hK6 : K6.length = kn := by rw [← bsl_len, hk6, hr6]; exact HLEN.out
                rw [hK6]
                clear ho hk6 hr6 he6 hK6 hsm
                go_wp2_with fail
                go_ret
                exact ⟨rfl, HX6.out⟩
              · have he6 := bits_open (rs := rs) hsm (room := 100000) (u := (N : Int)) (o := (rs.length : Int)) HE.out hpe (fun e' h1 h2 => HI.out e' h1 h2) HB2.out.2 HB2.out.1 (by omega)
                have hbad := ho.bad (by rw [he6]; decide)
                rw [he6] at hbad
                subst hbad
                have hb2 : ((b2 : Int) == 0) = false := by simp; omega
                clear ho he6 hsm
                go_wp2_with fail
                go_ret
                exact ⟨rfl, HX6.out⟩
          · have hk1 : k + 1 < 2 * kn := by
              rcases Nat.lt_or_ge (k + 1) (2 * kn) with h | h
              · exact h
              · have := HLST.out k e he (by omega); omega
            have HI' : Hid (∀ e', 0 < k + 1 → (endsL rs 0)[k + 1 - 1]? = some e' → 8 * e' ≤ p) := Lib.hid (fun e' _ h => by rw [Nat.add_sub_cancel, he] at h; have h2 := Option.some.inj h; omega)
            clear he
            go_wp2_with fail
            go_roundw
            case rel => exact ⟨k + 1, by go_num, hk1, by first | trivial | rfl, HI'⟩
            case measure => simp [RowKit.intOf]; omega
theorem walBits_int (w : World) (a : Option Addr) (n c : Nat) (bs : List UInt8) (hs : Src w 1 (.slice a n c) n (u8s bs)) (hn : n ≤ 9223372036854775807) (at' z : Int) (hat : -9223372036854775808 ≤ at' ∧ at' ≤ 9223372036854775807) (hz : 0 ≤ z ∧ z ≤ 4294967295) (hg : HasET w) :
    Calls Tryd.prog 3 #[.slice a n c, .int .i64 at', .int .u32 z] w fun e w' => e = .returned (.bool true) ∧ Ext w w' := by
  have := walBits_any w a n c bs hs hn at' z.toNat hat (by omega) hg
  rwa [Int.toNat_of_nonneg hz.1] at this
end Go.Proofs.YtfablbhkmddnbaaDoor
