/- Plain: the log: a record's bytes, the names of files, what is read of a file. -/
import Derived.Test.YtfablbhkmddnbaaDoorFop
import Derived.Test.YtfablbhkmddnbaaDoorStr
import Derived.Test.YtfablbhkmddnbaaDoorBls
import Derived.Test.YtfablbhkmddnbaaDoorFrl
namespace Go.Proofs.YtfablbhkmddnbaaDoor
open Go.RowKit Go.Sort Go.Lib

/-- A record's bytes in a file. -/
def recL (b : List UInt8) : List UInt8 := sealL 1 (le4 b.length) ++ sealL 2 b
theorem recL_len (b : List UInt8) : (recL b).length = b.length + 22 := by simp [recL, sealL_len, le4_len]; omega

/-! Names. -/
def digs : Nat → Nat → List UInt8
  | 0, _ => []
  | k + 1, n => digs k (n / 10) ++ [UInt8.ofNat (48 + n % 10)]
theorem digs_len : ∀ (k n : Nat), (digs k n).length = k
  | 0, _ => rfl
  | k + 1, n => by rw [digs, List.length_append, digs_len k]; rfl
def nameL (n : Nat) : List UInt8 := 119 :: digs 12 n
def nameW (n : Nat) : ByteArray := lb (nameL n)
theorem nameL_len (n : Nat) : (nameL n).length = 13 := by simp [nameL, digs_len]
def numD : Nat → List UInt8 → Option Nat
  | a, [] => some a
  | a, c :: l => if c.toNat < 48 ∨ 57 < c.toNat then none else numD (10 * a + (c.toNat - 48)) l
def numL (l : List UInt8) : Option Nat := if l.length ≠ 13 then none else numD 0 (l.drop 1)
theorem numD_append : ∀ (l k : List UInt8) (a : Nat), numD a (l ++ k) = (numD a l).bind fun x => numD x k
  | [], _, _ => rfl
  | c :: l, k, a => by
    rw [List.cons_append, numD, numD]
    split
    · rfl
    · exact numD_append l k _
theorem numD_digs : ∀ (k n a : Nat), numD a (digs k n) = some (a * 10 ^ k + n % 10 ^ k)
  | 0, n, a => by simp [digs, numD, Nat.mod_one]
  | k + 1, n, a => by
    rw [digs, numD_append, numD_digs k (n / 10) a]
    have hc : (UInt8.ofNat (48 + n % 10)).toNat = 48 + n % 10 := by
      have : n % 10 < 10 := Nat.mod_lt _ (by omega)
      rw [UInt8.toNat_ofNat']
      omega
    show numD _ [UInt8.ofNat (48 + n % 10)] = _
    rw [numD, hc, if_neg (by omega), numD]
    congr 1
    have h1 : n % 10 ^ (k + 1) = 10 * (n / 10 % 10 ^ k) + n % 10 := by
      rw [Nat.pow_succ, Nat.mul_comm (10 ^ k) 10, Nat.mod_mul]
      omega
    rw [h1, Nat.pow_succ]
    have h2 : a * (10 ^ k * 10) = 10 * (a * 10 ^ k) := by rw [← Nat.mul_assoc, Nat.mul_comm]
    rw [h2]
    omega
theorem numL_name {n : Nat} (hn : n < 1000000000000) : numL (nameL n) = some n := by
  unfold numL
  rw [if_neg (by rw [nameL_len]; simp)]
  show numD 0 (digs 12 n) = some n
  rw [numD_digs, Nat.zero_mul, Nat.zero_add, Nat.mod_eq_of_lt hn]

/-! What is read. -/
inductive OneR where
  | fin : OneR
  | bad : OneR
  | got : List UInt8 → Nat → OneR
def headW (b : List UInt8) : Nat := leN (openR (b.take 13)).2.1
def oneW (b : List UInt8) : OneR :=
  if b.length < 13 then .fin
  else if (openR (b.take 13)).2.2 ≠ 0 ∨ (openR (b.take 13)).1 ≠ 1 ∨ 65536 < headW b then .bad
  else if b.length < headW b + 22 then .fin
  else if (openR ((b.drop 13).take (headW b + 9))).2.2 ≠ 0 ∨ (openR ((b.drop 13).take (headW b + 9))).1 ≠ 2 then .bad
  else .got (openR ((b.drop 13).take (headW b + 9))).2.1 (headW b + 22)
inductive EndW where
  | done : EndW
  | torn : Nat → EndW
  | bad : EndW
/-- The records of a file from a byte on, and what ends them. -/
def eachW : Nat → Nat → List UInt8 → List (List UInt8) × EndW
  | 0, _, _ => ([], .done)
  | f + 1, at', b => if b = [] then ([], .done) else match oneW b with
    | .fin => ([], .torn at')
    | .bad => ([], .bad)
    | .got r n => (r :: (eachW f (at' + n) (b.drop n)).1, (eachW f (at' + n) (b.drop n)).2)

theorem rec_head (r rest : List UInt8) (hr : r.length ≤ 65536) : openR ((recL r ++ rest).take 13) = (1, le4 r.length, 0) := by
  have e : (recL r ++ rest).take 13 = sealL 1 (le4 r.length) := by
    unfold recL
    rw [List.append_assoc, List.take_left' (by rw [sealL_len, le4_len])]
  rw [e, openR_seal 1 _ (by rw [le4_len]; omega)]
theorem rec_headW (r rest : List UInt8) (hr : r.length ≤ 65536) : headW (recL r ++ rest) = r.length := by
  unfold headW
  rw [rec_head r rest hr]
  exact leN_le4 (by omega)
theorem rec_body (r rest : List UInt8) (hr : r.length ≤ 65536) : ((recL r ++ rest).drop 13).take (r.length + 9) = sealL 2 r := by
  unfold recL
  rw [List.append_assoc, List.drop_left' (by rw [sealL_len, le4_len]), List.take_left' (by rw [sealL_len])]
/-- A whole record. -/
theorem oneW_rec (r rest : List UInt8) (hr : r.length ≤ 65536) : oneW (recL r ++ rest) = .got r (r.length + 22) := by
  have hl := recL_len r
  unfold oneW
  rw [rec_headW r rest hr, rec_head r rest hr, rec_body r rest hr, openR_seal 2 _ (by omega)]
  rw [if_neg (by rw [List.length_append]; omega), if_neg (by simp; omega), if_neg (by rw [List.length_append]; omega), if_neg (by simp)]
/-- A record that is cut. -/
theorem oneW_cut (r : List UInt8) (k : Nat) (hr : r.length ≤ 65536) (hk : k < r.length + 22) : oneW ((recL r).take k) = .fin := by
  have hl := recL_len r
  unfold oneW
  by_cases h13 : k < 13
  · rw [if_pos (by rw [List.length_take]; omega)]
  · have e : ((recL r).take k).take 13 = ((recL r) ++ []).take 13 := by rw [List.take_take, List.append_nil, Nat.min_eq_left (by omega)]
    have hw : headW ((recL r).take k) = r.length := by
      have := rec_headW r [] hr
      unfold headW at this ⊢
      rw [e]; exact this
    rw [hw, e, rec_head r [] hr, if_neg (by rw [List.length_take]; omega), if_neg (by simp; omega), if_pos (by rw [List.length_take]; omega)]
/-- All records, and what is behind them. -/
theorem eachW_recs : ∀ (rs : List (List UInt8)) (rest : List UInt8) (f at' : Nat), (∀ r ∈ rs, r.length ≤ 65536) → rs.length ≤ f →
    eachW f at' (rs.flatMap recL ++ rest) = (rs ++ (eachW (f - rs.length) (at' + (rs.flatMap recL).length) rest).1, (eachW (f - rs.length) (at' + (rs.flatMap recL).length) rest).2)
  | [], rest, f, at', _, _ => by simp
  | r :: rs, rest, f, at', hr, hf => by
    obtain ⟨f', rfl⟩ : ∃ f', f = f' + 1 := ⟨f - 1, by have : (r :: rs).length = rs.length + 1 := rfl; omega⟩
    have h1 := hr r (List.mem_cons_self)
    rw [List.flatMap_cons, List.append_assoc, eachW, if_neg (by
      intro h
      have := congrArg List.length h
      rw [List.length_append, recL_len] at this
      simp at this), oneW_rec r _ h1]
    simp only
    rw [List.drop_left' (recL_len r), eachW_recs rs rest f' (at' + (r.length + 22)) (fun x hx => hr x (List.mem_cons_of_mem _ hx)) (by have : (r :: rs).length = rs.length + 1 := rfl; omega)]
    have e1 : f' + 1 - (r :: rs).length = f' - rs.length := by have : (r :: rs).length = rs.length + 1 := rfl; omega
    have e2 : at' + (recL r ++ rs.flatMap recL).length = at' + (r.length + 22) + (rs.flatMap recL).length := by rw [List.length_append, recL_len]; omega
    rw [e1, e2]
    rfl
theorem recs_len (rs : List (List UInt8)) : rs.length ≤ (rs.flatMap recL).length := by
  induction rs with
  | nil => simp
  | cons r rs ih => rw [List.flatMap_cons, List.length_append, recL_len, List.length_cons]; omega
/-- A whole file. -/
theorem eachW_whole (rs : List (List UInt8)) (h : ∀ r ∈ rs, r.length ≤ 65536) : eachW (rs.flatMap recL).length 0 (rs.flatMap recL) = (rs, .done) := by
  have := eachW_recs rs [] (rs.flatMap recL).length 0 h (recs_len rs)
  rw [List.append_nil] at this
  rw [this]
  have e : ∀ f a, eachW f a [] = ([], .done) := fun f a => by cases f <;> simp [eachW]
  rw [e, List.append_nil]
/-- A file that ends within a record. -/
theorem eachW_torn (rs : List (List UInt8)) (r : List UInt8) (k : Nat) (h : ∀ r ∈ rs, r.length ≤ 65536) (hr : r.length ≤ 65536) (hk0 : 0 < k) (hk : k < r.length + 22) :
    eachW (rs.flatMap recL ++ (recL r).take k).length 0 (rs.flatMap recL ++ (recL r).take k) = (rs, .torn (rs.flatMap recL).length) := by
  have hl := recs_len rs
  have hkl : ((recL r).take k).length = k := by rw [List.length_take, recL_len]; omega
  rw [eachW_recs rs ((recL r).take k) _ 0 h (by rw [List.length_append]; omega)]
  obtain ⟨f, hf⟩ : ∃ f, (rs.flatMap recL ++ (recL r).take k).length - rs.length = f + 1 := ⟨(rs.flatMap recL ++ (recL r).take k).length - rs.length - 1, by rw [List.length_append]; omega⟩
  rw [hf, eachW, if_neg (by intro e; rw [e] at hkl; simp at hkl; omega), oneW_cut r k hr hk]
  simp
/-- Bits that are turned in one frame of a record. -/
theorem oneW_head_turned (r rest : List UInt8) (b p : Nat) (hr : r.length ≤ 65536) (hp : p ≤ 8 * 13) (hb : turnsAny b p (8 * 13)) : oneW (flipL b p (sealL 1 (le4 r.length)) ++ (sealL 2 r ++ rest)) = .bad := by
  have hl : (sealL 1 (le4 r.length)).length = 13 := by rw [sealL_len, le4_len]
  have hfl : (flipL b p (sealL 1 (le4 r.length))).length = 13 := by rw [flipL_len, hl]
  have e : (flipL b p (sealL 1 (le4 r.length)) ++ (sealL 2 r ++ rest)).take 13 = flipL b p (sealL 1 (le4 r.length)) := List.take_left' hfl
  have hne := openR_turned (k := 1) (l := le4 r.length) (b := b) (p := p) (by rw [hl]; exact hp) (by rw [hl]; exact hb)
  unfold oneW
  rw [e, if_neg (by rw [List.length_append, hfl]; omega), if_pos (.inl hne)]
theorem oneW_body_turned (r rest : List UInt8) (b p : Nat) (hr : r.length ≤ 65536) (hp : p ≤ 8 * (r.length + 9)) (hb : turnsAny b p (8 * (r.length + 9))) : oneW (sealL 1 (le4 r.length) ++ (flipL b p (sealL 2 r) ++ rest)) = .bad := by
  have hl : (sealL 1 (le4 r.length)).length = 13 := by rw [sealL_len, le4_len]
  have hl2 : (sealL 2 r).length = r.length + 9 := sealL_len _ _
  have hfl : (flipL b p (sealL 2 r)).length = r.length + 9 := by rw [flipL_len, hl2]
  have e : (sealL 1 (le4 r.length) ++ (flipL b p (sealL 2 r) ++ rest)).take 13 = sealL 1 (le4 r.length) := List.take_left' hl
  have hh : openR (sealL 1 (le4 r.length)) = (1, le4 r.length, 0) := openR_seal 1 _ (by rw [le4_len]; omega)
  have hw : headW (sealL 1 (le4 r.length) ++ (flipL b p (sealL 2 r) ++ rest)) = r.length := by
    unfold headW
    rw [e, hh]
    exact leN_le4 (by omega)
  have hne := openR_turned (k := 2) (l := r) (b := b) (p := p) (by rw [hl2]; exact hp) (by rw [hl2]; exact hb)
  unfold oneW
  rw [hw, e, hh, List.drop_left' hl, List.take_left' hfl, if_neg (by simp [hl] <;> omega), if_neg (by simp <;> omega), if_neg (by simp [hl, hfl] <;> omega), if_pos (.inl hne)]
end Go.Proofs.YtfablbhkmddnbaaDoor

/-! wal.Record, wal.name, wal.numberOf. -/

namespace Go.Proofs.YtfablbhkmddnbaaDoor
open Go.RowKit Go.Sort Go.Lib

/-- What Record tells. -/
def RecPost (w : World) (l : List UInt8) (e : Ending) (w' : World) : Prop :=
  if l.length ≤ 65536 then ∃ a c, e = .returned (.tuple #[.slice a (recL l).length c, .int .i64 0]) ∧ MadeTo w 5 1 (.slice a (recL l).length c) (recL l).length (u8s (recL l)) w'
  else e = .returned (.tuple #[.slice none 0 0, .int .i64 3]) ∧ w = w'

theorem src_le4 {W : World} {b n : Nat} {t : TypeId} (hn : n ≤ 65536) (h : W.heap[b]? = some (.cells #[.int .u8 ((n : Int) % 256), .int .u8 ((n : Int) / 256 % 256), .int .u8 ((n : Int) / 65536), .int .u8 0] t (0, 0))) :
    Src W 1 (.slice (some ⟨b, 0, none⟩) 4 4) 4 (u8s (le4 n)) := by
  have e := four4_vals n (by omega)
  have e1 : (n : Int) / 65536 % 256 = (n : Int) / 65536 := by omega
  have e2 : (n : Int) / 16777216 = 0 := by omega
  refine src_four (t := t) ?_
  rw [h, ← e, e1, e2]

set_option maxHeartbeats 4000000 in
set_option maxRecDepth 100000 in
theorem record_any (w : World) (a : Option Addr) (n c : Nat) (l : List UInt8) (hl : Src w 1 (.slice a n c) n (u8s l)) :
    Calls Tryd.prog 23 #[.slice a n c] w (RecPost w l) := by
  have HL := Lib.hid hl
  have hlen := u8s_src_len hl
  have HN := Lib.hid hlen
  by_cases hn : n ≤ 65536
  · have hnn : ¬ (65536 : Int) < (n : Int) := by omega
    clear hl hlen
    go_enter Tryd.func23, Tryd.ntmps23
    go_wp2_with fail
    generalize hW : World.alloc _ _ = W
    have HX : Hid (Ext w W) := Lib.hid (by rw [← hW]; exact (Ext.refl w).alloc _)
    have HS : Hid (Src W 1 (.slice (some ⟨w.heap.size, 0, none⟩) 4 4) 4 (u8s (le4 n))) := Lib.hid (src_le4 hn (by rw [← hW]; exact heap_alloc_new w _))
    clear hW
    refine (seal_any W 1 _ 4 4 (le4 n) HS.out (by omega)).mono ?_
    rintro e w1 ⟨a1, c1, rfl, hm⟩
    have HM1 := Lib.hid (MadeTo.trans HX.out hm)
    clear hm HS HX
    go_wp2_with fail
    refine (seal_any w1 2 a n c l (HL.out.ext HM1.out.ext) (by omega)).mono ?_
    rintro e w2 ⟨a2, c2, rfl, hm⟩
    have HM2 := Lib.hid hm
    clear hm
    have HM3 := Lib.hid (HM1.out.ext' HM2.out.ext)
    have hl1 := sealL_len 1 (le4 n)
    have hl2 := sealL_len 2 l
    rw [le4_len] at hl1
    rw [HN.out] at hl2
    rw [hl1] at HM3 ⊢
    rw [hl2] at HM2 ⊢
    clear hl1 hl2 HM1
    go_wp2_with (first
      | (refine wpList_append_to (n := 4 + 9) (m := n + 9) byt_elem rfl (.tmp 31) (.tmp 32) rfl rfl rfl HM3.out.row (HM2.out.row.src (u8s_one _)) (by unfold maxLen; omega) (by omega) ?_; intro v6 w6 happ; obtain ⟨a6, c6, rfl⟩ := happ.row.shape; have H6 := Lib.hid (HM3.out.more (Ext.refl _) happ); clear happ))
    go_ret2
    have h6 := H6.out
    rw [← u8s_append, ← HN.out] at h6
    unfold RecPost
    rw [if_pos (by rw [HN.out]; exact hn)]
    have hrl : (recL l).length = 4 + 9 + (l.length + 9) := by rw [recL_len]; omega
    rw [hrl]
    exact ⟨a6, c6, by rw [HN.out]; rfl, h6⟩
  · have hnn : (65536 : Int) < (n : Int) := by omega
    clear hl hlen
    go_enter Tryd.func23, Tryd.ntmps23
    go_wp2_with fail
    go_ret2
    unfold RecPost
    rw [if_neg (by rw [HN.out]; exact hn)]
    exact ⟨rfl, rfl⟩

/-! A file's name. -/
theorem digs_split : ∀ (k j n : Nat), digs (j + k) n = digs j (n / 10 ^ k) ++ digs k n
  | 0, j, n => by simp [digs]
  | k + 1, j, n => by
    rw [show j + (k + 1) = (j + k) + 1 by omega, digs, digs_split k j (n / 10), digs, List.append_assoc, Nat.div_div_eq_div_mul, show 10 * 10 ^ k = 10 ^ (k + 1) by rw [Nat.pow_succ, Nat.mul_comm]]
/-- The bytes of a name on its way: the last k digits stand. -/
def digK (k n : Nat) : List UInt8 := List.replicate (12 - k) 0 ++ digs k n
theorem digK_len {k : Nat} (n : Nat) (hk : k ≤ 12) : (digK k n).length = 12 := by
  unfold digK
  rw [List.length_append, List.length_replicate, digs_len]
  omega
theorem digK_step {k : Nat} (n : Nat) (hk : k < 12) : (digK k n).set (11 - k) (UInt8.ofNat (48 + n / 10 ^ k % 10)) = digK (k + 1) n := by
  have h1 : digs (k + 1) n = UInt8.ofNat (48 + n / 10 ^ k % 10) :: digs k n := by
    rw [show k + 1 = 1 + k by omega, digs_split k 1 n]
    rfl
  unfold digK
  rw [h1]
  obtain ⟨m, hm⟩ : ∃ m, 12 - k = m + 1 := ⟨11 - k, by omega⟩
  rw [hm, show 11 - k = m by omega, show 12 - (k + 1) = m by omega, List.replicate_succ', List.append_assoc, List.set_append_right _ _ (by simp)]
  simp
theorem digK_end (n : Nat) : digK 12 n = digs 12 n := by simp [digK]
theorem name_eq (n : Nat) : (⟨#[119]⟩ : ByteArray) ++ ⟨(digs 12 n).toArray⟩ = nameW n := by
  apply ByteArray.ext
  simp [nameW, lb, nameL]

set_option maxHeartbeats 4000000 in
set_option maxRecDepth 100000 in
theorem name_any (w : World) (n : Nat) (hn : n < 4611686018427387904) :
    Calls Tryd.prog 25 #[.int .i64 (n : Int)] w fun e w' => e = .returned (.string (nameW n)) ∧ Ext w w' := by
  go_enter Tryd.func25, Tryd.ntmps25
  go_upto_region 2 with fail
  obtain ⟨g, hg⟩ : ∃ g, g = w.heap.size := ⟨_, rfl⟩
  rw [← hg]
  generalize hW : World.alloc _ _ = W
  have HM : Hid (MadeTo w 77 1 (.slice (some ⟨g, 0, none⟩) 12 12) 12 (u8s (digK 0 n)) W) := Lib.hid (by
    refine ⟨⟨rfl, .inr ⟨g, 12, _, rfl, Nat.zero_le _, by rw [← hW, hg]; exact heap_alloc_new w _, Nat.le_refl _, by unfold maxLen; omega, rfl, rfl⟩⟩, fun g' hg' => ?_, by rw [← hW]; exact (Ext.refl w).alloc _⟩
    have e2 : g = g' := Option.some.inj hg'
    omega)
  clear hW hg
  go_wp2_with fail
  go_loopw [4, 0] (fun s4 s0 wr => ∃ k : Nat, k ≤ 12 ∧ s4 = .int .i64 (11 - (k : Int)) ∧ s0 = .int .i64 ((n / 10 ^ k : Nat) : Int) ∧ Hid (MadeTo w 77 1 (.slice (some ⟨g, 0, none⟩) 12 12) 12 (u8s (digK k n)) wr)) (fun s4 _ _ => ((RowKit.intOf s4) + 1).toNat)
  case atStart => exact ⟨0, by omega, by go_num, by simp, HM⟩
  case round =>
    clear HM
    obtain ⟨k, hk, rfl, rfl, HM⟩ := hrel
    rcases Nat.lt_or_ge k 12 with hlt | hge
    · obtain ⟨q, hq⟩ : ∃ q, q = n / 10 ^ k := ⟨_, rfl⟩
      rw [← hq]
      have hqn : q < 4611686018427387904 := by rw [hq]; exact Nat.lt_of_le_of_lt (Nat.div_le_self _ _) hn
      have HQ := Lib.hid hq
      obtain ⟨j, hj⟩ : ∃ j : Nat, j = 11 - k := ⟨_, rfl⟩
      have hji : (11 : Int) - (k : Int) = (j : Int) := by omega
      rw [hji]
      have HJ := Lib.hid hj
      have HJI := Lib.hid hji
      obtain ⟨_, e, _, h4, h5⟩ := madeB_at HM.out (by omega)
      cases e
      have hjl : j < (digK k n).length := by rw [digK_len n hk]; omega
      have c4 := h4 _ _ (List.getElem?_eq_getElem hjl)
      have z4 := h5 j
      have hj12 : j < 12 := by omega
      have HV : Hid ((UInt8.ofNat (48 + q % 10)).toNat = 48 + q % 10) := Lib.hid (by
        have : q % 10 < 10 := Nat.mod_lt _ (by omega)
        rw [UInt8.toNat_ofNat']; omega)
      clear h4 h5 hq hj hji
      go_wp2_with fail
      go_roundw
      case rel =>
        refine ⟨k + 1, by omega, ?_, ?_, Lib.hid ?_⟩
        · have h1 := HJI.out
          have h2 : (j : Int) - 1 = 11 - ((k + 1 : Nat) : Int) := by omega
          rw [h2]
        · have h1 : n / 10 ^ (k + 1) = q / 10 := by rw [HQ.out, Nat.div_div_eq_div_mul, Nat.pow_succ]
          rw [h1]
          rfl
        · have h1 := HM.out.setB (k := j) (UInt8.ofNat (48 + q % 10))
          rw [HV.out] at h1
          have h2 : (digK k n).set j (UInt8.ofNat (48 + q % 10)) = digK (k + 1) n := by rw [HJ.out, HQ.out]; exact digK_step n hlt
          rw [h2] at h1
          have h3 : ((48 + q % 10 : Nat) : Int) = 48 + (q : Int) % 10 := by omega
          rw [h3] at h1
          exact h1
      case measure =>
        simp only [RowKit.intOf]
        omega
    · obtain rfl : k = 12 := by omega
      have HM2 := HM
      rw [digK_end] at HM2
      have hcv := byt_conv (HM2.out.row.src (u8s_one _))
      have hdl := digs_len 12 n
      clear HM
      go_wp2_with fail
      go_ret
      exact ⟨by rw [← name_eq]; rfl, HM2.out.ext⟩
/-! The number of a name. -/
theorem numD_lt : ∀ (l : List UInt8) (a x : Nat), numD a l = some x → x < (a + 1) * 10 ^ l.length
  | [], a, x, h => by simp [numD] at h; subst h; simp
  | c :: l, a, x, h => by
    rw [numD] at h
    split at h
    · cases h
    · have h1 := numD_lt l _ x h
      rw [List.length_cons, Nat.pow_succ]
      have h2 : 10 * a + (c.toNat - 48) + 1 ≤ (a + 1) * 10 := by omega
      have h3 := Nat.mul_le_mul_right (10 ^ l.length) h2
      rw [Nat.mul_comm (10 ^ l.length) 10, ← Nat.mul_assoc]
      omega
def NumPost (w : World) (o : Option Nat) (e : Ending) (w' : World) : Prop := w = w' ∧ match o with
  | none => e = .returned (.tuple #[.int .i64 0, .bool false])
  | some n => e = .returned (.tuple #[.int .i64 (n : Int), .bool true])
set_option maxHeartbeats 4000000 in
set_option maxRecDepth 100000 in
theorem numberOf_any (w : World) (s : ByteArray) :
    Calls Tryd.prog 31 #[.string s] w (NumPost w (numL (bl s))) := by
  have hlen : (bl s).length = s.size := by simp [bl]
  by_cases h13 : s.size = 13
  · have HN : Hid (numL (bl s) = numD 0 ((bl s).drop 1)) := Lib.hid (by unfold numL; rw [hlen, if_neg (by simp [h13])])
    have HS := Lib.hid h13
    have hse : ((s.size : Int) != 13) = false := by simp [h13]
    clear hlen
    go_enter Tryd.func31, Tryd.ntmps31
    go_wp2_with fail
    clear hse
    go_loopw [5, 4] (fun s5 s4 wr => ∃ i x : Nat, 1 ≤ i ∧ i ≤ 13 ∧ s5 = .int .i64 (i : Int) ∧ s4 = .int .i64 (x : Int) ∧ x < 10 ^ (i - 1) ∧ Hid (numL (bl s) = numD x ((bl s).drop i)) ∧ w = wr) (fun s5 _ _ => 13 - (RowKit.intOf s5).toNat)
    case atStart => exact ⟨1, 0, by omega, by omega, by go_num, by go_num, by omega, HN, rfl⟩
    case round =>
      clear HN
      obtain ⟨i, x, hi1, hi13, rfl, rfl, hx, HN, rfl⟩ := hrel
      rcases Nat.lt_or_ge i 13 with hlt | hge
      · have hls : i < s.size := by have := HS.out; omega
        have hd : (bl s).drop i = s[i] :: (bl s).drop (i + 1) := List.drop_eq_getElem_cons (by simpa [bl] using hls)
        have HN2 : Hid (numL (bl s) = if s[i].toNat < 48 ∨ 57 < s[i].toNat then none else numD (10 * x + (s[i].toNat - 48)) ((bl s).drop (i + 1))) := Lib.hid (by rw [HN.out, hd, numD])
        have hp : 10 ^ (i + 1 - 1) = 10 * 10 ^ (i - 1) := by
          obtain ⟨m, rfl⟩ : ∃ m, i = m + 1 := ⟨i - 1, by omega⟩
          simp only [Nat.add_sub_cancel]
          rw [Nat.pow_succ, Nat.mul_comm]
        have hp12 : 10 ^ (i - 1) ≤ 10 ^ 12 := Nat.pow_le_pow_right (by omega) (by omega)
        have HP := Lib.hid hp
        have hx12 : x < 1000000000000 := by omega
        clear hd HN hp hp12
        by_cases hlo : s[i].toNat < 48
        · have HN3 : Hid (numL (bl s) = none) := Lib.hid (by rw [HN2.out, if_pos (.inl hlo)])
          have hlo' : (s[i].toNat : Int) < 48 := by omega
          clear HN2 hlo
          go_wp2_with fail
          go_ret2
          unfold NumPost
          rw [HN3.out]
          exact ⟨rfl, rfl⟩
        · by_cases hhi : 57 < s[i].toNat
          · have HN3 : Hid (numL (bl s) = none) := Lib.hid (by rw [HN2.out, if_pos (.inr hhi)])
            have hlo' : ¬ (s[i].toNat : Int) < 48 := by omega
            have hhi' : 57 < (s[i].toNat : Int) := by omega
            clear HN2 hlo hhi
            go_wp2_with fail
            go_ret2
            unfold NumPost
            rw [HN3.out]
            exact ⟨rfl, rfl⟩
          · have HN3 : Hid (numL (bl s) = numD (10 * x + (s[i].toNat - 48)) ((bl s).drop (i + 1))) := Lib.hid (by rw [HN2.out, if_neg (by omega)])
            obtain ⟨y, hy⟩ : ∃ y : Nat, s[i].toNat = 48 + y := ⟨s[i].toNat - 48, by omega⟩
            have hy9 : y ≤ 9 := by omega
            have hyi : (s[i].toNat : Int) = 48 + (y : Int) := by omega
            have HY := Lib.hid hy
            clear HN2 hlo hhi hy
            go_wp2_with fail
            go_roundw
            case rel =>
              refine ⟨i + 1, 10 * x + y, by omega, by omega, by go_num, by rw [show (10 * (x : Int) + (48 + (y : Int) - 48)) = ((10 * x + y : Nat) : Int) by omega], ?_, Lib.hid ?_, trivial⟩
              · have := HP.out; omega
              · rw [HN3.out, HY.out]; congr 1; omega
            case measure => simp [RowKit.intOf]; omega
      · obtain rfl : i = 13 := by omega
        have hd : (bl s).drop 13 = [] := List.drop_of_length_le (by have := HS.out; simp [bl]; omega)
        have HN3 : Hid (numL (bl s) = some x) := Lib.hid (by rw [HN.out, hd, numD])
        clear hd HN
        go_wp2_with fail
        go_ret2
        unfold NumPost
        rw [HN3.out]
        exact ⟨rfl, rfl⟩
  · have hse : ((s.size : Int) != 13) = true := by simp; omega
    have HN : Hid (numL (bl s) = none) := Lib.hid (by unfold numL; rw [hlen, if_pos (by simpa using h13)])
    clear hlen h13
    go_enter Tryd.func31, Tryd.ntmps31
    go_wp2_with fail
    go_ret2
    unfold NumPost
    rw [HN.out]
    exact ⟨rfl, rfl⟩
end Go.Proofs.YtfablbhkmddnbaaDoor
