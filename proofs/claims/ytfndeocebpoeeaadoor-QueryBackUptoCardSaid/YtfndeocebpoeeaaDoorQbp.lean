/- Plain: a query's words, and what is read of them. -/
import Derived.Test.YtfndeocebpoeeaaDoorChk
import Derived.Test.YtfndeocebpoeeaaDoorMap
import Derived.Lib.SplitLaws
import Derived.Lib.Join
import Derived.Lib.ItoaLen
import Derived.Lib.AtoiAllCases
namespace Go.Proofs.YtfndeocebpoeeaaDoor
open Go.RowKit Go.Sort Go.Lib

/-! Texts are cut at spaces, and joined. -/
def consH (c : UInt8) : List (List UInt8) → List (List UInt8)
  | [] => [[c]]
  | h :: t => (c :: h) :: t
def cutS : List UInt8 → List (List UInt8)
  | [] => [[]]
  | c :: l => if c = 32 then [] :: cutS l else consH c (cutS l)
theorem cutS_ne : ∀ l, ∃ h t, cutS l = h :: t
  | [] => ⟨[], [], rfl⟩
  | c :: l => by
    obtain ⟨h, t, e⟩ := cutS_ne l
    unfold cutS
    split
    · exact ⟨_, _, rfl⟩
    · rw [e]; exact ⟨_, _, rfl⟩
theorem index_sp (c : UInt8) (l : List UInt8) : Lib.index (c :: l) [32] = if c = 32 then 0 else if Lib.index l [32] == -1 then -1 else Lib.index l [32] + 1 := by
  have h : List.isPrefixOf [32] (c :: l) = ((32 : UInt8) == c) := by simp [List.isPrefixOf]
  rw [Lib.index, h]
  by_cases e : c = 32
  · subst e; simp
  · rw [if_neg e, if_neg (by simpa using fun x : (32 : UInt8) = c => e x.symm)]
theorem splitK_sp (k : Nat) (l : List UInt8) : Lib.splitK [32] 0 (k + 1) (32 :: l) = [] :: Lib.splitK [32] 0 k l := by
  rw [Lib.splitK, index_sp, if_pos rfl]
  rfl
theorem splitK_cons {c : UInt8} (hc : c ≠ 32) (k : Nat) (l : List UInt8) : Lib.splitK [32] 0 k (c :: l) = consH c (Lib.splitK [32] 0 k l) := by
  cases k with
  | zero => rfl
  | succ k =>
    have hg := Lib.index_ge l [32]
    rw [Lib.splitK, Lib.splitK, index_sp, if_neg hc]
    by_cases h : (Lib.index l [32] == -1) = true
    · rw [if_pos h, if_pos h, if_pos (by decide)]
      rfl
    · have hne : Lib.index l [32] ≠ -1 := by simpa using h
      rw [if_neg h, if_neg h, if_neg (by simp; omega)]
      obtain ⟨i, hi⟩ : ∃ i : Nat, Lib.index l [32] = (i : Int) := ⟨(Lib.index l [32]).toNat, by omega⟩
      rw [hi, show ((i : Int) + 1).toNat = i + 1 by omega, show ((i : Int)).toNat = i by omega]
      rfl
theorem split_cut : ∀ l : List UInt8, Lib.splitK [32] 0 (l.count 32) l = cutS l
  | [] => rfl
  | c :: l => by
    by_cases hc : c = 32
    · subst hc
      rw [List.count_cons_self, splitK_sp, split_cut l, cutS, if_pos rfl]
    · rw [List.count_cons_of_ne hc, splitK_cons hc, split_cut l, cutS, if_neg hc]
theorem join_two (x y : List UInt8) (r : List (List UInt8)) : Lib.join (x :: y :: r) [32] = x ++ 32 :: Lib.join (y :: r) [32] := by
  rw [Lib.join_cons, Lib.join_cons]
  simp [Lib.joinTail]
theorem join_cut : ∀ l : List UInt8, Lib.join (cutS l) [32] = l
  | [] => rfl
  | c :: l => by
    have ih := join_cut l
    obtain ⟨h, t, e⟩ := cutS_ne l
    by_cases hc : c = 32
    · subst hc
      rw [cutS, if_pos rfl, e, join_two, ← e, ih]
      rfl
    · rw [cutS, if_neg hc, e, consH, Lib.join_cons, List.cons_append, ← Lib.join_cons, ← e, ih]
theorem cut_app : ∀ (p r : List UInt8), 32 ∉ p → cutS (p ++ 32 :: r) = p :: cutS r
  | [], r, _ => by rw [List.nil_append, cutS, if_pos rfl]
  | c :: p, r, h => by
    have hc : c ≠ 32 := fun e => h (by rw [e]; exact List.mem_cons_self)
    rw [List.cons_append, cutS, if_neg hc, cut_app p r (fun e => h (List.mem_cons_of_mem _ e)), consH]
theorem cut_one : ∀ (p : List UInt8), 32 ∉ p → cutS p = [p]
  | [], _ => rfl
  | c :: p, h => by
    have hc : c ≠ 32 := fun e => h (by rw [e]; exact List.mem_cons_self)
    rw [cutS, if_neg hc, cut_one p (fun e => h (List.mem_cons_of_mem _ e)), consH]
theorem cut_join : ∀ (ws : List (List UInt8)), ws ≠ [] → (∀ x ∈ ws, 32 ∉ x) → cutS (Lib.join ws [32]) = ws
  | [], h, _ => absurd rfl h
  | [x], _, h => by rw [Lib.join_one]; exact cut_one x (h x List.mem_cons_self)
  | x :: y :: r, _, h => by rw [join_two, cut_app x _ (h x List.mem_cons_self), cut_join (y :: r) (by simp) (fun z hz => h z (List.mem_cons_of_mem _ hz))]
def spc : ByteArray := ⟨#[32]⟩
/-- The words of a text. -/
def splitW (s : ByteArray) : List ByteArray := Lib.splitB spc 0 (Lib.countB s spc) s
def joinW (ws : List ByteArray) : ByteArray := ⟨(Lib.join (ws.map (·.data.toList)) [32]).toArray⟩
theorem data_inj {a b : List ByteArray} (h : a.map (·.data.toList) = b.map (·.data.toList)) : a = b := by
  refine (List.map_inj_right (f := fun x : ByteArray => x.data.toList) fun x y e => ?_).1 h
  have : x.data = y.data := Array.toList_inj.1 e
  cases x; cases y; simp_all
theorem splitW_data (s : ByteArray) : (splitW s).map (·.data.toList) = cutS s.data.toList := by
  unfold splitW
  rw [Lib.splitB_data, show Lib.countB s spc = Lib.count s.data.toList [32] from rfl, Lib.count_one]
  exact split_cut _
theorem split_join {ws : List ByteArray} (hne : ws ≠ []) (h : ∀ x ∈ ws, 32 ∉ x.data.toList) : splitW (joinW ws) = ws := by
  refine data_inj ?_
  rw [splitW_data]
  show cutS (Lib.join (ws.map (·.data.toList)) [32]).toArray.toList = _
  rw [List.toList_toArray]
  exact cut_join _ (by simpa using hne) (fun x hx => by
    obtain ⟨y, hy, rfl⟩ := List.mem_map.1 hx
    exact h y hy)
theorem join_split (s : ByteArray) : joinW (splitW s) = s := by
  unfold joinW
  rw [splitW_data, join_cut]
theorem splitW_ne (s : ByteArray) : splitW s ≠ [] := fun e => by
  have h := splitW_data s
  obtain ⟨x, t, e2⟩ := cutS_ne s.data.toList
  rw [e, e2] at h
  simp at h

/-! Numbers. -/
theorem parse_app : ∀ (a b : List UInt8) (acc : Nat), Lib.parseUint10 acc (a ++ b) = match Lib.parseUint10 acc a with | .ok v => Lib.parseUint10 v b | e => e
  | [], b, acc => rfl
  | c :: a, b, acc => by
    rw [List.cons_append, Lib.parseUint10, Lib.parseUint10]
    split
    · split
      · rfl
      · split
        · rfl
        · exact parse_app a b _
    · rfl
theorem digit_nat {d : Nat} (h : d < 10) : (UInt8.ofNat (48 + d)).toNat = 48 + d := by rw [UInt8.toNat_ofNat']; omega
theorem parse_dec (u : Nat) (hu : u < 18446744073709551616) : Lib.parseUint10 0 (Lib.decDigits u) = .ok u := by
  induction u using Nat.strongRecOn with
  | ind u ih =>
    rw [Lib.decDigits]
    split
    · rename_i h
      simp only [Lib.parseUint10, digit_nat h]
      rw [if_pos (by omega), if_neg (by omega), if_neg (by omega)]
      congr 1; omega
    · rename_i h
      have hd : u % 10 < 10 := by omega
      rw [parse_app, ih (u / 10) (by omega) (by omega)]
      simp only [Lib.parseUint10, digit_nat hd]
      rw [if_pos (by omega), if_neg (by omega), if_neg (by omega)]
      congr 1; omega
theorem dec_digits (u : Nat) : ∀ c ∈ Lib.decDigits u, 48 ≤ c.toNat ∧ c.toNat ≤ 57 := by
  induction u using Nat.strongRecOn with
  | ind u ih =>
    rw [Lib.decDigits]
    split
    · rename_i h
      intro c hc
      rw [List.mem_singleton.1 hc, digit_nat h]; omega
    · rename_i h
      intro c hc
      rcases List.mem_append.1 hc with hc | hc
      · exact ih (u / 10) (by omega) c hc
      · rw [List.mem_singleton.1 hc, digit_nat (show u % 10 < 10 by omega)]; omega
theorem dec_ne (u : Nat) : Lib.decDigits u ≠ [] := fun e => by
  have h := Lib.decDigits_length u
  have := Lib.nDigits_pos u
  rw [e] at h
  simp at h
  omega
theorem atoi_itoa {n : Int} (h0 : -9223372036854775808 ≤ n) (h1 : n ≤ 9223372036854775807) : Lib.atoiAll (Lib.itoa n) = .ok n := by
  have hm : ∀ u : Nat, u < 18446744073709551616 → Lib.parseMag (Lib.decDigits u) = .ok u := fun u hu => by
    unfold Lib.parseMag
    rw [if_neg (dec_ne u), parse_dec u hu]
  unfold Lib.itoa
  split
  · rw [Lib.atoiAll_minus, hm _ (by omega)]
    simp only [Lib.signed]
    rw [if_neg (by omega)]
    congr 1; omega
  · obtain ⟨c, r, e⟩ := List.exists_cons_of_ne_nil (dec_ne n.toNat)
    have hc := dec_digits n.toNat c (by rw [e]; exact List.mem_cons_self)
    rw [e, Lib.atoiAll_plain c r (by omega) (by omega), ← e, hm _ (by omega)]
    simp only [Lib.signless]
    rw [if_neg (by omega)]
    congr 1; omega
theorem itoa_sp (n : Int) : 32 ∉ Lib.itoa n := by
  have hd : ∀ u : Nat, 32 ∉ Lib.decDigits u := fun u h => by
    have := dec_digits u 32 h
    simp at this
  unfold Lib.itoa
  split
  · intro h
    rcases List.mem_cons.1 h with h | h
    · exact absurd h (by decide)
    · exact hd _ h
  · exact hd _
def num (n : Int) : ByteArray := ⟨(Lib.itoa n).toArray⟩
theorem num_data (n : Int) : (num n).data.toList = Lib.itoa n := by simp [num]
/-- The number that a word spells just so. -/
def numP (s : ByteArray) : Option Int := match Lib.atoiAll s.data.toList with
  | .ok v => if Lib.itoa v = s.data.toList then some v else none
  | _ => none
theorem numP_num {n : Int} (h0 : -9223372036854775808 ≤ n) (h1 : n ≤ 9223372036854775807) : numP (num n) = some n := by
  unfold numP
  rw [num_data, atoi_itoa h0 h1]
  simp
theorem num_numP {s : ByteArray} {n : Int} (h : numP s = some n) : num n = s ∧ -9223372036854775808 ≤ n ∧ n ≤ 9223372036854775807 := by
  unfold numP at h
  split at h
  · rename_i v hv
    have hb := Lib.atoiAll_bounds hv
    split at h
    · rename_i e
      obtain rfl := Option.some.inj h
      refine ⟨?_, hb⟩
      unfold num
      rw [e]
    · cases h
  · cases h

/-! Words of functions and fills. -/
def fnS : List (ByteArray × Int) := [(⟨#[99, 111, 117, 110, 116]⟩, 0), (⟨#[115, 117, 109]⟩, 1), (⟨#[109, 105, 110]⟩, 2), (⟨#[109, 97, 120]⟩, 3), (⟨#[102, 105, 114, 115, 116]⟩, 4), (⟨#[108, 97, 115, 116]⟩, 5), (⟨#[109, 101, 97, 110]⟩, 6)]
def fillS : List (ByteArray × Int) := [(⟨#[110, 111, 110, 101]⟩, 0), (⟨#[110, 117, 108, 108]⟩, 1), (⟨#[112, 114, 101, 118, 105, 111, 117, 115]⟩, 2), (⟨#[108, 105, 110, 101, 97, 114]⟩, 3)]
def wordIn (m : List (ByteArray × Int)) (n : Int) : ByteArray := ((m.find? (fun p => p.2 == n)).map (·.1)).getD ⟨#[]⟩
def kRaw : ByteArray := ⟨#[114, 97, 119]⟩
def kWin : ByteArray := ⟨#[119, 105, 110, 100, 111, 119]⟩
def kSes : ByteArray := ⟨#[115, 101, 115, 115, 105, 111, 110]⟩
def kAsof : ByteArray := ⟨#[97, 115, 111, 102]⟩
theorem fn_word : ∀ n : Fin 7, aget fnS (wordIn fnS (n.val : Int)) = some (n.val : Int) ∧ 32 ∉ (wordIn fnS (n.val : Int)).data.toList := by decide +kernel
theorem fill_word : ∀ n : Fin 4, aget fillS (wordIn fillS (n.val : Int)) = some (n.val : Int) ∧ 32 ∉ (wordIn fillS (n.val : Int)).data.toList := by decide +kernel
theorem word_of {m : List (ByteArray × Int)} (hm : ∀ p ∈ m, wordIn m p.2 = p.1) {s : ByteArray} {n : Int} (h : aget m s = some n) : wordIn m n = s := hm _ (aget_mem h)
theorem word_fn {s : ByteArray} {n : Int} (h : aget fnS s = some n) : wordIn fnS n = s := word_of (by decide +kernel) h
theorem word_fill {s : ByteArray} {n : Int} (h : aget fillS s = some n) : wordIn fillS n = s := word_of (by decide +kernel) h

/-- A query. -/
structure Qy where
  op : Int
  fn : Int
  ser : ByteArray
  oth : ByteArray
  fr : Int
  to : Int
  wd : Int
  st : Int
  off : Int
  gap : Int
  tol : Int
  fill : Int
def Qy.v (q : Qy) : Value := qV q.op q.fn q.ser q.oth q.fr q.to q.wd q.st q.off q.gap q.tol q.fill
def Qy.ok (q : Qy) : Bool := checkB q.op q.fn q.ser q.oth q.fr q.to q.wd q.st q.off q.gap q.tol q.fill
def q0 : Qy := ⟨0, 0, ⟨#[]⟩, ⟨#[]⟩, 0, 0, 0, 0, 0, 0, 0, 0⟩
def Qy.words (q : Qy) : List ByteArray :=
  if q.op = 1 then [kWin, wordIn fnS q.fn, q.ser, num q.fr, num q.to, num q.wd, num q.st, num q.off, wordIn fillS q.fill]
  else if q.op = 2 then [kSes, wordIn fnS q.fn, q.ser, num q.fr, num q.to, num q.gap]
  else if q.op = 3 then [kAsof, q.ser, q.oth, num q.fr, num q.to, num q.tol]
  else [kRaw, q.ser, num q.fr, num q.to]
def Qy.text (q : Qy) : ByteArray := joinW q.words
/-- What is read of words, unchecked. -/
def readQ : List ByteArray → Option Qy
  | [a, s, f, t] => if a = kRaw then (numP f).bind fun f => (numP t).bind fun t => some { q0 with ser := s, fr := f, to := t } else none
  | [a, x, y, f, t, g] => if a = kSes then (aget fnS x).bind fun n => (numP f).bind fun f => (numP t).bind fun t => (numP g).bind fun g => some { q0 with op := 2, fn := n, ser := y, fr := f, to := t, gap := g }
    else if a = kAsof then (numP f).bind fun f => (numP t).bind fun t => (numP g).bind fun g => some { q0 with op := 3, ser := x, oth := y, fr := f, to := t, tol := g } else none
  | [a, x, y, f, t, b, c, d, z] => if a = kWin then (aget fnS x).bind fun n => (numP f).bind fun f => (numP t).bind fun t => (numP b).bind fun b => (numP c).bind fun c => (numP d).bind fun d => (aget fillS z).bind fun z =>
      some { q0 with op := 1, fn := n, ser := y, fr := f, to := t, wd := b, st := c, off := d, fill := z } else none
  | _ => none
def parseQ (ws : List ByteArray) : Option Qy := (readQ ws).bind fun q => if q.ok = true then some q else none
theorem read_words {ws : List ByteArray} {q : Qy} (h : readQ ws = some q) : q.words = ws := by
  unfold readQ at h
  split at h
  · split at h
    · rename_i a s f t e
      simp only [Option.bind_eq_some_iff, Option.some.injEq] at h
      obtain ⟨f', hf, t', ht, rfl⟩ := h
      simp [Qy.words, q0, (num_numP hf).1, (num_numP ht).1, e]
    · cases h
  · split at h
    · rename_i a x y f t g e
      simp only [Option.bind_eq_some_iff, Option.some.injEq] at h
      obtain ⟨n, hn, f', hf, t', ht, g', hg, rfl⟩ := h
      simp [Qy.words, q0, word_fn hn, (num_numP hf).1, (num_numP ht).1, (num_numP hg).1, e]
    · split at h
      · rename_i a x y f t g _ e
        simp only [Option.bind_eq_some_iff, Option.some.injEq] at h
        obtain ⟨f', hf, t', ht, g', hg, rfl⟩ := h
        simp [Qy.words, q0, (num_numP hf).1, (num_numP ht).1, (num_numP hg).1, e]
      · cases h
  · split at h
    · rename_i a x y f t b c d z e
      simp only [Option.bind_eq_some_iff, Option.some.injEq] at h
      obtain ⟨n, hn, f', hf, t', ht, b', hb, c', hc, d', hd, z', hz, rfl⟩ := h
      simp [Qy.words, q0, word_fn hn, word_fill hz, (num_numP hf).1, (num_numP ht).1, (num_numP hb).1, (num_numP hc).1, (num_numP hd).1, e]
    · cases h
  · cases h
theorem parse_words {ws : List ByteArray} {q : Qy} (h : parseQ ws = some q) : q.words = ws ∧ q.ok = true := by
  unfold parseQ at h
  obtain ⟨q', h1, h2⟩ := Option.bind_eq_some_iff.1 h
  split at h2
  · rename_i hk
    obtain rfl := Option.some.inj h2
    exact ⟨read_words h1, hk⟩
  · cases h2
theorem win_bounds {wd st off : Int} (h : windowB wd st off = true) : 1 ≤ wd ∧ wd ≤ 1099511627776 ∧ 1 ≤ st ∧ st ≤ wd ∧ 0 ≤ off ∧ off < st := by
  simp only [windowB, Bool.and_eq_true, decide_eq_true_eq] at h
  omega
theorem ok_read {q : Qy} (h : q.ok = true) : readQ q.words = some q := by
  obtain ⟨op, fn, ser, oth, fr, to, wd, st, off, gap, tol, fill⟩ := q
  simp only [Qy.ok, checkB, Bool.and_eq_true] at h
  obtain ⟨⟨⟨⟨h1, -⟩, h3⟩, h4⟩, h5⟩ := h
  have b1 : -1152921504606846976 ≤ fr ∧ fr ≤ 1152921504606846976 := by simpa [withinB] using h3
  have b2 : fr ≤ to ∧ to ≤ 1152921504606846976 := by simpa [withinB] using h4
  have nfr := numP_num (n := fr) (by omega) (by omega)
  have nto := numP_num (n := to) (by omega) (by omega)
  simp only [bareB, Bool.and_eq_true, Bool.or_eq_true, beq_iff_eq] at h5
  obtain ⟨⟨⟨c1, c2⟩, c3⟩, c4⟩ := h5
  have ho : ∀ x : ByteArray, x.size = 0 → x = ⟨#[]⟩ := fun x hx => by
    cases x with
    | mk d => simp [ByteArray.size] at hx; rw [hx]
  unfold fitsB at h1
  split at h1
  · rename_i e
    subst e
    simp only [Bool.and_eq_true] at h1
    obtain ⟨⟨⟨d1, d2⟩, -⟩, d4⟩ := h1
    have e1 : 0 ≤ fill ∧ fill ≤ 3 := by simpa [withinB] using d1
    have e2 : 0 ≤ fn ∧ fn ≤ 6 := by simpa [withinB] using d4
    have f1 := (fn_word ⟨fn.toNat, by omega⟩).1
    have f2 := (fill_word ⟨fill.toNat, by omega⟩).1
    simp only [show ((fn.toNat : Nat) : Int) = fn by omega] at f1
    simp only [show ((fill.toNat : Nat) : Int) = fill by omega] at f2
    have g1 := numP_num (n := wd) (by have := win_bounds d2; omega) (by have := win_bounds d2; omega)
    have g2 := numP_num (n := st) (by have := win_bounds d2; omega) (by have := win_bounds d2; omega)
    have g3 := numP_num (n := off) (by have := win_bounds d2; omega) (by have := win_bounds d2; omega)
    have k1 : gap = 0 := c2.resolve_left (by decide)
    have k2 : oth.size = 0 ∧ tol = 0 := c3.resolve_left (by decide)
    obtain rfl := ho oth k2.1
    simp [Qy.words, readQ, q0, nfr, nto, f1, f2, g1, g2, g3, k1, k2.2]
  · split at h1
    · rename_i _ e
      subst e
      simp only [Bool.and_eq_true] at h1
      obtain ⟨d1, d2⟩ := h1
      have e1 : 0 ≤ fn ∧ fn ≤ 6 := by simpa [withinB] using d1
      have e2 : 1 ≤ gap ∧ gap ≤ 1152921504606846976 := by simpa [withinB] using d2
      have f1 := (fn_word ⟨fn.toNat, by omega⟩).1
      simp only [show ((fn.toNat : Nat) : Int) = fn by omega] at f1
      have g1 := numP_num (n := gap) (by omega) (by omega)
      have k1 : ((wd = 0 ∧ st = 0) ∧ off = 0) ∧ fill = 0 := c1.resolve_left (by decide)
      have k2 : oth.size = 0 ∧ tol = 0 := c3.resolve_left (by decide)
      obtain rfl := ho oth k2.1
      simp [Qy.words, readQ, q0, nfr, nto, f1, g1, k1.1.1.1, k1.1.1.2, k1.1.2, k1.2, k2.2]
    · split at h1
      · rename_i _ _ e
        subst e
        simp only [Bool.and_eq_true] at h1
        obtain ⟨-, d2⟩ := h1
        have e2 : 0 ≤ tol ∧ tol ≤ 1152921504606846976 := by simpa [withinB] using d2
        have g1 := numP_num (n := tol) (by omega) (by omega)
        have k1 : ((wd = 0 ∧ st = 0) ∧ off = 0) ∧ fill = 0 := c1.resolve_left (by decide)
        have k2 : gap = 0 := c2.resolve_left (by decide)
        have k3 : fn = 0 := c4.resolve_left (by decide)
        have hk : kAsof ≠ kSes := by decide
        simp [Qy.words, readQ, q0, nfr, nto, g1, k1.1.1.1, k1.1.1.2, k1.1.2, k1.2, k2, k3, hk]
      · have e : op = 0 := by simpa using h1
        subst e
        have k1 : ((wd = 0 ∧ st = 0) ∧ off = 0) ∧ fill = 0 := c1.resolve_left (by decide)
        have k2 : gap = 0 := c2.resolve_left (by decide)
        have k3 : fn = 0 := c4.resolve_left (by decide)
        have k4 : oth.size = 0 ∧ tol = 0 := c3.resolve_left (by decide)
        obtain rfl := ho oth k4.1
        simp [Qy.words, readQ, q0, nfr, nto, k1.1.1.1, k1.1.1.2, k1.1.2, k1.2, k2, k3, k4.2]
theorem ok_parse {q : Qy} (h : q.ok = true) : parseQ q.words = some q := by
  unfold parseQ
  rw [ok_read h, Option.bind_some, if_pos h]
theorem words_ne (q : Qy) : q.words ≠ [] := by
  unfold Qy.words
  repeat' split
  all_goals simp
theorem valid_sp {s : ByteArray} (h : validL s.data.toList = true) : 32 ∉ s.data.toList ∧ s.data.toList.length ≤ 64 := by
  simp only [validL, Bool.and_eq_true, decide_eq_true_eq] at h
  refine ⟨fun hm => ?_, h.2⟩
  have := List.all_eq_true.1 h.1.1 32 hm
  exact absurd this (by decide)
theorem ok_words {q : Qy} (h : q.ok = true) : ∀ x ∈ q.words, 32 ∉ x.data.toList := by
  have hh := h
  simp only [Qy.ok, checkB, Bool.and_eq_true] at h
  obtain ⟨⟨⟨⟨h1, h2⟩, -⟩, -⟩, -⟩ := h
  have hs := (valid_sp h2).1
  have hnum : ∀ n, 32 ∉ (num n).data.toList := fun n => by rw [num_data]; exact itoa_sp n
  have hk : 32 ∉ kRaw.data.toList ∧ 32 ∉ kWin.data.toList ∧ 32 ∉ kSes.data.toList ∧ 32 ∉ kAsof.data.toList := by decide
  have hf : ∀ fn : Int, withinB fn 0 6 = true → 32 ∉ (wordIn fnS fn).data.toList := fun fn d => by
    have e : 0 ≤ fn ∧ fn ≤ 6 := by simpa [withinB] using d
    have f1 := (fn_word ⟨fn.toNat, by omega⟩).2
    simpa only [show ((fn.toNat : Nat) : Int) = fn by omega] using f1
  have hl : ∀ fill : Int, withinB fill 0 3 = true → 32 ∉ (wordIn fillS fill).data.toList := fun fill d => by
    have e : 0 ≤ fill ∧ fill ≤ 3 := by simpa [withinB] using d
    have f1 := (fill_word ⟨fill.toNat, by omega⟩).2
    simpa only [show ((fill.toNat : Nat) : Int) = fill by omega] using f1
  unfold fitsB at h1
  unfold Qy.words
  split at h1
  · rename_i e
    simp only [Bool.and_eq_true] at h1
    obtain ⟨⟨⟨d1, d2⟩, -⟩, d4⟩ := h1
    rw [if_pos e]
    intro x hx
    simp only [List.mem_cons, List.not_mem_nil, or_false] at hx
    rcases hx with rfl | rfl | rfl | rfl | rfl | rfl | rfl | rfl | rfl
    · exact hk.2.1
    · exact hf _ d4
    · exact hs
    · exact hnum _
    · exact hnum _
    · exact hnum _
    · exact hnum _
    · exact hnum _
    · exact hl _ d1
  · rename_i e
    rw [if_neg e]
    split at h1
    · rename_i e2
      simp only [Bool.and_eq_true] at h1
      obtain ⟨d1, d2⟩ := h1
      rw [if_pos e2]
      intro x hx
      simp only [List.mem_cons, List.not_mem_nil, or_false] at hx
      rcases hx with rfl | rfl | rfl | rfl | rfl | rfl
      · exact hk.2.2.1
      · exact hf _ d1
      · exact hs
      · exact hnum _
      · exact hnum _
      · exact hnum _
    · rename_i e2
      rw [if_neg e2]
      split at h1
      · rename_i e3
        simp only [Bool.and_eq_true] at h1
        rw [if_pos e3]
        intro x hx
        simp only [List.mem_cons, List.not_mem_nil, or_false] at hx
        rcases hx with rfl | rfl | rfl | rfl | rfl | rfl
        · exact hk.2.2.2
        · exact hs
        · exact (valid_sp h1.1).1
        · exact hnum _
        · exact hnum _
        · exact hnum _
      · rename_i e3
        rw [if_neg e3]
        intro x hx
        simp only [List.mem_cons, List.not_mem_nil, or_false] at hx
        rcases hx with rfl | rfl | rfl | rfl
        · exact hk.1
        · exact hs
        · exact hnum _
        · exact hnum _
/-- The law. -/
theorem back_text {q : Qy} (h : q.ok = true) : parseQ (splitW q.text) = some q := by
  unfold Qy.text
  rw [split_join (words_ne q) (ok_words h), ok_parse h]
theorem back_read {s : ByteArray} {q : Qy} (h : parseQ (splitW s) = some q) : q.ok = true ∧ q.text = s := by
  obtain ⟨h1, h2⟩ := parse_words h
  refine ⟨h2, ?_⟩
  unfold Qy.text
  rw [h1, join_split]
end Go.Proofs.YtfndeocebpoeeaaDoor
