/- Plain: parts of a row turned, merged in place (symmetric merging), blocks that are sorted. -/
import Derived.Sort.LotA
namespace Go.Proofs.YtokllgdbmnmieaaGreat
open Go.Sort
variable {α : Type} [Inhabited α]

/-! Ranges that are exchanged. -/
def swpR (a b : Nat) (d : Array α) : Nat → Array α
  | 0 => d
  | i + 1 => swp (swpR a b d i) (a + i) (b + i)
theorem swpR_size (a b : Nat) (d : Array α) : ∀ i, (swpR a b d i).size = d.size
  | 0 => rfl
  | i + 1 => by rw [swpR, swp_size]; exact swpR_size a b d i
theorem swpR_get {a b : Nat} {d : Array α} : ∀ {i : Nat}, a + i ≤ b → b + i ≤ d.size → ∀ t, (swpR a b d i)[t]! = if a ≤ t ∧ t < a + i then d[t - a + b]! else if b ≤ t ∧ t < b + i then d[t - b + a]! else d[t]!
  | 0, _, _, t => by rw [if_neg (by omega), if_neg (by omega)]; rfl
  | i + 1, h1, h2, t => by
    have ih := fun t => swpR_get (a := a) (b := b) (d := d) (i := i) (by omega) (by omega) t
    rw [swpR, swp_get _ (by rw [swpR_size]; omega) (by rw [swpR_size]; omega)]
    by_cases e1 : t = b + i
    · subst e1
      rw [if_pos rfl, ih, if_neg (by omega), if_neg (by omega), if_neg (by omega), if_pos (by omega)]
      congr 1; omega
    · rw [if_neg e1]
      by_cases e2 : t = a + i
      · subst e2
        rw [if_pos rfl, ih, if_neg (by omega), if_neg (by omega), if_pos (by omega)]
        congr 1; omega
      · rw [if_neg e2, ih]
        by_cases e3 : a ≤ t ∧ t < a + i
        · rw [if_pos e3, if_pos (by omega)]
        · rw [if_neg e3]
          by_cases e4 : b ≤ t ∧ t < b + i
          · rw [if_pos e4, if_neg (by omega), if_pos (by omega)]
          · rw [if_neg e4, if_neg (by omega), if_neg (by omega)]
theorem swpR_perm {a b lo hi : Nat} {d : Array α} (h1 : lo ≤ a) (h0 : lo ≤ b) : ∀ {i : Nat}, a + i ≤ hi → b + i ≤ hi → hi ≤ d.size → PermIn lo hi d (swpR a b d i)
  | 0, _, _, _ => permIn_refl _ _ _
  | i + 1, h2, h3, h4 => by
    have ih := swpR_perm (d := d) h1 h0 (i := i) (by omega) (by omega) h4
    exact permIn_trans _ _ _ _ _ ih (swp_permIn _ _ _ _ _ (by omega) (by omega) (by omega) (by omega) (by rw [swpR_size]; exact h4))

/-! Two parts, side by side, that change their places. -/
structure Rot (a m b : Nat) (d d' : Array α) : Prop where
  perm : PermIn a b d d'
  low : ∀ t, a ≤ t → t < a + (b - m) → d'[t]! = d[t + (m - a)]!
  high : ∀ t, a + (b - m) ≤ t → t < b → d'[t]! = d[t - (b - m)]!
theorem Rot.size {a m b : Nat} {d d' : Array α} (h : Rot a m b d d') : d'.size = d.size := h.perm.1
theorem Rot.out {a m b : Nat} {d d' : Array α} (h : Rot a m b d d') (t : Nat) (ht : t < a ∨ b ≤ t) : d'[t]! = d[t]! := h.perm.2.1 t ht

theorem rot_more_left {m i j : Nat} {d d' : Array α} (hij : j < i) (him : i ≤ m) (hb : m + j ≤ d.size) (h : Rot (m - (i - j)) m (m + j) (swpR (m - i) m d j) d') : Rot (m - i) m (m + j) d d' := by
  have g := fun t => swpR_get (a := m - i) (b := m) (d := d) (i := j) (by omega) hb t
  refine ⟨permIn_trans _ _ _ _ _ (swpR_perm (by omega) (by omega) (by omega) (by omega) hb) (permIn_mono _ _ _ _ _ _ (by omega) (by omega) (by rw [swpR_size]; exact hb) h.perm), fun t h1 h2 => ?_, fun t h1 h2 => ?_⟩
  · rw [h.out t (by omega), g, if_pos (by omega)]
    congr 1; omega
  · by_cases h3 : t < m - (i - j) + (m + j - m)
    · rw [h.low t (by omega) h3, g, if_neg (by omega), if_pos (by omega)]
      congr 1; omega
    · rw [h.high t (by omega) h2, g, if_neg (by omega), if_neg (by omega)]
theorem rot_more_right {m i j : Nat} {d d' : Array α} (hij : i < j) (him : i ≤ m) (hb : m + j ≤ d.size) (h : Rot (m - i) m (m + (j - i)) (swpR (m - i) (m + j - i) d i) d') : Rot (m - i) m (m + j) d d' := by
  have g := fun t => swpR_get (a := m - i) (b := m + j - i) (d := d) (i := i) (by omega) (by omega) t
  refine ⟨permIn_trans _ _ _ _ _ (swpR_perm (by omega) (by omega) (by omega) (by omega) hb) (permIn_mono _ _ _ _ _ _ (by omega) (by omega) (by rw [swpR_size]; exact hb) h.perm), fun t h1 h2 => ?_, fun t h1 h2 => ?_⟩
  · by_cases h3 : t < m - i + (m + (j - i) - m)
    · rw [h.low t h1 h3, g, if_neg (by omega), if_neg (by omega)]
    · by_cases h4 : t < m + (j - i)
      · rw [h.high t (by omega) h4, g, if_pos (by omega)]
        congr 1; omega
      · omega
  · rw [h.out t (by omega), g, if_neg (by omega), if_pos (by omega)]
    congr 1; omega
theorem rot_even {m i : Nat} {d : Array α} (him : i ≤ m) (hb : m + i ≤ d.size) : Rot (m - i) m (m + i) d (swpR (m - i) m d i) := by
  have g := fun t => swpR_get (a := m - i) (b := m) (d := d) (i := i) (by omega) hb t
  refine ⟨swpR_perm (by omega) (by omega) (by omega) (by omega) hb, fun t h1 h2 => ?_, fun t h1 h2 => ?_⟩
  · rw [g, if_pos (by omega)]; congr 1; omega
  · rw [g, if_neg (by omega), if_pos (by omega)]; congr 1; omega

/-! One element that is carried to the right, to the left. -/
theorem rot_one_start {a : Nat} {d : Array α} : Rot a (a + 1) (a + 1) d d :=
  ⟨permIn_refl _ _ _, fun t h1 h2 => by omega, fun t h1 h2 => by congr 1; omega⟩
theorem rot_one_step {a k : Nat} {d d' : Array α} (hk : a ≤ k) (hs : k + 1 < d.size) (h : Rot a (a + 1) (k + 1) d d') : Rot a (a + 1) (k + 1 + 1) d (swp d' k (k + 1)) := by
  have g := swp_get d' (i := k) (j := k + 1) (by rw [h.size]; omega) (by rw [h.size]; omega)
  refine ⟨permIn_trans _ _ _ _ _ (permIn_mono _ _ _ _ _ _ (by omega) (by omega) (by omega) h.perm) (swp_permIn _ _ _ _ _ hk (by omega) (by omega) (by omega) (by rw [h.size]; omega)), fun t h1 h2 => ?_, fun t h1 h2 => ?_⟩
  · rw [g, if_neg (by omega)]
    by_cases e : t = k
    · rw [if_pos e, h.out (k + 1) (by omega)]; congr 1; omega
    · rw [if_neg e, h.low t h1 (by omega)]
  · obtain rfl : t = k + 1 := by omega
    rw [g, if_pos rfl, h.high k (by omega) (by omega)]
    congr 1; omega
theorem rot_back_start {m : Nat} {d : Array α} : Rot m m (m + 1) d d :=
  ⟨permIn_refl _ _ _, fun t h1 h2 => by congr 1; omega, fun t h1 h2 => by omega⟩
theorem rot_back_step {k m : Nat} {d d' : Array α} (hk : k + 1 ≤ m) (hs : m < d.size) (h : Rot (k + 1) m (m + 1) d d') : Rot k m (m + 1) d (swp d' (k + 1) k) := by
  have g := swp_get d' (i := k + 1) (j := k) (by rw [h.size]; omega) (by rw [h.size]; omega)
  refine ⟨permIn_trans _ _ _ _ _ (permIn_mono _ _ _ _ _ _ (by omega) (by omega) (by omega) h.perm) (swp_permIn _ _ _ _ _ (by omega) (by omega) (by omega) (by omega) (by rw [h.size]; omega)), fun t h1 h2 => ?_, fun t h1 h2 => ?_⟩
  · obtain rfl : t = k := by omega
    rw [g, if_pos rfl, h.low (t + 1) (by omega) (by omega)]
    congr 1; omega
  · rw [g, if_neg (by omega)]
    by_cases e : t = k + 1
    · rw [if_pos e, h.out k (by omega)]; congr 1; omega
    · rw [if_neg e, h.high t (by omega) h2]

variable {lt : α → α → Bool}

/-- Sorted parts, of which nothing is out of order. -/
theorem sorted_join {a m b : Nat} {d : Array α} (h1 : SortedIn lt a m d) (h2 : SortedIn lt m b d) (h : ∀ i j, a ≤ i → i < m → m ≤ j → j < b → lt d[j]! d[i]! = false) : SortedIn lt a b d := by
  intro i j hi hij hj
  by_cases hjm : j < m
  · exact h1 i j hi hij hjm
  · by_cases him : i < m
    · exact h i j hi him (by omega) hj
    · exact h2 i j (by omega) hij hj

/-- One element into what stands behind it. -/
theorem sorted_right (hS : SWO lt) {a b i : Nat} {d d' : Array α} (hs : SortedIn lt (a + 1) b d) (hi : a + 1 ≤ i) (hib : i ≤ b) (h1 : ∀ t, a + 1 ≤ t → t < i → lt d[t]! d[a]! = true) (h2 : ∀ t, i ≤ t → t < b → lt d[t]! d[a]! = false) (hr : Rot a (a + 1) i d d') : SortedIn lt a b d' := by
  have lo : ∀ t, a ≤ t → t + 1 < i → d'[t]! = d[t + 1]! := fun t h3 h4 => by rw [hr.low t h3 (by omega)]; congr 1; omega
  have at' : d'[i - 1]! = d[a]! := by rw [hr.high (i - 1) (by omega) (by omega)]; congr 1; omega
  have hi' : ∀ t, i ≤ t → d'[t]! = d[t]! := fun t h3 => hr.out t (by omega)
  intro p q hp hpq hq
  by_cases hq1 : q + 1 < i
  · rw [lo p hp (by omega), lo q (by omega) hq1]
    exact hs (p + 1) (q + 1) (by omega) (by omega) (by omega)
  · by_cases hq2 : q + 1 = i
    · rw [show q = i - 1 by omega, at', lo p hp (by omega)]
      exact hS.asymmA (h1 (p + 1) (by omega) (by omega))
    · rw [hi' q (by omega)]
      by_cases hp1 : p + 1 < i
      · rw [lo p hp hp1]
        exact hs (p + 1) q (by omega) (by omega) hq
      · by_cases hp2 : p + 1 = i
        · rw [show p = i - 1 by omega, at']
          exact h2 q (by omega) hq
        · rw [hi' p (by omega)]
          exact hs p q (by omega) hpq hq
/-- One element into what stands ahead of it. -/
theorem sorted_left (hS : SWO lt) {a m i : Nat} {d d' : Array α} (hs : SortedIn lt a m d) (hi : a ≤ i) (him : i ≤ m) (h1 : ∀ t, a ≤ t → t < i → lt d[m]! d[t]! = false) (h2 : ∀ t, i ≤ t → t < m → lt d[m]! d[t]! = true) (hr : Rot i m (m + 1) d d') : SortedIn lt a (m + 1) d' := by
  have lo : ∀ t, t < i → d'[t]! = d[t]! := fun t h3 => hr.out t (by omega)
  have at' : d'[i]! = d[m]! := by rw [hr.low i (by omega) (by omega)]; congr 1; omega
  have hi' : ∀ t, i < t → t ≤ m → d'[t]! = d[t - 1]! := fun t h3 h4 => by rw [hr.high t (by omega) (by omega)]; congr 1; omega
  intro p q hp hpq hq
  by_cases hq1 : q < i
  · rw [lo p (by omega), lo q hq1]
    exact hs p q hp hpq (by omega)
  · by_cases hq2 : q = i
    · subst hq2
      rw [at', lo p hpq]
      exact h1 p hp hpq
    · rw [hi' q (by omega) (by omega)]
      by_cases hp1 : p < i
      · rw [lo p hp1]
        exact hs p (q - 1) hp (by omega) (by omega)
      · by_cases hp2 : p = i
        · subst hp2
          rw [at']
          exact hS.asymmA (h2 (q - 1) (by omega) (by omega))
        · rw [hi' p (by omega) (by omega)]
          exact hs (p - 1) (q - 1) (by omega) (by omega) (by omega)

/-- What the search of the symmetric merge has found. -/
structure Found (lt : α → α → Bool) (a m b mid start : Nat) (d : Array α) : Prop where
  as : a ≤ start
  sm : start ≤ m
  smid : start ≤ mid
  ms : mid + m ≤ start + b
  me : start ≤ mid
  le1 : a < start → mid + m - start < b → lt d[mid + m - start]! d[start - 1]! = false
  le2 : start < m → m < mid + m - start → lt d[mid + m - start - 1]! d[start]! = true

theorem found_halves (hS : SWO lt) {a m b mid start : Nat} {d d1 : Array α} (ham : a ≤ mid) (hmb : mid ≤ b) (h1 : SortedIn lt a m d) (h2 : SortedIn lt m b d) (F : Found lt a m b mid start d) (hr : Rot start m (mid + m - start) d d1) :
    SortedIn lt a start d1 ∧ SortedIn lt start mid d1 ∧ SortedIn lt mid (mid + m - start) d1 ∧ SortedIn lt (mid + m - start) b d1 ∧ ∀ i j, a ≤ i → i < mid → mid ≤ j → j < b → lt d1[j]! d1[i]! = false := by
  have as := F.as
  have sm := F.sm
  have smid := F.smid
  have ms := F.ms
  have g1 : ∀ t, t < start → d1[t]! = d[t]! := fun t h => hr.out t (by omega)
  have g2 : ∀ t, start ≤ t → t < mid → d1[t]! = d[t + (m - start)]! := fun t h h' => hr.low t h (by omega)
  have g3 : ∀ t, mid ≤ t → t < mid + m - start → d1[t]! = d[t - (mid - start)]! := fun t h h' => by rw [hr.high t (by omega) h']; congr 1; omega
  have g4 : ∀ t, mid + m - start ≤ t → d1[t]! = d[t]! := fun t h => hr.out t (by omega)
  refine ⟨fun i j hi hij hj => ?_, fun i j hi hij hj => ?_, fun i j hi hij hj => ?_, fun i j hi hij hj => ?_, fun i j hi him hj hjb => ?_⟩
  · rw [g1 i (by omega), g1 j hj]; exact h1 i j hi hij (by omega)
  · rw [g2 i hi (by omega), g2 j (by omega) hj]; exact h2 _ _ (by omega) (by omega) (by omega)
  · rw [g3 i hi (by omega), g3 j (by omega) hj]; exact h1 _ _ (by omega) (by omega) (by omega)
  · rw [g4 i hi, g4 j (by omega)]; exact h2 _ _ (by omega) (by omega) (by omega)
  · have le : ∀ x y, lt y x = false → ∀ z, lt z y = false → lt z x = false := fun x y h z h' => hS.ntrans _ _ _ h' h
    by_cases hi1 : i < start
    · rw [g1 i hi1]
      by_cases hj1 : j < mid + m - start
      · rw [g3 j hj hj1]; exact h1 _ _ hi (by omega) (by omega)
      · rw [g4 j (by omega)]
        have e := F.le1 (by omega) (by omega)
        have k1 : lt d[mid + m - start]! d[i]! = false := by
          by_cases e1 : i = start - 1
          · rw [e1]; exact e
          · exact le _ _ (h1 i (start - 1) hi (by omega) (by omega)) _ e
        by_cases e2 : j = mid + m - start
        · rw [e2]; exact k1
        · exact le _ _ k1 _ (h2 (mid + m - start) j (by omega) (by omega) hjb)
    · rw [g2 i (by omega) him]
      by_cases hj1 : j < mid + m - start
      · rw [g3 j hj hj1]
        have e := hS.asymmA (F.le2 (by omega) (by omega))
        have k1 : lt d[start]! d[i + (m - start)]! = false := by
          by_cases e1 : i + (m - start) = mid + m - start - 1
          · rw [e1]; exact e
          · exact le _ _ (h2 (i + (m - start)) (mid + m - start - 1) (by omega) (by omega) (by omega)) _ e
        by_cases e2 : j - (mid - start) = start
        · rw [e2]; exact k1
        · exact le _ _ k1 _ (h1 start (j - (mid - start)) (by omega) (by omega) (by omega))
      · rw [g4 j (by omega)]
        exact h2 _ _ (by omega) (by omega) hjb
/-- Behind both halves' merging. -/
theorem found_done {a b mid : Nat} {d1 d2 d3 : Array α} (ham : a ≤ mid) (hmb : mid ≤ b) (hb : b ≤ d1.size) (hx : ∀ i j, a ≤ i → i < mid → mid ≤ j → j < b → lt d1[j]! d1[i]! = false)
    (p2 : PermIn a mid d1 d2) (s2 : SortedIn lt a mid d2) (p3 : PermIn mid b d2 d3) (s3 : SortedIn lt mid b d3) : PermIn a b d1 d3 ∧ SortedIn lt a b d3 := by
  have hb2 : b ≤ d2.size := by rw [p2.1]; exact hb
  refine ⟨permIn_trans _ _ _ _ _ (permIn_mono _ _ _ _ _ _ (Nat.le_refl _) hmb hb p2) (permIn_mono _ _ _ _ _ _ ham (Nat.le_refl _) hb2 p3), sorted_join (m := mid) (fun i j hi hij hj => ?_) s3 (fun i j hi him hj hjb => ?_)⟩
  · rw [p3.2.1 i (by omega), p3.2.1 j (by omega)]; exact s2 i j hi hij hj
  · rw [p3.2.1 i (by omega)]
    have k := permIn_all d1 d2 a mid (fun x => ∀ j, mid ≤ j → j < b → lt d1[j]! x = false) (by omega) p2 (fun i hi him j hj hjb => hx i j hi him hj hjb)
    have k2 := permIn_all d2 d3 mid b (fun x => lt x d2[i]! = false) hb2 p3 (fun j hj hjb => by rw [p2.2.1 j (by omega)]; exact k i hi him j hj hjb)
    exact k2 j hj hjb

/-! Blocks. -/
/-- The blocks of a size, up to a place, are sorted. -/
def BlkTo (lt : α → α → Bool) (B hi : Nat) (d : Array α) : Prop := ∀ q, (q + 1) * B ≤ hi → SortedIn lt (q * B) ((q + 1) * B) d
/-- The blocks of a size, from a place on, are sorted; the last one may be shorter. -/
def BlkFrom (lt : α → α → Bool) (B lo n : Nat) (d : Array α) : Prop := ∀ q, lo ≤ q * B → SortedIn lt (q * B) (min ((q + 1) * B) n) d
theorem SortedIn.same {a b : Nat} {d d' : Array α} (h : SortedIn lt a b d) (e : ∀ t, a ≤ t → t < b → d'[t]! = d[t]!) : SortedIn lt a b d' := by
  intro i j hi hij hj
  rw [e i hi (by omega), e j (by omega) hj]
  exact h i j hi hij hj
theorem SortedIn.part {a b x y : Nat} {d : Array α} (h : SortedIn lt a b d) (h1 : a ≤ x) (h2 : y ≤ b) : SortedIn lt x y d := fun i j hi hij hj => h i j (by omega) hij (by omega)
theorem BlkTo.zero {B : Nat} (hB : 0 < B) (d : Array α) : BlkTo lt B 0 d := fun q h => by
  have : 0 < (q + 1) * B := Nat.mul_pos (by omega) hB
  omega
theorem BlkTo.next {B a : Nat} {d d' : Array α} (h : BlkTo lt B (a * B) d) (hp : PermIn (a * B) ((a + 1) * B) d d') (hs : SortedIn lt (a * B) ((a + 1) * B) d') : BlkTo lt B ((a + 1) * B) d' := by
  intro q hq
  by_cases e : q = a
  · subst e; exact hs
  · by_cases h0 : B = 0
    · subst h0; simp; intro i j hi hij hj; omega
    · have h1 : q + 1 ≤ a + 1 := Nat.le_of_mul_le_mul_right hq (by omega)
      have h2 : (q + 1) * B ≤ a * B := Nat.mul_le_mul_right B (by omega)
      exact SortedIn.same (h q h2) (fun t _ ht => hp.2.1 t (by omega))
/-- All blocks, the last one shorter. -/
theorem BlkTo.whole {B a n : Nat} {d d' : Array α} (hB : 0 < B) (h : BlkTo lt B (a * B) d) (h1 : a * B ≤ n) (h2 : n < (a + 1) * B) (hp : PermIn (a * B) n d d') (hs : SortedIn lt (a * B) n d') : BlkFrom lt B 0 n d' := by
  intro q _
  by_cases e : q < a
  · have h3 : (q + 1) * B ≤ a * B := Nat.mul_le_mul_right B (by omega)
    rw [Nat.min_eq_left (by omega)]
    exact SortedIn.same (h q h3) (fun t _ ht => hp.2.1 t (by omega))
  · have h3 : a * B ≤ q * B := Nat.mul_le_mul_right B (by omega)
    exact SortedIn.part hs h3 (Nat.min_le_right _ _)
/-- A pair of blocks is merged. -/
theorem blk_pair {B a n : Nat} {d d' : Array α} (h1 : BlkTo lt (2 * B) (a * (2 * B)) d) (h2 : BlkFrom lt B (a * (2 * B)) n d) (hp : PermIn (a * (2 * B)) ((a + 1) * (2 * B)) d d') (hs : SortedIn lt (a * (2 * B)) ((a + 1) * (2 * B)) d') :
    BlkTo lt (2 * B) ((a + 1) * (2 * B)) d' ∧ BlkFrom lt B ((a + 1) * (2 * B)) n d' :=
  ⟨h1.next hp hs, fun q hq => by
    have h3 : a * (2 * B) ≤ (a + 1) * (2 * B) := Nat.mul_le_mul_right _ (by omega)
    exact SortedIn.same (h2 q (by omega)) (fun t ht _ => hp.2.1 t (by omega))⟩
theorem blk_parts {B a n : Nat} {d : Array α} (h2 : BlkFrom lt B (a * (2 * B)) n d) (h : (a + 1) * (2 * B) ≤ n) : SortedIn lt (a * (2 * B)) (a * (2 * B) + B) d ∧ SortedIn lt (a * (2 * B) + B) ((a + 1) * (2 * B)) d := by
  have e1 : a * (2 * B) = (2 * a) * B := by rw [← Nat.mul_assoc, Nat.mul_comm a 2]
  have e2 : (a + 1) * (2 * B) = (2 * a + 2) * B := by rw [← Nat.mul_assoc]; congr 1; omega
  have e3 : (2 * a + 1) * B = (2 * a) * B + B := by rw [Nat.add_mul, Nat.one_mul]
  have e4 : (2 * a + 2) * B = (2 * a) * B + 2 * B := by rw [Nat.add_mul]
  have k1 := h2 (2 * a) (by omega)
  have k2 := h2 (2 * a + 1) (by omega)
  rw [show 2 * a + 1 + 1 = 2 * a + 2 from rfl] at k2
  rw [Nat.min_eq_left (by omega)] at k1 k2
  exact ⟨SortedIn.part k1 (by omega) (by omega), SortedIn.part k2 (by omega) (by omega)⟩
/-- The rest that is no pair: merged, or one block. -/
theorem blk_rest {B a n : Nat} {d : Array α} (h2 : BlkFrom lt B (a * (2 * B)) n d) (h : n < (a + 1) * (2 * B)) : SortedIn lt (a * (2 * B)) (min (a * (2 * B) + B) n) d ∧ SortedIn lt (a * (2 * B) + B) n d := by
  have e1 : a * (2 * B) = (2 * a) * B := by rw [← Nat.mul_assoc, Nat.mul_comm a 2]
  have e2 : (a + 1) * (2 * B) = (2 * a + 2) * B := by rw [← Nat.mul_assoc]; congr 1; omega
  have e3 : (2 * a + 1) * B = (2 * a) * B + B := by rw [Nat.add_mul, Nat.one_mul]
  have e4 : (2 * a + 2) * B = (2 * a) * B + 2 * B := by rw [Nat.add_mul]
  have k1 := h2 (2 * a) (by omega)
  have k2 := h2 (2 * a + 1) (by omega)
  rw [show 2 * a + 1 + 1 = 2 * a + 2 from rfl] at k2
  rw [Nat.min_eq_right (by omega)] at k2
  exact ⟨SortedIn.part k1 (by omega) (by rw [e3, ← e1]; exact Nat.le_refl _), SortedIn.part k2 (by omega) (Nat.le_refl _)⟩
theorem blk_one {B n : Nat} {d : Array α} (h : BlkFrom lt B 0 n d) (hn : n ≤ B) : SortedIn lt 0 n d := by
  have := h 0 (by omega)
  simp at this
  rw [Nat.min_eq_right hn] at this
  exact this

/-! Searching by halves. -/
theorem bs_lt (hS : SWO lt) {m b t h : Nat} {d : Array α} {x : α} (hs : SortedIn lt m b d) (h1 : m ≤ t) (h2 : t ≤ h) (h3 : h < b) (hl : lt d[h]! x = true) : lt d[t]! x = true := by
  by_cases e : t = h
  · rw [e]; exact hl
  · cases hc : lt d[t]! x with
    | true => rfl
    | false =>
      have := hS.ntrans _ _ _ (hs t h h1 (by omega) h3) hc
      rw [hl] at this
      cases this
theorem bs_ge (hS : SWO lt) {m b t h : Nat} {d : Array α} {x : α} (hs : SortedIn lt m b d) (h1 : m ≤ h) (h2 : h ≤ t) (h3 : t < b) (hl : lt d[h]! x = false) : lt d[t]! x = false := by
  by_cases e : t = h
  · rw [e]; exact hl
  · exact hS.ntrans _ _ _ (hs h t h1 (by omega) h3) hl
theorem bs_le (hS : SWO lt) {m b t h : Nat} {d : Array α} {x : α} (hs : SortedIn lt m b d) (h1 : m ≤ t) (h2 : t ≤ h) (h3 : h < b) (hl : lt x d[h]! = false) : lt x d[t]! = false := by
  by_cases e : t = h
  · rw [e]; exact hl
  · exact hS.ntrans _ _ _ hl (hs t h h1 (by omega) h3)
theorem bs_gt (hS : SWO lt) {m b t h : Nat} {d : Array α} {x : α} (hs : SortedIn lt m b d) (h1 : m ≤ h) (h2 : h ≤ t) (h3 : t < b) (hl : lt x d[h]! = true) : lt x d[t]! = true := by
  by_cases e : t = h
  · rw [e]; exact hl
  · cases hc : lt x d[t]! with
    | true => rfl
    | false =>
      have := hS.ntrans _ _ _ hc (hs h t h1 (by omega) h3)
      rw [hl] at this
      cases this
theorem rot_nil {a m b : Nat} {d : Array α} (h : a = m ∨ m = b) : Rot a m b d d :=
  ⟨permIn_refl _ _ _, fun t h1 h2 => by congr 1; omega, fun t h1 h2 => by congr 1; omega⟩
/-- The search's ends. -/
theorem found_of {a m b mid lo hi start : Nat} {d : Array α} (ham : a < m) (hmb : m < b) (hmid : mid = (a + b) / 2) (hlh : (mid < m ∧ lo = mid + m - b ∧ hi = mid) ∨ (m ≤ mid ∧ lo = a ∧ hi = m)) (h1 : lo ≤ start) (h2 : start ≤ hi)
    (h3 : lo < start → lt d[mid + m - start]! d[start - 1]! = false) (h4 : start < hi → lt d[mid + m - start - 1]! d[start]! = true) : Found lt a m b mid start d := by
  refine ⟨by omega, by omega, by omega, by omega, by omega, fun e1 e2 => ?_, fun e1 e2 => ?_⟩
  · exact h3 (by omega)
  · exact h4 (by omega)
end Go.Proofs.YtokllgdbmnmieaaGreat
