/- tidemillref15: rising, two, Merge. -/
import Derived.Test.YtabnngcaohgppaaSl
namespace Go.Proofs.Ytabnngcaohgppaa
open Go.RowKit Go.Sort Go.Lib

set_option maxHeartbeats 2000000 in
set_option maxRecDepth 100000 in
theorem rrising_any (w : World) (a : Option Addr) (n c : Nat) (l : List Pt) (hs : Src w 3 (.slice a n c) n (pts l)) (hn : n < 4611686018427387904) :
    Calls Try.prog 41 #[.slice a n c] w fun e w' => e = .returned (.bool (risesB l)) ∧ Ext w w' := by
  have HS := Lib.hid hs
  have HLn := Lib.hid (src_len hs); clear hs
  go_enter Try.func41, Try.ntmps41
  go_wp2_with fail
  go_loopw [3] (fun i wr => ∃ k : Nat, k ≤ n ∧ i = .int .i64 ((k : Int) + 1) ∧ Hid (Ext w wr) ∧ Hid (∀ (i : Nat) (p q : Pt), i < k → l[i]? = some p → l[i + 1]? = some q → p.t < q.t)) (fun i _ => n + 1 - (intOf i).toNat)
  case atStart => exact ⟨0, by omega, rfl, Lib.hid (Ext.refl _), Lib.hid (fun i p q h => by omega)⟩
  case round =>
    obtain ⟨k, hk, rfl, hx, I⟩ := hrel
    by_cases hlt : k + 1 < n
    · obtain ⟨b, off, p, rfl, hp, c0, _, _⟩ := pts_src (HS.out.ext hx.out) hlt
      obtain ⟨b', off', p', hbb, hp', d0, _, _⟩ := pts_src (HS.out.ext hx.out) (show k < n by omega)
      have Hp := Lib.hid hp; have Hp' := Lib.hid hp'
      simp at hbb
      obtain ⟨rfl, rfl⟩ := hbb
      clear hp hp'
      have hlt' : (k : Int) + 1 < (n : Int) := by omega
      by_cases hle : p.t ≤ p'.t
      · have HF : Hid (risesB l = false) := Lib.hid (by
          rw [← Bool.not_eq_true, risesB_iff]
          intro h; have := h k p' p Hp'.out Hp.out; omega)
        go_wp2_with fail
        go_quiet (fail)
        go_wp2_with fail
        go_ret
        rw [HF.out]
        exact ⟨rfl, hx.out.trans (Ext.drewN _ _)⟩
      · go_wp2_with fail
        go_quiet (fail)
        go_wp2_with fail
        go_roundw
        case rel =>
          refine ⟨k + 1, by omega, by go_num, Lib.hid (hx.out.trans (Ext.drewN _ _)), Lib.hid (fun i x y h hx hy => ?_)⟩
          by_cases hij : i = k
          · subst hij
            rw [Hp'.out] at hx; rw [Hp.out] at hy
            cases hx; cases hy; omega
          · exact I.out i x y (by omega) hx hy
        case measure => simp [intOf]; omega
    · have HF : Hid (risesB l = true) := Lib.hid (by
        rw [risesB_iff]
        intro i p q hp hq
        exact I.out i p q (by have := (List.getElem?_eq_some_iff.1 hq).1; have := HLn.out; omega) hp hq)
      go_wp2_with fail
      go_ret
      rw [HF.out]
      exact ⟨rfl, hx.out⟩

/-! Two lists as one. -/
structure Two (a b out : List Pt) : Prop where
  rises : Rises out
  best : ∀ p ∈ out, (p ∈ a ∧ ∀ q ∈ b, q.t = p.t → q.s < p.s) ∨ (p ∈ b ∧ ∀ q ∈ a, q.t = p.t → q.s ≤ p.s)
  has : ∀ q, q ∈ a ∨ q ∈ b → ∃ p ∈ out, p.t = q.t

theorem Two.nil : Two [] [] [] := ⟨Rises.nil, by simp, by simp⟩
theorem Two.isMerge {a b out : List Pt} (h : Two a b out) (ha : Rises a) (hb : Rises b) : IsMerge [a, b] out := by
  refine ⟨h.rises, fun p hp => ?_, fun j m q hj hq => ?_⟩
  · rcases h.best p hp with ⟨h1, h2⟩ | ⟨h1, h2⟩
    · refine ⟨0, a, rfl, h1, fun j m q hj hq ht => ?_⟩
      match j, hj with
      | 0, hj => simp at hj; subst hj; have := ha.same hq h1 ht; subst this; exact .inr ⟨rfl, Nat.le_refl _⟩
      | 1, hj => simp at hj; subst hj; exact .inl (h2 q hq ht)
      | j + 2, hj => simp at hj
    · refine ⟨1, b, rfl, h1, fun j m q hj hq ht => ?_⟩
      match j, hj with
      | 0, hj => simp at hj; subst hj; have := h2 q hq ht; omega
      | 1, hj => simp at hj; subst hj; have := hb.same hq h1 ht; subst this; exact .inr ⟨rfl, Nat.le_refl _⟩
      | j + 2, hj => simp at hj
  · match j, hj with
    | 0, hj => simp at hj; subst hj; exact h.has q (.inl hq)
    | 1, hj => simp at hj; subst hj; exact h.has q (.inr hq)
    | j + 2, hj => simp at hj
theorem Two.left {a b out : List Pt} (h : Two a b out) {p : Pt} (hp : ∀ q ∈ out, q.t < p.t) : Two (a ++ [p]) b (out ++ [p]) := by
  refine ⟨h.rises.snoc hp, fun x hx => ?_, fun q hq => ?_⟩
  · rcases List.mem_append.1 hx with hx' | hx
    · have hxo := hp x hx'
      rcases h.best x hx' with ⟨h1, h2⟩ | ⟨h1, h2⟩
      · exact .inl ⟨List.mem_append_left _ h1, h2⟩
      · refine .inr ⟨h1, fun q hq ht => ?_⟩
        rcases List.mem_append.1 hq with hq | hq
        · exact h2 q hq ht
        · simp at hq; subst hq; omega
    · simp at hx; subst hx
      refine .inl ⟨by simp, fun q hq ht => ?_⟩
      obtain ⟨y, hy, hyt⟩ := h.has q (.inr hq)
      have := hp y hy; omega
  · rcases hq with hq | hq
    · rcases List.mem_append.1 hq with hq | hq
      · obtain ⟨y, hy, hyt⟩ := h.has q (.inl hq); exact ⟨y, List.mem_append_left _ hy, hyt⟩
      · simp at hq; subst hq; exact ⟨q, by simp, rfl⟩
    · obtain ⟨y, hy, hyt⟩ := h.has q (.inr hq); exact ⟨y, List.mem_append_left _ hy, hyt⟩
theorem Two.right {a b out : List Pt} (h : Two a b out) {p : Pt} (hp : ∀ q ∈ out, q.t < p.t) : Two a (b ++ [p]) (out ++ [p]) := by
  refine ⟨h.rises.snoc hp, fun x hx => ?_, fun q hq => ?_⟩
  · rcases List.mem_append.1 hx with hx' | hx
    · have hxo := hp x hx'
      rcases h.best x hx' with ⟨h1, h2⟩ | ⟨h1, h2⟩
      · refine .inl ⟨h1, fun q hq ht => ?_⟩
        rcases List.mem_append.1 hq with hq | hq
        · exact h2 q hq ht
        · simp at hq; subst hq; omega
      · exact .inr ⟨List.mem_append_left _ h1, h2⟩
    · simp at hx; subst hx
      refine .inr ⟨by simp, fun q hq ht => ?_⟩
      obtain ⟨y, hy, hyt⟩ := h.has q (.inl hq)
      have := hp y hy; omega
  · rcases hq with hq | hq
    · obtain ⟨y, hy, hyt⟩ := h.has q (.inl hq); exact ⟨y, List.mem_append_left _ hy, hyt⟩
    · rcases List.mem_append.1 hq with hq | hq
      · obtain ⟨y, hy, hyt⟩ := h.has q (.inr hq); exact ⟨y, List.mem_append_left _ hy, hyt⟩
      · simp at hq; subst hq; exact ⟨q, by simp, rfl⟩
theorem Two.both {a b out : List Pt} (h : Two a b out) {x y z : Pt} (hxy : x.t = y.t) (hp : ∀ q ∈ out, q.t < x.t) (hz : (z = x ∧ y.s < x.s) ∨ (z = y ∧ x.s ≤ y.s)) : Two (a ++ [x]) (b ++ [y]) (out ++ [z]) := by
  have hzt : z.t = x.t := by rcases hz with ⟨rfl, _⟩ | ⟨rfl, _⟩ <;> simp [hxy]
  refine ⟨h.rises.snoc (fun q hq => by have := hp q hq; omega), fun u hu => ?_, fun q hq => ?_⟩
  · rcases List.mem_append.1 hu with hu | hu
    · have hut := hp u hu
      rcases h.best u hu with ⟨h1, h2⟩ | ⟨h1, h2⟩
      · refine .inl ⟨List.mem_append_left _ h1, fun q hq ht => ?_⟩
        rcases List.mem_append.1 hq with hq | hq
        · exact h2 q hq ht
        · simp at hq; subst hq; omega
      · refine .inr ⟨List.mem_append_left _ h1, fun q hq ht => ?_⟩
        rcases List.mem_append.1 hq with hq | hq
        · exact h2 q hq ht
        · simp at hq; subst hq; omega
    · simp at hu; subst hu
      rcases hz with ⟨rfl, hs⟩ | ⟨rfl, hs⟩
      · refine .inl ⟨by simp, fun q hq ht => ?_⟩
        rcases List.mem_append.1 hq with hq | hq
        · obtain ⟨v, hv, hvt⟩ := h.has q (.inr hq); have := hp v hv; omega
        · simp at hq; subst hq; exact hs
      · refine .inr ⟨by simp, fun q hq ht => ?_⟩
        rcases List.mem_append.1 hq with hq | hq
        · obtain ⟨v, hv, hvt⟩ := h.has q (.inl hq); have := hp v hv; omega
        · simp at hq; subst hq; exact hs
  · have key : ∀ q, (q ∈ a ∨ q ∈ b) → ∃ p ∈ out ++ [z], p.t = q.t := fun q hq => by
      obtain ⟨v, hv, hvt⟩ := h.has q hq; exact ⟨v, List.mem_append_left _ hv, hvt⟩
    rcases hq with hq | hq
    · rcases List.mem_append.1 hq with hq | hq
      · exact key q (.inl hq)
      · simp at hq; subst hq; exact ⟨z, by simp, hzt⟩
    · rcases List.mem_append.1 hq with hq | hq
      · exact key q (.inr hq)
      · simp at hq; subst hq; exact ⟨z, by simp, by omega⟩

/-- What holds while two lists are taken. -/
structure TwoAt (a b out : List Pt) (i k : Nat) : Prop where
  two : Two (a.take i) (b.take k) out
  la : ∀ p ∈ out, ∀ (j : Nat) (q : Pt), i ≤ j → a[j]? = some q → p.t < q.t
  lb : ∀ p ∈ out, ∀ (j : Nat) (q : Pt), k ≤ j → b[j]? = some q → p.t < q.t
  len : out.length ≤ i + k

theorem TwoAt.start (a b : List Pt) : TwoAt a b [] 0 0 := ⟨by simpa using Two.nil, by simp, by simp, by simp⟩
theorem rises_le {b : List Pt} (hb : Rises b) {k j : Nat} {x y : Pt} (hx : b[k]? = some x) (hy : b[j]? = some y) (h : k ≤ j) : x.t ≤ y.t := by
  rcases Nat.lt_or_ge k j with h' | h'
  · have := hb.at hx hy h'; omega
  · obtain rfl : k = j := by omega
    rw [hx] at hy; cases hy; exact Int.le_refl _
theorem TwoAt.left {a b out : List Pt} {i k : Nat} {x : Pt} (h : TwoAt a b out i k) (ha : Rises a) (hb : Rises b) (hx : a[i]? = some x) (hlt : ∀ y, b[k]? = some y → x.t < y.t) : TwoAt a b (out ++ [x]) (i + 1) k := by
  have hlo : ∀ q ∈ out, q.t < x.t := fun q hq => h.la q hq i x (Nat.le_refl _) hx
  refine ⟨by rw [take_snoc' hx]; exact h.two.left hlo, fun p hp j q hj hq => ?_, fun p hp j q hj hq => ?_, by have := h.len; simp; omega⟩
  · rcases List.mem_append.1 hp with hp | hp
    · exact h.la p hp j q (by omega) hq
    · simp at hp; subst hp; exact ha.at hx hq (by omega)
  · rcases List.mem_append.1 hp with hp | hp
    · exact h.lb p hp j q hj hq
    · simp at hp; subst hp
      have hjl := (List.getElem?_eq_some_iff.1 hq).1
      have hk : b[k]? = some (b[k]'(by omega)) := List.getElem?_eq_getElem (by omega)
      have h1 := hlt _ hk
      have h2 := rises_le hb hk hq hj
      omega
theorem TwoAt.right {a b out : List Pt} {i k : Nat} {y : Pt} (h : TwoAt a b out i k) (ha : Rises a) (hb : Rises b) (hy : b[k]? = some y) (hlt : ∀ x, a[i]? = some x → y.t < x.t) : TwoAt a b (out ++ [y]) i (k + 1) := by
  have hlo : ∀ q ∈ out, q.t < y.t := fun q hq => h.lb q hq k y (Nat.le_refl _) hy
  refine ⟨by rw [take_snoc' hy]; exact h.two.right hlo, fun p hp j q hj hq => ?_, fun p hp j q hj hq => ?_, by have := h.len; simp; omega⟩
  · rcases List.mem_append.1 hp with hp | hp
    · exact h.la p hp j q hj hq
    · simp at hp; subst hp
      have hjl := (List.getElem?_eq_some_iff.1 hq).1
      have hi : a[i]? = some (a[i]'(by omega)) := List.getElem?_eq_getElem (by omega)
      have h1 := hlt _ hi
      have h2 := rises_le ha hi hq hj
      omega
  · rcases List.mem_append.1 hp with hp | hp
    · exact h.lb p hp j q (by omega) hq
    · simp at hp; subst hp; exact hb.at hy hq (by omega)
theorem TwoAt.both {a b out : List Pt} {i k : Nat} {x y z : Pt} (h : TwoAt a b out i k) (ha : Rises a) (hb : Rises b) (hx : a[i]? = some x) (hy : b[k]? = some y) (hxy : x.t = y.t) (hz : (z = x ∧ y.s < x.s) ∨ (z = y ∧ x.s ≤ y.s)) : TwoAt a b (out ++ [z]) (i + 1) (k + 1) := by
  have hlo : ∀ q ∈ out, q.t < x.t := fun q hq => h.la q hq i x (Nat.le_refl _) hx
  have hzt : z.t = x.t := by rcases hz with ⟨rfl, _⟩ | ⟨rfl, _⟩ <;> simp [hxy]
  refine ⟨by rw [take_snoc' hx, take_snoc' hy]; exact h.two.both hxy hlo hz, fun p hp j q hj hq => ?_, fun p hp j q hj hq => ?_, by have := h.len; simp; omega⟩
  · rcases List.mem_append.1 hp with hp | hp
    · exact h.la p hp j q (by omega) hq
    · simp at hp; subst hp; have := ha.at hx hq (by omega); omega
  · rcases List.mem_append.1 hp with hp | hp
    · exact h.lb p hp j q (by omega) hq
    · simp at hp; subst hp; have := hb.at hy hq (by omega); omega

set_option maxHeartbeats 8000000 in
set_option maxRecDepth 100000 in
theorem two_any (w : World) (a b : Option Addr) (n c m d : Nat) (l k : List Pt) (hl : Src w 3 (.slice a n c) n (pts l)) (hk : Src w 3 (.slice b m d) m (pts k)) (hn : n + m < 4398046511104) (rl : Rises l) (rk : Rises k) :
    Calls Try.prog 42 #[.slice a n c, .slice b m d] w fun e w' => ∃ v out, e = .returned v ∧ CutTo w out v w' ∧ IsMerge [l, k] out ∧ out.length ≤ n + m := by
  have HL := Lib.hid hl; have HK := Lib.hid hk
  have Ln := Lib.hid (src_len hl); have Km := Lib.hid (src_len hk)
  have RL := Lib.hid rl; have RK := Lib.hid rk
  clear hl hk rl rk
  go_enter Try.func42, Try.ntmps42
  go_wp2_with fail
  go_loopw [5, 6, 7] (fun s5 s6 s7 wr => ∃ (i j on : Nat) (oa : Option Addr) (oc : Nat) (out : List Pt), s5 = .slice oa on oc ∧ s6 = .int .i64 i ∧ s7 = .int .i64 j ∧ i ≤ n ∧ j ≤ m ∧ on ≤ i + j ∧ Hid (on = out.length ∧ CutTo w out (.slice oa on oc) wr ∧ TwoAt l k out i j)) (fun _ s6 s7 _ => (n - (intOf s6).toNat) + (m - (intOf s7).toNat))
  case atStart => exact ⟨0, 0, 0, none, 0, [], rfl, rfl, rfl, by omega, by omega, by omega, Lib.hid ⟨rfl, CutTo.nil _, TwoAt.start _ _⟩⟩
  case round =>
    obtain ⟨i, j, on, oa, oc, out, rfl, rfl, rfl, hi, hj, hon, I⟩ := hrel
    by_cases hin : i < n
    · obtain ⟨xb, xo, x, hxa, hx, x0, x1, x2⟩ := pts_src (HL.out.ext I.out.2.1.ext) hin
      have HX := Lib.hid hx; clear hx
      subst hxa
      by_cases hjm : j < m
      · obtain ⟨yb, yo, y, hya, hy, y0, y1, y2⟩ := pts_src (HK.out.ext I.out.2.1.ext) hjm
        have HY := Lib.hid hy; clear hy
        subst hya
        have hb1 : ((j : Int) == (m : Int)) = false := by rw [beq_eq_false_iff_ne]; omega
        have hb2 : ((i : Int) == (n : Int)) = false := by rw [beq_eq_false_iff_ne]; omega
        rcases Int.lt_trichotomy x.t y.t with hlt | heq | hgt
        · go_wp2_with fail
          go_quiet (fail)
          go_wp2_with (at_builtin; go_must (refine wpList_append_to (n := out.length) (m := 1) elem_pt rfl _ _ rfl (v := .slice _ _ _) rfl rfl ((I.out.2.1.row.ext (Ext.drewN _ _)).alloc _) (src_pt' (p := x) (heap_alloc_new _ _)) (by unfold maxLen; have := I.out.1; omega) (by have := I.out.1; omega) ?_; intro v' w3 happ); have K := Lib.hid (I.out.2.1.snoc ((Ext.drewN _ _).alloc _) happ); obtain ⟨oa', oc', rfl⟩ := happ.row.shape; clear happ)
          go_roundw
          case rel => exact ⟨i + 1, j, out.length + 1, oa', oc', _, rfl, by go_num, by go_num, by omega, by omega, by have := I.out.1; omega, Lib.hid ⟨by simp, K.out, I.out.2.2.left RL.out RK.out HX.out (fun z hz => by rw [HY.out] at hz; cases hz; exact hlt)⟩⟩
          case measure => simp [intOf]; omega
        · have h1 : ¬ x.t < y.t := by omega
          have h2 : ¬ y.t < x.t := by omega
          have HEQ := Lib.hid heq
          clear heq
          by_cases hs : y.s < x.s
          · go_wp2_with fail
            go_quiet (fail)
            go_wp2_with fail
            go_quiet (fail)
            go_wp2_with fail
            go_quiet (fail)
            go_wp2_with (at_builtin; go_must (refine wpList_append_to (n := out.length) (m := 1) elem_pt rfl _ _ rfl (v := .slice _ _ _) rfl rfl ((I.out.2.1.row.ext (Ext.drewN _ _)).alloc _) (src_pt' (p := x) (heap_alloc_new _ _)) (by unfold maxLen; have := I.out.1; omega) (by have := I.out.1; omega) ?_; intro v' w3 happ); have K := Lib.hid (I.out.2.1.snoc ((Ext.drewN _ _).alloc _) happ); obtain ⟨oa', oc', rfl⟩ := happ.row.shape; clear happ)
            go_roundw
            case rel => exact ⟨i + 1, j + 1, out.length + 1, oa', oc', _, rfl, by go_num, by go_num, by omega, by omega, by have := I.out.1; omega, Lib.hid ⟨by simp, K.out, I.out.2.2.both RL.out RK.out HX.out HY.out HEQ.out (.inl ⟨rfl, hs⟩)⟩⟩
            case measure => simp [intOf]; omega
          · go_wp2_with fail
            go_quiet (fail)
            go_wp2_with fail
            go_quiet (fail)
            go_wp2_with fail
            go_quiet (fail)
            go_wp2_with (at_builtin; go_must (refine wpList_append_to (n := out.length) (m := 1) elem_pt rfl _ _ rfl (v := .slice _ _ _) rfl rfl ((I.out.2.1.row.ext (Ext.drewN _ _)).alloc _) (src_pt' (p := y) (heap_alloc_new _ _)) (by unfold maxLen; have := I.out.1; omega) (by have := I.out.1; omega) ?_; intro v' w3 happ); have K := Lib.hid (I.out.2.1.snoc ((Ext.drewN _ _).alloc _) happ); obtain ⟨oa', oc', rfl⟩ := happ.row.shape; clear happ)
            go_roundw
            case rel => exact ⟨i + 1, j + 1, out.length + 1, oa', oc', _, rfl, by go_num, by go_num, by omega, by omega, by have := I.out.1; omega, Lib.hid ⟨by simp, K.out, I.out.2.2.both RL.out RK.out HX.out HY.out HEQ.out (.inr ⟨rfl, by omega⟩)⟩⟩
            case measure => simp [intOf]; omega
        · have h1 : ¬ x.t < y.t := by omega
          go_wp2_with fail
          go_quiet (fail)
          go_wp2_with fail
          go_quiet (fail)
          go_wp2_with (at_builtin; go_must (refine wpList_append_to (n := out.length) (m := 1) elem_pt rfl _ _ rfl (v := .slice _ _ _) rfl rfl ((I.out.2.1.row.ext (Ext.drewN _ _)).alloc _) (src_pt' (p := y) (heap_alloc_new _ _)) (by unfold maxLen; have := I.out.1; omega) (by have := I.out.1; omega) ?_; intro v' w3 happ); have K := Lib.hid (I.out.2.1.snoc ((Ext.drewN _ _).alloc _) happ); obtain ⟨oa', oc', rfl⟩ := happ.row.shape; clear happ)
          go_roundw
          case rel => exact ⟨i, j + 1, out.length + 1, oa', oc', _, rfl, by go_num, by go_num, by omega, by omega, by have := I.out.1; omega, Lib.hid ⟨by simp, K.out, I.out.2.2.right RL.out RK.out HY.out (fun z hz => by rw [HX.out] at hz; cases hz; exact hgt)⟩⟩
          case measure => simp [intOf]; omega
      · obtain rfl : j = m := by omega
        go_wp2_with fail
        go_quiet (fail)
        go_wp2_with (at_builtin; go_must (refine wpList_append_to (n := out.length) (m := 1) elem_pt rfl _ _ rfl (v := .slice _ _ _) rfl rfl ((I.out.2.1.row.ext (Ext.drewN _ _)).alloc _) (src_pt' (p := x) (heap_alloc_new _ _)) (by unfold maxLen; have := I.out.1; omega) (by have := I.out.1; omega) ?_; intro v' w3 happ); have K := Lib.hid (I.out.2.1.snoc ((Ext.drewN _ _).alloc _) happ); obtain ⟨oa', oc', rfl⟩ := happ.row.shape; clear happ)
        go_roundw
        case rel => exact ⟨i + 1, j, out.length + 1, oa', oc', _, rfl, by go_num, by go_num, by omega, by omega, by have := I.out.1; omega, Lib.hid ⟨by simp, K.out, I.out.2.2.left RL.out RK.out HX.out (fun z hz => by have := (List.getElem?_eq_some_iff.1 hz).1; have := Km.out; omega)⟩⟩
        case measure => simp [intOf]; omega
    · obtain rfl : i = n := by omega
      by_cases hjm : j < m
      · obtain ⟨yb, yo, y, hya, hy, y0, y1, y2⟩ := pts_src (HK.out.ext I.out.2.1.ext) hjm
        have HY := Lib.hid hy; clear hy
        subst hya
        have hb1 : ((j : Int) == (m : Int)) = false := by rw [beq_eq_false_iff_ne]; omega
        go_wp2_with fail
        go_quiet (fail)
        go_wp2_with fail
        go_quiet (fail)
        go_wp2_with (at_builtin; go_must (refine wpList_append_to (n := out.length) (m := 1) elem_pt rfl _ _ rfl (v := .slice _ _ _) rfl rfl ((I.out.2.1.row.ext (Ext.drewN _ _)).alloc _) (src_pt' (p := y) (heap_alloc_new _ _)) (by unfold maxLen; have := I.out.1; omega) (by have := I.out.1; omega) ?_; intro v' w3 happ); have K := Lib.hid (I.out.2.1.snoc ((Ext.drewN _ _).alloc _) happ); obtain ⟨oa', oc', rfl⟩ := happ.row.shape; clear happ)
        go_roundw
        case rel => exact ⟨i, j + 1, out.length + 1, oa', oc', _, rfl, by go_num, by go_num, by omega, by omega, by have := I.out.1; omega, Lib.hid ⟨by simp, K.out, I.out.2.2.right RL.out RK.out HY.out (fun z hz => by have := (List.getElem?_eq_some_iff.1 hz).1; have := Ln.out; omega)⟩⟩
        case measure => simp [intOf]; omega
      · obtain rfl : j = m := by omega
        go_wp2_with fail
        go_ret
        refine ⟨_, out, rfl, I.out.2.1, ?_, by have := I.out.1; omega⟩
        have h := I.out.2.2.two
        rw [List.take_of_length_le (by rw [Ln.out]; exact Nat.le_refl _), List.take_of_length_le (by rw [Km.out]; exact Nat.le_refl _)] at h
        exact h.isMerge RL.out RK.out

end Go.Proofs.Ytabnngcaohgppaa
