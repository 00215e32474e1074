/- The log: what is read of its files, in memory; Open's closure. -/
import Derived.Test.YtfablbhkmddnbaaDoorWl5
import Derived.Test.YtfablbhkmddnbaaDoorWl3
namespace Go.Proofs.YtfablbhkmddnbaaDoor
open Go.RowKit Go.Sort Go.Lib

/-- All records, in a box of their own. -/
structure AllB (w : World) (ab : Nat) (Va : Value) (K : List Bs) : Prop where
  box : w.heap[ab]? = some (.cells #[Va] 24 (0, 0))
  row : Row w 22 1 Va K.length (bsv K)
  ok : ∀ x ∈ K, x.Ok w
  lt : ∀ x ∈ K, ∀ g, x.v.ownBlock = some g → g < w.heap.size
  own : Va.ownBlock ≠ some ab
  apart : ∀ x ∈ K, ∀ g, x.v.ownBlock = some g → g ≠ ab ∧ Va.ownBlock ≠ some g
def afoot (ab : Nat) (Va : Value) : List Nat := ab :: Va.ownBlock.toList
def efoot (K : List Bs) : List Nat := K.filterMap fun x => x.v.ownBlock
theorem afoot_mem {ab : Nat} {Va : Value} {b : Nat} : b ∈ afoot ab Va ↔ b = ab ∨ Va.ownBlock = some b := by simp [afoot]
theorem efoot_mem {K : List Bs} {b : Nat} : b ∈ efoot K ↔ ∃ x ∈ K, x.v.ownBlock = some b := by simp [efoot]
theorem AllB.ltF {w : World} {ab : Nat} {Va : Value} {K : List Bs} (h : AllB w ab Va K) : ∀ b ∈ afoot ab Va ++ efoot K, b < w.heap.size := by
  intro b hb
  rcases List.mem_append.1 hb with hb | hb
  · rcases afoot_mem.1 hb with rfl | hb
    · exact block_lt h.box
    · exact h.row.lt hb
  · obtain ⟨x, hx, hg⟩ := efoot_mem.1 hb
    exact h.lt x hx b hg
theorem Bs.Ok.chg {T : Nat → Prop} {w w' : World} {x : Bs} (h : x.Ok w) (hc : Chg T w w') (hn : ∀ g, x.v.ownBlock = some g → ¬ T g) : x.Ok w' := ⟨h.src.chg hc hn, h.nc⟩
theorem AllB.chg {T : Nat → Prop} {w w' : World} {ab : Nat} {Va : Value} {K : List Bs} (h : AllB w ab Va K) (hc : Chg T w w') (hn : ∀ b ∈ afoot ab Va ++ efoot K, ¬ T b) : AllB w' ab Va K := by
  have hsz := hc.size
  refine ⟨(hc.block ab (block_lt h.box) (hn ab (List.mem_append_left _ (afoot_mem.2 (.inl rfl))))).trans h.box, h.row.chg hc (fun g hg => hn g (List.mem_append_left _ (afoot_mem.2 (.inr hg)))), fun x hx => (h.ok x hx).chg hc (fun g hg => hn g (List.mem_append_right _ (efoot_mem.2 ⟨x, hx, hg⟩))), fun x hx g hg => ?_, h.own, h.apart⟩
  have := h.lt x hx g hg
  omega
theorem AllB.ext {w w' : World} {ab : Nat} {Va : Value} {K : List Bs} (h : AllB w ab Va K) (hx : Ext w w') : AllB w' ab Va K := h.chg (Chg.of_ext (S := fun _ => False) hx) (fun _ _ => id)
/-- A record is put behind. -/
theorem AllB.snoc {w w1 w2 : World} {ab : Nat} {Va v' : Value} {K : List Bs} {x : Bs} (h : AllB w ab Va K) (hx : x.Ok w) (hlt : ∀ g, x.v.ownBlock = some g → g < w.heap.size) (hap : ∀ g, x.v.ownBlock = some g → g ≠ ab ∧ Va.ownBlock ≠ some g)
    (h1 : Ext w w1) (ha : Appended w1 22 1 Va (K.length + 1) (bsv K ++ bsv [x]) v' w2) :
    AllB (w2.setCell ⟨ab, 0, none⟩ v') ab v' (K ++ [x]) ∧ Chg (· ∈ afoot ab Va) w (w2.setCell ⟨ab, 0, none⟩ v') ∧ (∀ b ∈ afoot ab v', b ∈ afoot ab Va ∨ w.heap.size ≤ b) ∧ w2.cell? ⟨ab, 0, none⟩ = some Va ∧ w2.frozen? ⟨ab, 0, none⟩ = false := by
  have hbl := block_lt h.box
  have hs1 := h1.size
  have hb1 : w1.heap[ab]? = _ := (h1.block hbl).trans h.box
  have hb2 : w2.heap[ab]? = _ := (ha.chg.block ab (by omega) (fun e => h.own e)).trans hb1
  have hloc : ∀ g, v'.ownBlock = some g → Va.ownBlock = some g ∨ w1.heap.size ≤ g := fun g hg => by
    rcases ha.loc with e | e
    · exact .inl (e ▸ hg)
    · rw [e] at hg; simp at hg; exact .inr (by omega)
  have hc2 : Chg (· ∈ afoot ab Va) w w2 := (Chg.of_ext (S := (· ∈ afoot ab Va)) h1).trans (ha.chg.mono (fun i _ e => afoot_mem.2 (.inr e))) (fun _ _ e => e)
  have hsc := setCell_chg w2 ab 0 v'
  have hc3 : Chg (· ∈ afoot ab Va) w (w2.setCell ⟨ab, 0, none⟩ v') := hc2.trans (hsc.mono (fun i _ e => afoot_mem.2 (.inl e))) (fun _ _ e => e)
  have hown' : v'.ownBlock ≠ some ab := fun e => by
    rcases hloc ab e with e | e
    · exact h.own e
    · omega
  have hsz := hc3.size
  refine ⟨⟨?_, ?_, fun y hy => ?_, fun y hy g hg => ?_, hown', fun y hy g hg => ⟨?_, fun e => ?_⟩⟩, hc3, fun b hb => ?_, ?_, free_of_block hb2 0⟩
  · have := setCell_block hb2 (i := 0) v'
    simpa using this
  · have := ha.row.chg hsc (fun g hg e => hown' (e ▸ hg))
    simpa [bsv] using this
  · have key : ∀ z : Bs, z.Ok w → (∀ g, z.v.ownBlock = some g → g ≠ ab ∧ Va.ownBlock ≠ some g) → z.Ok (w2.setCell ⟨ab, 0, none⟩ v') := fun z hz hza => hz.chg hc3 (fun g hg e => by
      rcases afoot_mem.1 e with e | e
      · exact (hza g hg).1 e
      · exact (hza g hg).2 e)
    rcases List.mem_append.1 hy with hy | hy
    · exact key y (h.ok y hy) (h.apart y hy)
    · simp at hy; subst hy; exact key _ hx hap
  · rcases List.mem_append.1 hy with hy | hy
    · have := h.lt y hy g hg; omega
    · simp at hy; subst hy; have := hlt g hg; omega
  · rcases List.mem_append.1 hy with hy | hy
    · exact (h.apart y hy g hg).1
    · simp at hy; subst hy; exact (hap g hg).1
  · rcases hloc g e with e | e
    · rcases List.mem_append.1 hy with hy | hy
      · exact (h.apart y hy g hg).2 e
      · simp at hy; subst hy; exact (hap g hg).2 e
    · rcases List.mem_append.1 hy with hy | hy
      · have := h.lt y hy g hg; omega
      · simp at hy; subst hy; have := hlt g hg; omega
  · rcases afoot_mem.1 hb with rfl | hb
    · exact .inl (afoot_mem.2 (.inl rfl))
    · rcases hloc b hb with e | e
      · exact .inl (afoot_mem.2 (.inr e))
      · exact .inr (by omega)
  · rw [cell_of_block hb2 0]; rfl

set_option maxHeartbeats 4000000 in
set_option maxRecDepth 100000 in
/-- Open$1. -/
theorem openc_any {w : World} {ab : Nat} {Va : Value} {K : List Bs} {x : Bs} (h : AllB w ab Va K) (hK : K.length ≤ 1000000000000) (hx : x.Ok w) (hlt : ∀ g, x.v.ownBlock = some g → g < w.heap.size) (hap : ∀ g, x.v.ownBlock = some g → g ≠ ab ∧ Va.ownBlock ≠ some g) :
    Calls Tryd.prog 21 #[x.v, .pointer (some ⟨ab, 0, none⟩)] w fun e w' => e = .returned (.tuple #[]) ∧ ∃ Va', AllB w' ab Va' (K ++ [x]) ∧ Chg (· ∈ afoot ab Va) w w' ∧ ∀ b ∈ afoot ab Va', b ∈ afoot ab Va ∨ w.heap.size ≤ b := by
  have H := Lib.hid h
  have HX := Lib.hid hx
  have HLT := Lib.hid hlt
  have HAP := Lib.hid hap
  have c0 := cell_of_block h.box 0
  simp only [List.getElem?_toArray, List.getElem?_cons_zero] at c0
  obtain ⟨va, vc, rfl⟩ := h.row.shape
  clear h hx hlt hap
  obtain ⟨xa, xn, xc, xl⟩ := x
  go_enter Tryd.func21, Tryd.ntmps21
  go_wp2_with (first | (refine wpList_append_to (n := K.length) (m := 1) elem_bs rfl _ _ rfl (v := .slice va K.length vc) rfl rfl (H.out.row.ext ((Ext.refl w).alloc _)) (src_bs (x := ⟨xa, xn, xc, xl⟩) (heap_alloc_new w _)) (by unfold maxLen; omega) (by omega) ?_; intro v3 w3 happ; obtain ⟨a3, c3, rfl⟩ := happ.row.shape; have HAPP := Lib.hid (H.out.snoc HX.out HLT.out HAP.out ((Ext.refl w).alloc _) happ); have d0 := HAPP.out.2.2.2.1; have z0 := HAPP.out.2.2.2.2; clear happ c0))
  go_end0
  exact ⟨rfl, _, HAPP.out.1, HAPP.out.2.1, HAPP.out.2.2.1⟩
end Go.Proofs.YtfablbhkmddnbaaDoor

/-! The log: both, in memory, while it is opened; file's closure. -/

namespace Go.Proofs.YtfablbhkmddnbaaDoor
open Go.RowKit Go.Sort Go.Lib

theorem LogB.chg {T : Nat → Prop} {w w' : World} {lg d : Nat} {V : Value} {L : LogS} {S : DiskS} {B : List Nat} (h : LogB w lg d V L S B) (hc : Chg T w w') (hn : ∀ b ∈ lfoot lg V B, ¬ T b) : LogB w' lg d V L S B :=
  ⟨⟨(hc.block lg (block_lt h.raw.box) (hn lg (lfoot_lg _ _ _))).trans h.raw.box, h.raw.row.chg hc (fun g hg => hn g (lfoot_own hg))⟩, h.disk.chg hc (fun b hb => hn b (lfoot_disk hb)), h.nb, h.own⟩

/-- The log and the records, apart. -/
structure OpB (wb : World) (X : List Nat) (lg d ab : Nat) (L : LogS) (S : DiskS) (K : List Bs) (V Va : Value) (B : List Nat) (wi : World) : Prop where
  log : LogB wi lg d V L S B
  all : AllB wi ab Va K
  ap : ∀ b ∈ afoot ab Va ++ efoot K, b ∉ lfoot lg V B
  fr : ∀ b ∈ lfoot lg V B ++ afoot ab Va, b ∈ X ∨ wb.heap.size ≤ b
  chg : Chg (· ∈ X) wb wi
def OpAt (wb : World) (X : List Nat) (lg d ab : Nat) (L : LogS) (S : DiskS) (rs : List (List UInt8)) (wi : World) : Prop := ∃ V Va B K, bsl K = rs ∧ OpB wb X lg d ab L S K V Va B wi
section
variable {wb wi wj w' : World} {X : List Nat} {lg d ab : Nat} {L L' : LogS} {S S' : DiskS} {K : List Bs} {V Va : Value} {B : List Nat} {rs : List (List UInt8)}
theorem OpB.at (h : OpB wb X lg d ab L S K V Va B wi) : OpAt wb X lg d ab L S (bsl K) wi := ⟨V, Va, B, K, rfl, h⟩
theorem OpB.ext (h : OpB wb X lg d ab L S K V Va B wi) (hx : Ext wi w') : OpB wb X lg d ab L S K V Va B w' :=
  ⟨h.log.ext hx, h.all.ext hx, h.ap, h.fr, h.chg.trans (Chg.of_ext (S := fun _ => False) hx) (fun _ _ e => e.elim)⟩
theorem OpAt.ext (h : OpAt wb X lg d ab L S rs wi) (hx : Ext wi w') : OpAt wb X lg d ab L S rs w' := by
  obtain ⟨V, Va, B, K, hk, h⟩ := h
  exact ⟨V, Va, B, K, hk, h.ext hx⟩
/-- The log turned. -/
theorem OpB.logStep (h : OpB wb X lg d ab L S K V Va B wi) (ht : LogTo wi lg d (lfoot lg V B) L' S' w') : OpAt wb X lg d ab L' S' (bsl K) w' := by
  obtain ⟨_, ⟨V', B', h1, rfl⟩, h2, h3⟩ := ht
  have hlt := h.all.ltF
  refine ⟨V', Va, B', K, rfl, h1, h.all.chg h2 h.ap, fun b hb hb2 => ?_, fun b hb => ?_, h.chg.trans h2 (fun i hi e => ?_)⟩
  · rcases h3 b hb2 with e | e
    · exact h.ap b hb e
    · have := hlt b hb; omega
  · have hs := h.chg.size
    rcases List.mem_append.1 hb with hb | hb
    · rcases h3 b hb with e | e
      · exact h.fr b (List.mem_append_left _ e)
      · exact .inr (by omega)
    · exact h.fr b (List.mem_append_right _ hb)
  · rcases h.fr i (List.mem_append_left _ e) with e | e
    · exact e
    · omega
/-- A record came. -/
theorem OpB.allStep {x : Bs} {Va' : Value} (h : OpB wb X lg d ab L S K V Va B wi) (h1 : AllB w' ab Va' (K ++ [x])) (h2 : Chg (· ∈ afoot ab Va) wi w') (h3 : ∀ b ∈ afoot ab Va', b ∈ afoot ab Va ∨ wi.heap.size ≤ b) (hx : ∀ g, x.v.ownBlock = some g → g ∉ lfoot lg V B) :
    OpB wb X lg d ab L S (K ++ [x]) V Va' B w' := by
  have hlt := h.log.lt
  have hs := h.chg.size
  refine ⟨h.log.chg h2 (fun b hb e => h.ap b (List.mem_append_left _ e) hb), h1, fun b hb hb2 => ?_, fun b hb => ?_, h.chg.trans h2 (fun i hi e => ?_)⟩
  · rcases List.mem_append.1 hb with hb | hb
    · rcases h3 b hb with e | e
      · exact h.ap b (List.mem_append_left _ e) hb2
      · have := hlt b hb2; omega
    · obtain ⟨y, hy, hg⟩ := efoot_mem.1 hb
      rcases List.mem_append.1 hy with hy | hy
      · exact h.ap b (List.mem_append_right _ (efoot_mem.2 ⟨y, hy, hg⟩)) hb2
      · simp at hy; subst hy; exact hx b hg hb2
  · rcases List.mem_append.1 hb with hb | hb
    · exact h.fr b (List.mem_append_left _ hb)
    · rcases h3 b hb with e | e
      · exact h.fr b (List.mem_append_right _ e)
      · exact .inr (by omega)
  · rcases h.fr i (List.mem_append_right _ e) with e | e
    · exact e
    · omega
theorem OpB.rebase (h : OpB wb X lg d ab L S K V Va B wi) : OpB wi (lfoot lg V B ++ afoot ab Va) lg d ab L S K V Va B wi := ⟨h.log, h.all, h.ap, fun _ hb => .inl hb, Chg.refl _ _⟩
theorem OpB.back {wc : World} (h : OpB wb X lg d ab L S K V Va B wi) (hx : Ext wi wc) (h' : OpAt wc (lfoot lg V B ++ afoot ab Va) lg d ab L' S' rs wj) : OpAt wb X lg d ab L' S' rs wj := by
  obtain ⟨V', Va', B', K', hk, h'⟩ := h'
  have hs := h.chg.size
  have hs2 := hx.size
  refine ⟨V', Va', B', K', hk, h'.log, h'.all, h'.ap, fun b hb => ?_, (h.chg.trans (Chg.of_ext (S := fun _ => False) hx) (fun _ _ e => e.elim)).trans h'.chg (fun i hi e => ?_)⟩
  · rcases h'.fr b hb with e | e
    · exact h.fr b e
    · exact .inr (by omega)
  · rcases h.fr i e with e | e
    · exact e
    · omega
end

set_option maxHeartbeats 4000000 in
set_option maxRecDepth 100000 in
/-- file$1: a record is handed on, and counted. -/
theorem file1_any {wb w : World} {X : List Nat} {lg d ab b7 b4 : Nat} {L : LogS} {S : DiskS} {K : List Bs} {V Va : Value} {B : List Nat} {x : Bs} {t7 t4 : TypeId} (h : OpB wb X lg d ab L S K V Va B w) (hK : K.length ≤ 1000000000000) (hN : L.next ≤ 1000000000000000)
    (h7 : w.heap[b7]? = some (.cells #[.func (.func 21) #[] #[.pointer (some ⟨ab, 0, none⟩)]] t7 (0, 0))) (h4 : w.heap[b4]? = some (.cells #[.pointer (some ⟨lg, 0, none⟩)] t4 (0, 0)))
    (n4 : b4 ∉ afoot ab Va) (hx : x.Ok w) (hlt : ∀ g, x.v.ownBlock = some g → g < w.heap.size) (hap : ∀ g, x.v.ownBlock = some g → g ∉ lfoot lg V B ++ afoot ab Va) :
    Calls Tryd.prog 33 #[x.v, .pointer (some ⟨b7, 0, none⟩), .pointer (some ⟨b4, 0, none⟩)] w fun e w' => e = .returned (.tuple #[]) ∧ OpAt wb X lg d ab { L with next := L.next + 1 } S (bsl K ++ [x.l]) w' := by
  have H := Lib.hid h
  have H4 := Lib.hid h4
  have HC := Lib.hid (openc_any h.all hK hx hlt (fun g hg => by
    have := hap g hg
    rw [List.mem_append, afoot_mem] at this
    exact ⟨fun e => this (.inr (.inl e)), fun e => this (.inr (.inr e))⟩))
  have HL : Hid (∀ g, x.v.ownBlock = some g → g ∉ lfoot lg V B) := Lib.hid (fun g hg e => hap g hg (List.mem_append_left _ e))
  have c7 := cell_of_block h7 0
  have c4 := cell_of_block h4 0
  simp only [List.getElem?_toArray, List.getElem?_cons_zero] at c7 c4
  clear h h7 h4 hx hlt hap
  go_enter Tryd.func33, Tryd.ntmps33
  go_wp2_with fail
  refine HC.out.mono ?_
  rintro e w1 ⟨rfl, Va', ha, hc, hf⟩
  have H1 := Lib.hid (H.out.allStep ha hc hf HL.out)
  have H41 : Hid (w1.heap[b4]? = some (.cells #[.pointer (some ⟨lg, 0, none⟩)] t4 (0, 0))) := Lib.hid ((hc.block b4 (block_lt H4.out) n4).trans H4.out)
  clear ha hc hf c7 c4 HC
  have c4 := cell_of_block H41.out 0
  have d4 := cell_of_block H1.out.log.raw.box 4
  have z4 := free_of_block H1.out.log.raw.box 4
  simp only [List.getElem?_toArray, List.getElem?_cons_zero] at c4 d4
  go_wp2_with fail
  go_end0
  refine ⟨rfl, ?_⟩
  have hsb := setCell_block H1.out.log.raw.box (i := 4) (.int .i64 ((L.next : Int) + 1))
  have hr : bsl K ++ [x.l] = bsl (K ++ [x]) := by simp [bsl]
  rw [hr]
  refine H1.out.logStep ⟨_, ⟨V, B, H1.out.log.set (L' := { L with next := L.next + 1 }) ?_ rfl (setCell_chg _ lg 4 _), rfl⟩, (setCell_chg _ lg 4 _).mono (fun i _ e => by rw [e]; exact lfoot_lg _ _ _), fun b hb => .inl hb⟩
  simpa using hsb
end Go.Proofs.YtfablbhkmddnbaaDoor
