/- The log: what is read of its files, in memory; Open's closure. -/
import Derived.Test.YtfablbhkmddnbaaDoorWl5
import Derived.Test.YtfablbhkmddnbaaDoorWl3
import Derived.Test.YtfablbhkmddnbaaDoorErx
namespace Go.Proofs.YtfablbhkmddnbaaDoor
open Go.RowKit Go.Sort Go.Lib

/-- All records, in a box of their own. -/
structure AllB (w : World) (ab : Nat) (Va : Value) (K : List Bs) : Prop where
  box : w.heap[ab]? = some (.cells #[Va] 24 (0, 0))
  row : Row w 22 1 Va K.length (bsv K)
  ok : ∀ x ∈ K, x.Ok w
  lt : ∀ x ∈ K, ∀ g, x.v.ownBlock = some g → g < w.heap.size
  own : Va.ownBlock ≠ some ab
  apart : ∀ x ∈ K, ∀ g, x.v.ownBlock = some g → g ≠ ab ∧ Va.ownBlock ≠ some g
def afoot (ab : Nat) (Va : Value) : List Nat := ab :: Va.ownBlock.toList
def efoot (K : List Bs) : List Nat := K.filterMap fun x => x.v.ownBlock
theorem afoot_mem {ab : Nat} {Va : Value} {b : Nat} : b ∈ afoot ab Va ↔ b = ab ∨ Va.ownBlock = some b := by simp [afoot]
theorem efoot_mem {K : List Bs} {b : Nat} : b ∈ efoot K ↔ ∃ x ∈ K, x.v.ownBlock = some b := by simp [efoot]
theorem AllB.ltF {w : World} {ab : Nat} {Va : Value} {K : List Bs} (h : AllB w ab Va K) : ∀ b ∈ afoot ab Va ++ efoot K, b < w.heap.size := by
  intro b hb
  rcases List.mem_append.1 hb with hb | hb
  · rcases afoot_mem.1 hb with rfl | hb
    · exact block_lt h.box
    · exact h.row.lt hb
  · obtain ⟨x, hx, hg⟩ := efoot_mem.1 hb
    exact h.lt x hx b hg
theorem Bs.Ok.chg {T : Nat → Prop} {w w' : World} {x : Bs} (h : x.Ok w) (hc : Chg T w w') (hn : ∀ g, x.v.ownBlock = some g → ¬ T g) : x.Ok w' := ⟨h.src.chg hc hn, h.nc⟩
theorem AllB.chg {T : Nat → Prop} {w w' : World} {ab : Nat} {Va : Value} {K : List Bs} (h : AllB w ab Va K) (hc : Chg T w w') (hn : ∀ b ∈ afoot ab Va ++ efoot K, ¬ T b) : AllB w' ab Va K := by
  have hsz := hc.size
  refine ⟨(hc.block ab (block_lt h.box) (hn ab (List.mem_append_left _ (afoot_mem.2 (.inl rfl))))).trans h.box, h.row.chg hc (fun g hg => hn g (List.mem_append_left _ (afoot_mem.2 (.inr hg)))), fun x hx => (h.ok x hx).chg hc (fun g hg => hn g (List.mem_append_right _ (efoot_mem.2 ⟨x, hx, hg⟩))), fun x hx g hg => ?_, h.own, h.apart⟩
  have := h.lt x hx g hg
  omega
theorem AllB.ext {w w' : World} {ab : Nat} {Va : Value} {K : List Bs} (h : AllB w ab Va K) (hx : Ext w w') : AllB w' ab Va K := h.chg (Chg.of_ext (S := fun _ => False) hx) (fun _ _ => id)
/-- A record is put behind. -/
theorem AllB.snoc {w w1 w2 : World} {ab : Nat} {Va v' : Value} {K : List Bs} {x : Bs} (h : AllB w ab Va K) (hx : x.Ok w) (hlt : ∀ g, x.v.ownBlock = some g → g < w.heap.size) (hap : ∀ g, x.v.ownBlock = some g → g ≠ ab ∧ Va.ownBlock ≠ some g)
    (h1 : Ext w w1) (ha : Appended w1 22 1 Va (K.length + 1) (bsv K ++ bsv [x]) v' w2) :
    AllB (w2.setCell ⟨ab, 0, none⟩ v') ab v' (K ++ [x]) ∧ Chg (· ∈ afoot ab Va) w (w2.setCell ⟨ab, 0, none⟩ v') ∧ (∀ b ∈ afoot ab v', b ∈ afoot ab Va ∨ w.heap.size ≤ b) ∧ w2.cell? ⟨ab, 0, none⟩ = some Va ∧ w2.frozen? ⟨ab, 0, none⟩ = false := by
  have hbl := block_lt h.box
  have hs1 := h1.size
  have hb1 : w1.heap[ab]? = _ := (h1.block hbl).trans h.box
  have hb2 : w2.heap[ab]? = _ := (ha.chg.block ab (by omega) (fun e => h.own e)).trans hb1
  have hloc : ∀ g, v'.ownBlock = some g → Va.ownBlock = some g ∨ w1.heap.size ≤ g := fun g hg => by
    rcases ha.loc with e | e
    · exact .inl (e ▸ hg)
    · rw [e] at hg; simp at hg; exact .inr (by omega)
  have hc2 : Chg (· ∈ afoot ab Va) w w2 := (Chg.of_ext (S := (· ∈ afoot ab Va)) h1).trans (ha.chg.mono (fun i _ e => afoot_mem.2 (.inr e))) (fun _ _ e => e)
  have hsc := setCell_chg w2 ab 0 v'
  have hc3 : Chg (· ∈ afoot ab Va) w (w2.setCell ⟨ab, 0, none⟩ v') := hc2.trans (hsc.mono (fun i _ e => afoot_mem.2 (.inl e))) (fun _ _ e => e)
  have hown' : v'.ownBlock ≠ some ab := fun e => by
    rcases hloc ab e with e | e
    · exact h.own e
    · omega
  have hsz := hc3.size
  refine ⟨⟨?_, ?_, fun y hy => ?_, fun y hy g hg => ?_, hown', fun y hy g hg => ⟨?_, fun e => ?_⟩⟩, hc3, fun b hb => ?_, ?_, free_of_block hb2 0⟩
  · have := setCell_block hb2 (i := 0) v'
    simpa using this
  · have := ha.row.chg hsc (fun g hg e => hown' (e ▸ hg))
    simpa [bsv] using this
  · have key : ∀ z : Bs, z.Ok w → (∀ g, z.v.ownBlock = some g → g ≠ ab ∧ Va.ownBlock ≠ some g) → z.Ok (w2.setCell ⟨ab, 0, none⟩ v') := fun z hz hza => hz.chg hc3 (fun g hg e => by
      rcases afoot_mem.1 e with e | e
      · exact (hza g hg).1 e
      · exact (hza g hg).2 e)
    rcases List.mem_append.1 hy with hy | hy
    · exact key y (h.ok y hy) (h.apart y hy)
    · simp at hy; subst hy; exact key _ hx hap
  · rcases List.mem_append.1 hy with hy | hy
    · have := h.lt y hy g hg; omega
    · simp at hy; subst hy; have := hlt g hg; omega
  · rcases List.mem_append.1 hy with hy | hy
    · exact (h.apart y hy g hg).1
    · simp at hy; subst hy; exact (hap g hg).1
  · rcases hloc g e with e | e
    · rcases List.mem_append.1 hy with hy | hy
      · exact (h.apart y hy g hg).2 e
      · simp at hy; subst hy; exact (hap g hg).2 e
    · rcases List.mem_append.1 hy with hy | hy
      · have := h.lt y hy g hg; omega
      · simp at hy; subst hy; have := hlt g hg; omega
  · rcases afoot_mem.1 hb with rfl | hb
    · exact .inl (afoot_mem.2 (.inl rfl))
    · rcases hloc b hb with e | e
      · exact .inl (afoot_mem.2 (.inr e))
      · exact .inr (by omega)
  · rw [cell_of_block hb2 0]; rfl

set_option maxHeartbeats 4000000 in
set_option maxRecDepth 100000 in
/-- Open$1. -/
theorem openc_any {w : World} {ab : Nat} {Va : Value} {K : List Bs} {x : Bs} (h : AllB w ab Va K) (hK : K.length ≤ 1000000000000) (hx : x.Ok w) (hlt : ∀ g, x.v.ownBlock = some g → g < w.heap.size) (hap : ∀ g, x.v.ownBlock = some g → g ≠ ab ∧ Va.ownBlock ≠ some g) :
    Calls Tryd.prog 21 #[x.v, .pointer (some ⟨ab, 0, none⟩)] w fun e w' => e = .returned (.tuple #[]) ∧ ∃ Va', AllB w' ab Va' (K ++ [x]) ∧ Chg (· ∈ afoot ab Va) w w' ∧ ∀ b ∈ afoot ab Va', b ∈ afoot ab Va ∨ w.heap.size ≤ b := by
  have H := Lib.hid h
  have HX := Lib.hid hx
  have HLT := Lib.hid hlt
  have HAP := Lib.hid hap
  have c0 := cell_of_block h.box 0
  simp only [List.getElem?_toArray, List.getElem?_cons_zero] at c0
  obtain ⟨va, vc, rfl⟩ := h.row.shape
  clear h hx hlt hap
  obtain ⟨xa, xn, xc, xl⟩ := x
  go_enter Tryd.func21, Tryd.ntmps21
  go_wp2_with (first | (refine wpList_append_to (n := K.length) (m := 1) elem_bs rfl _ _ rfl (v := .slice va K.length vc) rfl rfl (H.out.row.ext ((Ext.refl w).alloc _)) (src_bs (x := ⟨xa, xn, xc, xl⟩) (heap_alloc_new w _)) (by unfold maxLen; omega) (by omega) ?_; intro v3 w3 happ; obtain ⟨a3, c3, rfl⟩ := happ.row.shape; have HAPP := Lib.hid (H.out.snoc HX.out HLT.out HAP.out ((Ext.refl w).alloc _) happ); have d0 := HAPP.out.2.2.2.1; have z0 := HAPP.out.2.2.2.2; clear happ c0))
  go_end0
  exact ⟨rfl, _, HAPP.out.1, HAPP.out.2.1, HAPP.out.2.2.1⟩
end Go.Proofs.YtfablbhkmddnbaaDoor

/-! The log: both, in memory, while it is opened; file's closure. -/

namespace Go.Proofs.YtfablbhkmddnbaaDoor
open Go.RowKit Go.Sort Go.Lib

theorem LogB.chg {T : Nat → Prop} {w w' : World} {lg d : Nat} {V : Value} {L : LogS} {S : DiskS} {B : List Nat} (h : LogB w lg d V L S B) (hc : Chg T w w') (hn : ∀ b ∈ lfoot lg V B, ¬ T b) : LogB w' lg d V L S B :=
  ⟨⟨(hc.block lg (block_lt h.raw.box) (hn lg (lfoot_lg _ _ _))).trans h.raw.box, h.raw.row.chg hc (fun g hg => hn g (lfoot_own hg))⟩, h.disk.chg hc (fun b hb => hn b (lfoot_disk hb)), h.nb, h.own⟩

/-- The log and the records, apart. -/
structure OpB (wb : World) (X : List Nat) (lg d ab : Nat) (L : LogS) (S : DiskS) (K : List Bs) (V Va : Value) (B : List Nat) (wi : World) : Prop where
  log : LogB wi lg d V L S B
  all : AllB wi ab Va K
  ap : ∀ b ∈ afoot ab Va ++ efoot K, b ∉ lfoot lg V B
  fr : ∀ b ∈ lfoot lg V B ++ afoot ab Va, b ∈ X ∨ wb.heap.size ≤ b
  chg : Chg (· ∈ X) wb wi
def OpAt (wb : World) (X : List Nat) (lg d ab : Nat) (L : LogS) (S : DiskS) (rs : List (List UInt8)) (wi : World) : Prop := ∃ V Va B K, bsl K = rs ∧ OpB wb X lg d ab L S K V Va B wi
section
variable {wb wi wj w' : World} {X : List Nat} {lg d ab : Nat} {L L' : LogS} {S S' : DiskS} {K : List Bs} {V Va : Value} {B : List Nat} {rs : List (List UInt8)}
theorem OpB.at (h : OpB wb X lg d ab L S K V Va B wi) : OpAt wb X lg d ab L S (bsl K) wi := ⟨V, Va, B, K, rfl, h⟩
theorem OpB.ext (h : OpB wb X lg d ab L S K V Va B wi) (hx : Ext wi w') : OpB wb X lg d ab L S K V Va B w' :=
  ⟨h.log.ext hx, h.all.ext hx, h.ap, h.fr, h.chg.trans (Chg.of_ext (S := fun _ => False) hx) (fun _ _ e => e.elim)⟩
theorem OpAt.ext (h : OpAt wb X lg d ab L S rs wi) (hx : Ext wi w') : OpAt wb X lg d ab L S rs w' := by
  obtain ⟨V, Va, B, K, hk, h⟩ := h
  exact ⟨V, Va, B, K, hk, h.ext hx⟩
/-- The log turned. -/
theorem OpB.logStep (h : OpB wb X lg d ab L S K V Va B wi) (ht : LogTo wi lg d (lfoot lg V B) L' S' w') : OpAt wb X lg d ab L' S' (bsl K) w' := by
  obtain ⟨_, ⟨V', B', h1, rfl⟩, h2, h3⟩ := ht
  have hlt := h.all.ltF
  refine ⟨V', Va, B', K, rfl, h1, h.all.chg h2 h.ap, fun b hb hb2 => ?_, fun b hb => ?_, h.chg.trans h2 (fun i hi e => ?_)⟩
  · rcases h3 b hb2 with e | e
    · exact h.ap b hb e
    · have := hlt b hb; omega
  · have hs := h.chg.size
    rcases List.mem_append.1 hb with hb | hb
    · rcases h3 b hb with e | e
      · exact h.fr b (List.mem_append_left _ e)
      · exact .inr (by omega)
    · exact h.fr b (List.mem_append_right _ hb)
  · rcases h.fr i (List.mem_append_left _ e) with e | e
    · exact e
    · omega
/-- A record came. -/
theorem OpB.allStep {x : Bs} {Va' : Value} (h : OpB wb X lg d ab L S K V Va B wi) (h1 : AllB w' ab Va' (K ++ [x])) (h2 : Chg (· ∈ afoot ab Va) wi w') (h3 : ∀ b ∈ afoot ab Va', b ∈ afoot ab Va ∨ wi.heap.size ≤ b) (hx : ∀ g, x.v.ownBlock = some g → g ∉ lfoot lg V B) :
    OpB wb X lg d ab L S (K ++ [x]) V Va' B w' := by
  have hlt := h.log.lt
  have hs := h.chg.size
  refine ⟨h.log.chg h2 (fun b hb e => h.ap b (List.mem_append_left _ e) hb), h1, fun b hb hb2 => ?_, fun b hb => ?_, h.chg.trans h2 (fun i hi e => ?_)⟩
  · rcases List.mem_append.1 hb with hb | hb
    · rcases h3 b hb with e | e
      · exact h.ap b (List.mem_append_left _ e) hb2
      · have := hlt b hb2; omega
    · obtain ⟨y, hy, hg⟩ := efoot_mem.1 hb
      rcases List.mem_append.1 hy with hy | hy
      · exact h.ap b (List.mem_append_right _ (efoot_mem.2 ⟨y, hy, hg⟩)) hb2
      · simp at hy; subst hy; exact hx b hg hb2
  · rcases List.mem_append.1 hb with hb | hb
    · exact h.fr b (List.mem_append_left _ hb)
    · rcases h3 b hb with e | e
      · exact h.fr b (List.mem_append_right _ e)
      · exact .inr (by omega)
  · rcases h.fr i (List.mem_append_right _ e) with e | e
    · exact e
    · omega
theorem OpB.rebase (h : OpB wb X lg d ab L S K V Va B wi) : OpB wi (lfoot lg V B ++ afoot ab Va) lg d ab L S K V Va B wi := ⟨h.log, h.all, h.ap, fun _ hb => .inl hb, Chg.refl _ _⟩
theorem OpB.back {wc : World} (h : OpB wb X lg d ab L S K V Va B wi) (hx : Ext wi wc) (h' : OpAt wc (lfoot lg V B ++ afoot ab Va) lg d ab L' S' rs wj) : OpAt wb X lg d ab L' S' rs wj := by
  obtain ⟨V', Va', B', K', hk, h'⟩ := h'
  have hs := h.chg.size
  have hs2 := hx.size
  refine ⟨V', Va', B', K', hk, h'.log, h'.all, h'.ap, fun b hb => ?_, (h.chg.trans (Chg.of_ext (S := fun _ => False) hx) (fun _ _ e => e.elim)).trans h'.chg (fun i hi e => ?_)⟩
  · rcases h'.fr b hb with e | e
    · exact h.fr b e
    · exact .inr (by omega)
  · rcases h.fr i e with e | e
    · exact e
    · omega
end

set_option maxHeartbeats 4000000 in
set_option maxRecDepth 100000 in
/-- file$1: a record is handed on, and counted. -/
theorem file1_any {wb w : World} {X : List Nat} {lg d ab b7 b4 : Nat} {L : LogS} {S : DiskS} {K : List Bs} {V Va : Value} {B : List Nat} {x : Bs} {t7 t4 : TypeId} (h : OpB wb X lg d ab L S K V Va B w) (hK : K.length ≤ 1000000000000) (hN : L.next ≤ 1000000000000000)
    (h7 : w.heap[b7]? = some (.cells #[.func (.func 21) #[] #[.pointer (some ⟨ab, 0, none⟩)]] t7 (0, 0))) (h4 : w.heap[b4]? = some (.cells #[.pointer (some ⟨lg, 0, none⟩)] t4 (0, 0)))
    (n4 : b4 ∉ afoot ab Va) (hx : x.Ok w) (hlt : ∀ g, x.v.ownBlock = some g → g < w.heap.size) (hap : ∀ g, x.v.ownBlock = some g → g ∉ lfoot lg V B ++ afoot ab Va) :
    Calls Tryd.prog 33 #[x.v, .pointer (some ⟨b7, 0, none⟩), .pointer (some ⟨b4, 0, none⟩)] w fun e w' => e = .returned (.tuple #[]) ∧ OpAt wb X lg d ab { L with next := L.next + 1 } S (bsl K ++ [x.l]) w' := by
  have H := Lib.hid h
  have H4 := Lib.hid h4
  have HC := Lib.hid (openc_any h.all hK hx hlt (fun g hg => by
    have := hap g hg
    rw [List.mem_append, afoot_mem] at this
    exact ⟨fun e => this (.inr (.inl e)), fun e => this (.inr (.inr e))⟩))
  have HL : Hid (∀ g, x.v.ownBlock = some g → g ∉ lfoot lg V B) := Lib.hid (fun g hg e => hap g hg (List.mem_append_left _ e))
  have c7 := cell_of_block h7 0
  have c4 := cell_of_block h4 0
  simp only [List.getElem?_toArray, List.getElem?_cons_zero] at c7 c4
  clear h h7 h4 hx hlt hap
  go_enter Tryd.func33, Tryd.ntmps33
  go_wp2_with fail
  refine HC.out.mono ?_
  rintro e w1 ⟨rfl, Va', ha, hc, hf⟩
  have H1 := Lib.hid (H.out.allStep ha hc hf HL.out)
  have H41 : Hid (w1.heap[b4]? = some (.cells #[.pointer (some ⟨lg, 0, none⟩)] t4 (0, 0))) := Lib.hid ((hc.block b4 (block_lt H4.out) n4).trans H4.out)
  clear ha hc hf c7 c4 HC
  have c4 := cell_of_block H41.out 0
  have d4 := cell_of_block H1.out.log.raw.box 4
  have z4 := free_of_block H1.out.log.raw.box 4
  simp only [List.getElem?_toArray, List.getElem?_cons_zero] at c4 d4
  go_wp2_with fail
  go_end0
  refine ⟨rfl, ?_⟩
  have hsb := setCell_block H1.out.log.raw.box (i := 4) (.int .i64 ((L.next : Int) + 1))
  have hr : bsl K ++ [x.l] = bsl (K ++ [x]) := by simp [bsl]
  rw [hr]
  refine H1.out.logStep ⟨_, ⟨V, B, H1.out.log.set (L' := { L with next := L.next + 1 }) ?_ rfl (setCell_chg _ lg 4 _), rfl⟩, (setCell_chg _ lg 4 _).mono (fun i _ e => by rw [e]; exact lfoot_lg _ _ _), fun b hb => .inl hb⟩
  simpa using hsb
end Go.Proofs.YtfablbhkmddnbaaDoor

/-! The log: one of its files is read. -/

namespace Go.Proofs.YtfablbhkmddnbaaDoor
open Go.RowKit Go.Sort Go.Lib

theorem src_hiK {w : World} {a : Option Addr} {n c k : Nat} {l : List UInt8} (h : Src w 1 (.slice a n c) n (u8s l)) (hk : k ≤ n) (hc : n ≤ c) : Src w 1 (.slice (cutA a c 0) k c) k (u8s (l.take k)) := by
  have := src_cut (l := 0) (h := k) (m := c) h (by omega) hk (by omega) (by omega)
  rw [u8s_drop, u8s_take, List.drop_zero, Nat.sub_zero, Nat.sub_zero] at this
  exact this
theorem own_cut (a : Option Addr) (m l n c n' c' : Nat) : (Value.slice (cutA a m l) n c).ownBlock = (Value.slice a n' c').ownBlock := by
  cases a with
  | none => unfold cutA; split <;> rfl
  | some ad =>
    unfold cutA
    split
    · rfl
    · simp only [Option.map_some, Value.ownBlock]
      unfold Addr.add
      split <;> rfl
theorem elem_nt : ElemOk Tryd.prog 33 3 1 8 :=
  ⟨Tryd.underlying33, by
    obtain ⟨i0, hi, hz0, hz1, hz2⟩ := info_parts (show (Tryd.prog.info? 3).map (fun i => (i.zero, i.size, i.bytes)) = some (some (.int .i64 0), 1, 8) by kernel_rfl)
    exact ⟨i0, _, hi, hz0, hz1, hz2, rfl⟩, by decide⟩
theorem src_nt {W : World} {b n : Nat} {t : TypeId} {fr : Nat × Nat} (h : W.heap[b]? = some (.cells #[.int .i64 (n : Int)] t fr)) : Src W 1 (.slice (some ⟨b, 0, none⟩) 1 1) 1 (nts [n]) := by
  refine .inr ⟨_, _, rfl, rfl, fun j u hj => ?_, nts_one _⟩
  rw [Go.WideShapes.add_plain, Nat.zero_add, cell_of_block h]
  simpa [nts] using hj
/-- What Read of a file tells, whether it is there or not. -/
def RdB (w : World) (b : List UInt8) (e : Ending) (w' : World) : Prop := ∃ a c z, e = .returned (.tuple #[.slice a b.length c, .int .i64 z]) ∧ MadeTo w 5 1 (.slice a b.length c) b.length (u8s b) w'
theorem read_any {w : World} {d : Nat} {S : DiskS} {B : List Nat} (ok : S.Ok) (h : DiskAt w d S B) (name : ByteArray) :
    Calls Tryd.prog 19 #[.pointer (some ⟨d, 0, none⟩), .string name] w (RdB w (bytesOf S name)) := by
  cases hx : aget S.files name with
  | none =>
    refine (disk_read_none h name hx).mono ?_
    rintro e w' ⟨rfl, rfl⟩
    have hb : bytesOf S name = [] := by unfold bytesOf; rw [hx]; rfl
    rw [hb]
    exact ⟨none, 0, 13, rfl, Row.nil _ _ _, fun g hg => by simp [Value.ownBlock] at hg, Ext.refl _⟩
  | some f =>
    refine (disk_read_some ok h name f hx).mono ?_
    rintro e w' ⟨v, rfl, hrow, hown, hxx⟩
    have hb : bytesOf S name = f.bytes := by unfold bytesOf; rw [hx]; rfl
    rw [hb]
    obtain ⟨a, c, rfl⟩ := hrow.shape
    exact ⟨a, c, 0, rfl, hrow, hown, hxx⟩
theorem bytesOf_len {S : DiskS} (ok : S.Ok) (name : ByteArray) : (bytesOf S name).length ≤ 1048576 := by
  unfold bytesOf
  cases hx : aget S.files name with
  | none => exact Nat.zero_le _
  | some f => exact ok.small _ (aget_mem hx)
theorem eachW_len : ∀ (f at' : Nat) (b : List UInt8), (eachW f at' b).1.length ≤ b.length
  | 0, _, _ => by simp [eachW]
  | f + 1, at', b => by
    rw [eachW]
    split
    · simp
    · cases h : oneW b with
      | fin => simp
      | bad => simp
      | got r n =>
        have h1 := oneW_pos h
        have h2 := eachW_len f (at' + n) (b.drop n)
        rw [List.length_drop] at h2
        simp only [List.length_cons]
        omega
theorem eachW_torn_le : ∀ (f at' : Nat) (b : List UInt8) (t : Nat), (eachW f at' b).2 = .torn t → t ≤ at' + b.length
  | 0, _, _, _, h => by simp [eachW] at h
  | f + 1, at', b, t, h => by
    rw [eachW] at h
    split at h
    · cases h
    · cases ho : oneW b with
      | fin => rw [ho] at h; simp at h; omega
      | bad => rw [ho] at h; simp at h
      | got r n =>
        rw [ho] at h
        have h1 := oneW_pos ho
        have h2 := eachW_torn_le f (at' + n) (b.drop n) t h
        rw [List.length_drop] at h2
        omega
theorem numL_lt {l : List UInt8} {n : Nat} (h : numL l = some n) : n < 1000000000000 := by
  unfold numL at h
  split at h
  · cases h
  · rename_i h13
    have := numD_lt _ _ _ h
    rw [List.length_drop, show l.length - 1 = 12 by omega] at this
    omega
theorem OpB.other {T : Nat → Prop} {wb wi w' : World} {X : List Nat} {lg d ab : Nat} {L : LogS} {S : DiskS} {K : List Bs} {V Va : Value} {B : List Nat} (h : OpB wb X lg d ab L S K V Va B wi) (hc : Chg T wi w') (h1 : ∀ b ∈ lfoot lg V B, ¬ T b) (h2 : ∀ b ∈ afoot ab Va ++ efoot K, ¬ T b) (h3 : ∀ b, b < wb.heap.size → ¬ T b) : OpB wb X lg d ab L S K V Va B w' :=
  ⟨h.log.chg hc h1, h.all.chg hc h2, h.ap, h.fr, h.chg.trans hc (fun i hi e => absurd e (h3 i hi))⟩

/-- A file's number is put behind the others, and the size set. -/
theorem LogB.push {w w1 w2 : World} {lg d m : Nat} {V v' : Value} {L : LogS} {S : DiskS} {B : List Nat} (h : LogB w lg d V L S B) (h1 : Ext w w1) (ha : Appended w1 3 1 V (L.files.length + 1) (nts L.files ++ nts [m]) v' w2) (N : Nat) :
    w2.heap[lg]? = some (.cells #[.pointer (some ⟨d, 0, none⟩), .int .i64 L.limit, V, .int .i64 (L.size : Int), .int .i64 (L.next : Int), .bool L.dirty, .bool L.bad] 53 (0, 0)) ∧
    (w2.setCell ⟨lg, 2, none⟩ v').heap[lg]? = some (.cells #[.pointer (some ⟨d, 0, none⟩), .int .i64 L.limit, v', .int .i64 (L.size : Int), .int .i64 (L.next : Int), .bool L.dirty, .bool L.bad] 53 (0, 0)) ∧
    LogB ((w2.setCell ⟨lg, 2, none⟩ v').setCell ⟨lg, 3, none⟩ (.int .i64 (N : Int))) lg d v' { L with files := L.files ++ [m], size := N } S B ∧ Chg (· ∈ lfoot lg V B) w ((w2.setCell ⟨lg, 2, none⟩ v').setCell ⟨lg, 3, none⟩ (.int .i64 (N : Int))) ∧ ∀ b ∈ lfoot lg v' B, b ∈ lfoot lg V B ∨ w.heap.size ≤ b := by
  have hbl := block_lt h.raw.box
  have hs1 := h1.size
  have hlg : V.ownBlock ≠ some lg := fun e => (h.own lg e).2 rfl
  have hb1 : w1.heap[lg]? = _ := (h1.block hbl).trans h.raw.box
  have hb2 : w2.heap[lg]? = _ := (ha.chg.block lg (by omega) (fun e => hlg e)).trans hb1
  have hb3 := setCell_block hb2 (i := 2) v'
  have hb4 := setCell_block hb3 (i := 3) (.int .i64 (N : Int))
  have hloc : ∀ g, v'.ownBlock = some g → V.ownBlock = some g ∨ w1.heap.size ≤ g := fun g hg => by
    rcases ha.loc with e | e
    · exact .inl (e ▸ hg)
    · rw [e] at hg; simp at hg; exact .inr (by omega)
  have hlg' : ∀ g, v'.ownBlock = some g → g ≠ lg := fun g hg e => by
    rcases hloc g hg with e2 | e2
    · exact hlg (e ▸ e2)
    · omega
  have hc2 : Chg (fun q => V.ownBlock = some q) w w2 := (Chg.of_ext h1).trans ha.chg (fun _ _ e => e)
  have hc3 := setCell_chg w2 lg 2 v'
  have hc4 := setCell_chg (w2.setCell ⟨lg, 2, none⟩ v') lg 3 (.int .i64 (N : Int))
  refine ⟨hb2, by simpa using hb3, ⟨⟨by simpa using hb4, ?_⟩, ?_, h.nb, fun g hg => ⟨fun e => ?_, hlg' g hg⟩⟩, ?_, fun b hb => ?_⟩
  · have hr := (ha.row.chg hc3 (fun g hg e => hlg' g hg e)).chg hc4 (fun g hg e => hlg' g hg e)
    rw [← nts_append] at hr
    simpa using hr
  · exact ((h.disk.chg hc2 (fun b hb e => (h.own b e).1 hb)).chg hc3 (fun b hb e => h.nb (e ▸ hb))).chg hc4 (fun b hb e => h.nb (e ▸ hb))
  · rcases hloc g hg with e2 | e2
    · exact (h.own g e2).1 e
    · have := h.disk.lt g e; omega
  · exact ((hc2.mono (fun i _ e => lfoot_own e)).trans (hc3.mono (fun i _ e => by rw [e]; exact lfoot_lg _ _ _)) (fun _ _ e => e)).trans (hc4.mono (fun i _ e => by rw [e]; exact lfoot_lg _ _ _)) (fun _ _ e => e)
  · simp only [lfoot, List.mem_cons, List.mem_append, Option.mem_toList] at hb ⊢
    rcases hb with hb | hb | hb
    · exact .inl (.inl hb)
    · rcases hloc b hb with e | e
      · exact .inl (.inr (.inl e))
      · exact .inr (by omega)
    · exact .inl (.inr (.inr hb))

set_option maxHeartbeats 16000000 in
set_option maxRecDepth 100000 in
theorem file_any {wb w : World} {X : List Nat} {lg d ab k : Nat} {L : LogS} {S : DiskS} {rs : List (List UInt8)} (h : OpAt wb X lg d ab L S rs w) (hk : k ≤ 900000) (inv : DInv S k) (hN : L.next ≤ 10000000000000) (hfl : L.files.length ≤ 1000000) (hrs : rs.length ≤ 100000000000)
    (s : ByteArray) (hs : s.size ≤ maxLen) (last : Bool) (hg : HasET wb) (hgX : 0 ∉ X) :
    Calls Tryd.prog 20 #[.pointer (some ⟨lg, 0, none⟩), .string s, .bool last, .func (.func 21) #[] #[.pointer (some ⟨ab, 0, none⟩)]] w fun e w' => e = .returned (.int .i64 (fileW L S s last).e) ∧ OpAt wb X lg d ab (fileW L S s last).L (fileW L S s last).S (rs ++ (fileW L S s last).rs) w' := by
  obtain ⟨V, Va, B, K, rfl, hb⟩ := h
  have HB := Lib.hid hb
  have HI := Lib.hid inv
  have HG := Lib.hid hg
  obtain ⟨va, vc, rfl⟩ := hb.log.raw.row.shape
  obtain ⟨R, hR⟩ : ∃ R, R = fileW L S s last := ⟨_, rfl⟩
  rw [← hR]
  have HRR := Lib.hid hR
  have HRS := Lib.hid hrs
  clear hb inv hg hR
  go_enter Tryd.func20, Tryd.ntmps20
  go_upto_region 1 with fail
  obtain ⟨b4, hb4⟩ : ∃ k, k = w.heap.size := ⟨_, rfl⟩
  obtain ⟨b7, hb7⟩ : ∃ k, k = w.heap.size + 1 := ⟨_, rfl⟩
  rw [← hb7, ← hb4]
  generalize hW : (w.alloc _).alloc _ = W
  have HX : Hid (Ext w W) := Lib.hid (by rw [← hW]; exact ((Ext.refl w).alloc _).alloc _)
  have H4 : Hid (W.heap[b4]? = some (.cells #[.pointer (some ⟨lg, 0, none⟩)] 30 (0, 0))) := Lib.hid (by rw [← hW, hb4, heap_alloc_old _ _ (by simp)]; exact heap_alloc_new w _)
  have H7 : Hid (W.heap[b7]? = some (.cells #[.func (.func 21) #[] #[.pointer (some ⟨ab, 0, none⟩)]] 55 (0, 0))) := Lib.hid (by rw [← hW, hb7]; exact heap_alloc2 w _ _)
  have HBB : Hid (b4 = w.heap.size ∧ b7 = w.heap.size + 1) := Lib.hid ⟨hb4, hb7⟩
  clear hW hb4 hb7
  go_wp2_with fail
  refine (numberOf_any W s).mono ?_
  rintro e w1 ⟨rfl, hnum⟩
  cases hn : numL (bl s) with
  | none =>
    rw [hn] at hnum
    simp only at hnum
    obtain rfl := hnum
    have HR : Hid (R = ⟨24, L, S, []⟩) := Lib.hid (by rw [HRR.out]; unfold fileW; rw [hn])
    clear hn
    go_wp2_with fail
    go_ret
    rw [HR.out]
    exact ⟨rfl, by rw [List.append_nil]; exact (HB.out.ext HX.out).at⟩
  | some m =>
    rw [hn] at hnum
    simp only at hnum
    obtain rfl := hnum
    have HR0 : Hid (R = if L.files ≠ [] ∧ m ≠ L.next then ⟨24, L, S, []⟩ else fileEnd L S s last m (bytesOf S s) (eachW (bytesOf S s).length 0 (bytesOf S s))) := Lib.hid (by rw [HRR.out]; unfold fileW; rw [hn])
    have HM12 := Lib.hid (numL_lt hn)
    clear hn HRR
    have H1 := Lib.hid (HB.out.ext HX.out)
    have c4 := cell_of_block H4.out 0
    have l2 := cell_of_block H1.out.log.raw.box 2
    have l4 := cell_of_block H1.out.log.raw.box 4
    simp only [List.getElem?_toArray, List.getElem?_cons_zero] at c4 l2 l4
    go_upto_region 2 with fail
    go_cut [38] (fun s38 wx => ∃ Q : Bool, s38 = .bool Q ∧ Hid (Q = decide (L.files ≠ [] ∧ m ≠ L.next)) ∧ wx = W)
    case first =>
      by_cases hf0 : L.files = []
      · have HQ : Hid (false = decide (L.files ≠ [] ∧ m ≠ L.next)) := Lib.hid (by symm; rw [decide_eq_false_iff_not]; exact fun h => h.1 hf0)
        have h0 : ¬ (0 : Int) < (L.files.length : Int) := by rw [hf0]; simp
        clear hf0
        go_wp2_with fail
        go_meet
        case rel => exact ⟨_, rfl, HQ, rfl⟩
      · have h0 : (0 : Int) < (L.files.length : Int) := by
          have : L.files.length ≠ 0 := fun e => hf0 (List.length_eq_zero_iff.1 e)
          omega
        by_cases hmn : m = L.next
        · have HQ : Hid (false = decide (L.files ≠ [] ∧ m ≠ L.next)) := Lib.hid (by symm; rw [decide_eq_false_iff_not]; exact fun h => h.2 hmn)
          have hne : ((m : Int) != (L.next : Int)) = false := by simp [hmn]
          clear hf0 hmn
          go_wp2_with fail
          go_meet
          case rel => exact ⟨_, rfl, HQ, rfl⟩
        · have HQ : Hid (true = decide (L.files ≠ [] ∧ m ≠ L.next)) := Lib.hid (by symm; rw [decide_eq_true_iff]; exact ⟨hf0, hmn⟩)
          have hne : ((m : Int) != (L.next : Int)) = true := by simp only [bne_iff_ne, ne_eq]; omega
          clear hf0 hmn
          go_wp2_with fail
          go_meet
          case rel => exact ⟨_, rfl, HQ, rfl⟩
    case rest =>
      obtain ⟨Q, rfl, HQ, rfl⟩ := hcut
      cases Q
      case true =>
        have HR : Hid (R = ⟨24, L, S, []⟩) := Lib.hid (by rw [HR0.out, if_pos (of_decide_eq_true HQ.out.symm)])
        clear HR0 HQ l2 l4 c4
        go_wp2_with fail
        go_ret
        rw [HR.out]
        exact ⟨rfl, by rw [List.append_nil]; exact H1.out.at⟩
      have HBD : Hid (¬ (L.files ≠ [] ∧ m ≠ L.next)) := Lib.hid (of_decide_eq_false HQ.out.symm)
      clear HQ
      have HR1 := Lib.hid (HR0.out.trans (if_neg HBD.out))
      clear HR0 HBD l2 l4
      have l0 := cell_of_block H1.out.log.raw.box 0
      simp only [List.getElem?_toArray, List.getElem?_cons_zero] at l0
      go_wp2_with fail
      refine (read_any HI.out.ok H1.out.log.disk s).mono ?_
      rintro e w2 ⟨a2, c2, z2, rfl, hm⟩
      have HM := Lib.hid hm
      have HBL := Lib.hid (bytesOf_len HI.out.ok s)
      obtain ⟨b, hbe⟩ : ∃ b, b = bytesOf S s := ⟨_, rfl⟩
      rw [← hbe] at HM HBL HR1 ⊢
      clear hm hbe c4 l0
      have H2 := Lib.hid (H1.out.ext HM.out.ext)
      have H42 : Hid (w2.heap[b4]? = _) := Lib.hid ((HM.out.ext.block (block_lt H4.out)).trans H4.out)
      have H72 : Hid (w2.heap[b7]? = _) := Lib.hid ((HM.out.ext.block (block_lt H7.out)).trans H7.out)
      have HSZ : Hid (w.heap.size < wc.heap.size ∧ b7 < wc.heap.size ∧ wc.heap.size ≤ w2.heap.size) := Lib.hid (by have := block_lt H4.out; have := block_lt H7.out; have := HBB.out; have := HM.out.ext.size; omega)
      have HXLT : Hid (∀ q ∈ lfoot lg (.slice va L.files.length vc) B ++ afoot ab Va, q < w.heap.size) := Lib.hid (fun q hq => by
        rcases List.mem_append.1 hq with hq | hq
        · exact HB.out.log.lt q hq
        · exact HB.out.all.ltF q (List.mem_append_left _ hq))
      clear H4 H7 H1
      have HB2 := Lib.hid H2.out.rebase
      have c4 := cell_of_block H42.out 0
      have l4 := cell_of_block H2.out.log.raw.box 4
      have z4 := free_of_block H2.out.log.raw.box 4
      simp only [List.getElem?_toArray, List.getElem?_cons_zero] at c4 l4
      go_upto_region 6 with fail
      clear c4 l4 z4
      have hsb := setCell_block H2.out.log.raw.box (i := 4) (.int .i64 (m : Int))
      have hsc := setCell_chg w2 lg 4 (.int .i64 (m : Int))
      generalize World.setCell _ _ _ = w3 at *
      have HA0 : Hid (OpAt w2 (lfoot lg (.slice va L.files.length vc) B ++ afoot ab Va) lg d ab { L with next := m + ([] : List (List UInt8)).length } S (bsl K ++ []) w3) := Lib.hid (by
        rw [List.append_nil]
        refine HB2.out.logStep ⟨_, ⟨_, B, HB2.out.log.set (L' := { L with next := m + 0 }) ?_ rfl hsc, rfl⟩, hsc.mono (fun i _ e => by rw [e]; exact lfoot_lg _ _ _), fun b hb => .inl hb⟩
        simpa using hsb)
      clear hsb hsc
      obtain ⟨X2, hX2⟩ : ∃ X2, X2 = lfoot lg (.slice va L.files.length vc) B ++ afoot ab Va := ⟨_, rfl⟩
      rw [← hX2] at HA0 HXLT
      have HBACK : Hid (∀ (L' : LogS) (S' : DiskS) (rs' : List (List UInt8)) (wj : World), OpAt w2 X2 lg d ab L' S' rs' wj → OpAt wb X lg d ab L' S' rs' wj) := Lib.hid (fun L' S' rs' wj h' => H2.out.back (Ext.refl _) (by rw [← hX2]; exact h'))
      clear hX2 HB2
      go_wp2_with fail
      have HKL : Hid (K.length ≤ 100000000000) := Lib.hid (by rw [← bsl_len]; exact HRS.out)
      refine (each_any 33 #[.pointer (some ⟨b7, 0, none⟩), .pointer (some ⟨b4, 0, none⟩)] a2 b.length c2 b (rowB_le HM.out.row) (by have := HBL.out; omega)
        (fun rs' wi => OpAt w2 X2 lg d ab { L with next := m + rs'.length } S (bsl K ++ rs') wi) (fun _ _ => rfl)
        (fun rs' wi hA => by
          obtain ⟨V1, Va1, B1, K1, hk1, hb1⟩ := hA
          exact (HM.out.row.src (u8s_one _)).chg hb1.chg (fun g hg e => by have := HM.out.own g hg; have := HXLT.out g e; have := HSZ.out; omega))
        (fun rs' wi w' hA hx => hA.ext hx)
        (fun rs' wi w1 x hlt hA hx hok hown => by
          obtain ⟨V1, Va1, B1, K1, hk1, hb1⟩ := hA
          have hb2 := hb1.ext hx
          have hl1 := hb1.log.lt
          have hl2 := hb1.all.ltF
          have hsz := HSZ.out
          have hbb := HBB.out
          have hkl : K1.length = K.length + rs'.length := by rw [← bsl_len, hk1, List.length_append, bsl_len]
          have hbl := HBL.out
          have hkk := HKL.out
          have hm12 := HM12.out
          have hc4 := (hb2.chg.block b4 (by omega) (fun e => by have := HXLT.out b4 e; omega)).trans H42.out
          have hc7 := (hb2.chg.block b7 (by omega) (fun e => by have := HXLT.out b7 e; omega)).trans H72.out
          refine (file1_any hb2 (by omega) (by simp only; omega) hc7 hc4 (fun e => ?_) hok (fun g hg => (hown g hg).2) (fun g hg e => ?_)).mono ?_
          · rcases hb1.fr b4 (List.mem_append_right _ e) with e | e
            · have := HXLT.out b4 e; omega
            · omega
          · have h1 := (hown g hg).1
            rcases List.mem_append.1 e with e | e
            · have := hl1 g e; omega
            · have := hl2 g (List.mem_append_left _ e); omega
          · rintro e w' ⟨rfl, h'⟩
            refine ⟨rfl, ?_⟩
            have e1 : m + (rs' ++ [x.l]).length = m + rs'.length + 1 := by simp; omega
            show OpAt w2 X2 lg d ab { L with next := m + (rs' ++ [x.l]).length } S (bsl K ++ (rs' ++ [x.l])) w'
            rw [e1, ← List.append_assoc, ← hk1]
            exact h')
        w3 HA0.out).mono ?_
      rintro e w4 ⟨rfl, hA4⟩
      have HEL := Lib.hid (eachW_len b.length 0 b)
      have HET := Lib.hid (eachW_torn_le b.length 0 b)
      obtain ⟨⟨E1, E2⟩, hE⟩ : ∃ E, E = eachW b.length 0 b := ⟨_, rfl⟩
      rw [← hE] at HR1 HEL HET hA4 ⊢
      simp only at HEL HET hA4 ⊢
      have HA4 := Lib.hid hA4
      clear hE hA4 HA0
      go_upto_block 0 with fail
      obtain ⟨tb, htb⟩ : ∃ tb, tb = w4.heap.size := ⟨_, rfl⟩
      rw [← htb]
      generalize hW5 : w4.alloc _ = w5
      have hx5 : Ext w4 w5 := by rw [← hW5]; exact (Ext.refl _).alloc _
      have HT5 : Hid (w5.heap[tb]? = some (.cells #[.int .i64 0] 72 (0, 0))) := Lib.hid (by rw [← hW5, htb]; exact heap_alloc_new w4 _)
      have HTB := Lib.hid htb
      have HX5 := Lib.hid hx5
      clear hW5 hx5 htb
      have HA5 := Lib.hid (HA4.out.ext HX5.out)
      go_cut [11] (fun s11 wx => ∃ (a' : Option Addr) (N' c' : Nat) (S' : DiskS), s11 = .slice a' N' c' ∧ Hid (R = ⟨0, { L with files := L.files ++ [m], size := N', next := m + E1.length }, S', E1⟩) ∧ Hid (OpAt w2 X2 lg d ab { L with next := m + E1.length } S' (bsl K ++ E1) wx) ∧ Hid (N' ≤ 1048576))
      case first =>
        cases E2 with
        | done =>
          have HRF : Hid (R = ⟨0, { L with files := L.files ++ [m], size := b.length, next := m + E1.length }, S, E1⟩) := Lib.hid HR1.out
          clear HR1
          simp only [endV]
          go_wp2_with fail
          go_meet
          case rel => exact ⟨a2, b.length, c2, S, rfl, HRF, HA5, HBL⟩
        | bad =>
          have HRF : Hid (R = ⟨24, { L with next := m + E1.length }, S, E1⟩) := Lib.hid HR1.out
          clear HR1
          simp only [endV]
          have HG5 : Hid (HasET w5) := Lib.hid (by
            obtain ⟨_, _, _, _, _, hb⟩ := HBACK.out _ _ _ _ HA5.out
            exact HG.out.chg hb.chg hgX)
          go_wp2_with fail
          refine (as_miss 24 tb w5 HG5.out).mono ?_
          rintro e w6 ⟨rfl, hx⟩
          have HA6 := Lib.hid (HBACK.out _ _ _ _ (HA5.out.ext hx))
          clear hx
          go_wp2_with fail
          go_ret
          rw [HRF.out]
          exact ⟨rfl, HA6.out⟩
        | torn t =>
          have htl : t ≤ b.length := by have := HET.out t rfl; omega
          have hbl := HBL.out
          have HG5 : Hid (HasET w5) := Lib.hid (by
            obtain ⟨_, _, _, _, _, hb⟩ := HBACK.out _ _ _ _ HA5.out
            exact HG.out.chg hb.chg hgX)
          obtain ⟨V4, Va4, B4, K4, hk4, hb4⟩ := HA4.out
          have HB4 := Lib.hid hb4
          have HK4 := Lib.hid hk4
          clear hb4 hk4
          simp only [endV]
          go_wp2_with fail
          refine (as_torn (t : Int) tb (.int .i64 0) w5 HG5.out HT5.out).mono ?_
          rintro e w6 ⟨rfl, hbk, hc⟩
          have HT6 := Lib.hid hbk
          have HB6 : Hid (OpB w2 X2 lg d ab { L with next := m + E1.length } S K4 V4 Va4 B4 w6) := Lib.hid ((HB4.out.ext HX5.out).other hc
            (fun q hq e => by have := HB4.out.log.lt q hq; have := HTB.out; omega) (fun q hq e => by have := HB4.out.all.ltF q hq; have := HTB.out; omega)
            (fun q hq e => by have := HB4.out.chg.size; have := HTB.out; omega))
          have HTF : Hid (tb ∉ lfoot lg V4 B4) := Lib.hid (fun e => by have := HB4.out.log.lt tb e; have := HTB.out; omega)
          clear hbk hc HG5 HT5 HA5 HA4
          have HA6 : Hid (OpAt w2 X2 lg d ab { L with next := m + E1.length } S (bsl K ++ E1) w6) := Lib.hid (by rw [← HK4.out]; exact HB6.out.at)
          cases last
          · have HRF : Hid (R = ⟨24, { L with next := m + E1.length }, S, E1⟩) := Lib.hid (by rw [HR1.out]; simp [fileEnd])
            clear HR1
            go_wp2_with fail
            go_ret
            rw [HRF.out]
            exact ⟨rfl, HBACK.out _ _ _ _ HA6.out⟩
          · have hbc := rowB_le HM.out.row
            have hs1 := run_sliceAt_hi (P := Tryd.prog) Tryd.underlying22 fr_u8 a2 b.length c2 t (by omega)
            have HSRC : Hid (Src w6 1 (.slice (cutA a2 c2 0) t c2) t (u8s (b.take t))) := Lib.hid (src_hiK ((HM.out.row.src (u8s_one _)).chg HB6.out.chg (fun g hg e => by have := HM.out.own g hg; have := HXLT.out g e; have := HSZ.out; omega)) htl hbc)
            have HOW : Hid (∀ g, (Value.slice (cutA a2 c2 0) t c2).ownBlock = some g → g ∉ lfoot lg V4 B4 ∧ g < w6.heap.size) := Lib.hid (fun g hg => by
              rw [own_cut a2 c2 0 t c2 b.length c2] at hg
              have h1 := HM.out.own g hg
              have h2 := HM.out.row.lt hg
              have h3 := HB6.out.chg.size
              refine ⟨fun e => ?_, by omega⟩
              rcases HB6.out.fr g (List.mem_append_left _ e) with e | e
              · have := HXLT.out g e; have := HSZ.out; omega
              · omega)
            have hc4 := (HB6.out.chg.block b4 (by have := HSZ.out; have := HBB.out; omega) (fun e => by have := HXLT.out b4 e; have := HBB.out; omega)).trans H42.out
            have c4 := cell_of_block hc4 0
            have t0 := cell_of_block HT6.out 0
            simp only [List.getElem?_toArray, List.getElem?_cons_zero] at c4 t0
            have HRT : Hid (R = if (mendW S s (b.take t)).1 ≠ 0 ∨ t = 0 then ⟨(mendW S s (b.take t)).1, { L with next := m + E1.length }, (mendW S s (b.take t)).2, E1⟩ else ⟨0, { L with files := L.files ++ [m], size := t, next := m + E1.length }, (mendW S s (b.take t)).2, E1⟩) := Lib.hid (by rw [HR1.out]; rfl)
            have HMC := Lib.hid (mend_any hk HI.out ⟨V4, B4, HB6.out.log, rfl⟩ s hs (cutA a2 c2 0) t c2 (b.take t) HSRC.out (by omega) HOW.out)
            clear HR1 HSRC HOW hc4 hbc
            generalize mendW S s (b.take t) = M at *
            generalize cutA a2 c2 0 = a3 at *
            obtain ⟨y, S6⟩ := M
            go_wp2_with fail
            clear hs1 c4 t0
            refine HMC.out.mono ?_
            rintro e w7 ⟨rfl, hto⟩
            have HA7 : Hid (OpAt w2 X2 lg d ab { L with next := m + E1.length } S6 (bsl K ++ E1) w7) := Lib.hid (by rw [← HK4.out]; exact HB6.out.logStep hto)
            have HT7 : Hid (w7.heap[tb]? = some (.cells #[.int .i64 (t : Int)] 72 (0, 0))) := Lib.hid (by
              obtain ⟨_, _, hc, _⟩ := hto
              exact (hc.block tb (block_lt HT6.out) HTF.out).trans HT6.out)
            have t0 := cell_of_block HT7.out 0
            simp only [List.getElem?_toArray, List.getElem?_cons_zero] at t0
            clear hto HMC HA6
            by_cases hy : y = 0
            · subst hy
              by_cases ht : t = 0
              · have HRF : Hid (R = ⟨0, { L with next := m + E1.length }, S6, E1⟩) := Lib.hid (by rw [HRT.out, if_pos (.inr ht)])
                have hti : ((t : Int) == 0) = true := by simp [ht]
                clear HRT ht
                go_wp2_with fail
                go_ret
                rw [HRF.out]
                exact ⟨rfl, HBACK.out _ _ _ _ HA7.out⟩
              · have HRF : Hid (R = ⟨0, { L with files := L.files ++ [m], size := t, next := m + E1.length }, S6, E1⟩) := Lib.hid (by rw [HRT.out, if_neg (by simp [ht])])
                have hti : ((t : Int) == 0) = false := by simp [ht]
                have HTL : Hid (t ≤ 1048576) := Lib.hid (by omega)
                clear HRT ht
                go_wp2_with fail
                go_meet
                case rel => exact ⟨a3, t, c2, S6, rfl, HRF, HA7, HTL⟩
            · have HRF : Hid (R = ⟨y, { L with next := m + E1.length }, S6, E1⟩) := Lib.hid (by rw [HRT.out, if_pos (.inl hy)])
              have hyi : (y != 0) = true := by simp [hy]
              clear HRT hy
              go_wp2_with fail
              go_ret
              rw [HRF.out]
              exact ⟨rfl, HBACK.out _ _ _ _ HA7.out⟩
      case rest =>
        obtain ⟨a', N', c', S', rfl, HRF, HAF, HN'⟩ := hcut
        clear HA5 HT5 HET HR1 HA4
        obtain ⟨V8, Va8, B8, K8, hk8, hb8⟩ := HAF.out
        have HB8 := Lib.hid hb8
        have HK8 := Lib.hid hk8
        obtain ⟨va8, vc8, rfl⟩ := hb8.log.raw.row.shape
        clear hb8 hk8
        simp only at HB8
        have hc4 := (HB8.out.chg.block b4 (by have := HSZ.out; have := HBB.out; omega) (fun e => by have := HXLT.out b4 e; have := HBB.out; omega)).trans H42.out
        have c4 := cell_of_block hc4 0
        have l2 := cell_of_block HB8.out.log.raw.box 2
        simp only [List.getElem?_toArray, List.getElem?_cons_zero] at c4 l2
        obtain ⟨T, hT⟩ : ∃ T : Nat → Bool, T = fun q => decide (q = lg ∨ (Value.slice va8 L.files.length vc8).ownBlock = some q) := ⟨_, rfl⟩
        have HT := Lib.hid hT
        have hT4 : T b4 = false := by
          rw [hT]
          simp only [decide_eq_false_iff_not, not_or]
          have hbb := HBB.out
          have hsz := HSZ.out
          have key : ∀ q ∈ lfoot lg (.slice va8 L.files.length vc8) B8, b4 ≠ q := fun q hq e => by
            rcases HB8.out.fr q (List.mem_append_left _ hq) with e2 | e2
            · have := HXLT.out q e2; omega
            · omega
          exact ⟨key lg (lfoot_lg _ _ _), fun e => key b4 (lfoot_own e) rfl⟩
        have f4 := cell_turned c4 hT4
        clear hT c4 hc4
        go_wp2_with fail
        refine wp_region_plan 16 (fun w' => ∃ z : Turned, w' = turned wc T z.d z.f z.os) (.reads [0, 1, 2, 3, 4, 6, 9, 10] (.two 5 (.one 7 (.one 8 (.reads [11, 12] (.one 13 (.reads [14, 15] (.one 16 .done)))))) 7 (.one 5 (.one 8 (.reads [11, 12] (.one 13 (.reads [14, 15] (.one 16 .done)))))))) (by kernel_rfl) (by kernel_rfl) (fun _ _ dd _ _ hh => by cases dd <;> exact hh) ?_ ?_
        · exact turned_of_ext (Ext.drewN wc 1)
        refine wpPlan_reads ?_
        simp only [pickOps, List.getElem?_cons_succ, List.getElem?_cons_zero]
        repeat (go_big_quiet_step (fail))
        refine wpQuiet_nil ?_
        clear f4
        have HXD := Lib.hid (Ext.drewN wc 1)
        have HXA := Lib.hid ((Ext.drewN wc 1).alloc (.cells #[.int .i64 (m : Int)] 3 (0, 0)))
        have HNB := Lib.hid (heap_alloc_new (wc.drewN 1) (.cells #[.int .i64 (m : Int)] 3 (0, 0)))
        have l2 : (wc.drewN 1).cell? ⟨lg, 2, none⟩ = some (.slice va8 L.files.length vc8) := by have := cell_of_block (HB8.out.log.ext HXD.out).raw.box 2; simpa using this
        have l3 : (wc.alloc (.cells #[.int .i64 (m : Int)] 3 (0, 0))).cell? ⟨lg, 2, none⟩ = some (.slice va8 L.files.length vc8) := by have := cell_of_block (HB8.out.log.ext ((Ext.refl wc).alloc (.cells #[.int .i64 (m : Int)] 3 (0, 0)))).raw.box 2; simpa using this
        refine wpPlan_two ?_ ?_
        · simp only [pickOps, List.getElem?_cons_succ, List.getElem?_cons_zero]
          go_wp2_with fail
          refine thenX_mk (turned_of_ext HXD.out) (wpPlan_one ?_)
          simp only [pickOps, List.getElem?_cons_succ, List.getElem?_cons_zero]
          go_wp2_with fail
          refine thenX_mk (turned_of_ext HXA.out) (wpPlan_one ?_)
          clear l2 l3
          simp only [pickOps, List.getElem?_cons_succ, List.getElem?_cons_zero]
          refine wpList_append_to (n := L.files.length) (m := 1) elem_nt rfl _ _ rfl (v := .slice va8 L.files.length vc8) rfl rfl (HB8.out.log.raw.row.ext HXA.out) (src_nt (n := m) HNB.out) (by unfold maxLen; omega) (by omega) ?_
          intro v9 w9 happ
          obtain ⟨a9, c9, rfl⟩ := happ.row.shape
          have HP := Lib.hid (HB8.out.log.push HXA.out happ N')
          have HC9 : Hid (Chg (fun q => T q = true) wc w9) := Lib.hid (((Chg.of_ext HXA.out).trans happ.chg (fun _ _ e => e)).mono (fun i _ e => by rw [HT.out]; simpa using .inr e))
          clear happ
          have d2 := cell_of_block HP.out.1 2
          have z2 := free_of_block HP.out.1 2
          have d3 := cell_of_block HP.out.2.1 3
          have z3 := free_of_block HP.out.2.1 3
          simp only [List.getElem?_toArray, List.getElem?_cons_zero] at d2 d3
          go_wp2_with fail
          refine thenX_mk (turned_of_chg HC9.out) (wpPlan_reads ?_)
          simp only [pickOps, List.getElem?_cons_succ, List.getElem?_cons_zero]
          repeat (go_big_quiet_step (fail))
          refine wpQuiet_nil ?_
          refine wpPlan_one ?_
          simp only [pickOps, List.getElem?_cons_succ, List.getElem?_cons_zero]
          go_wp2_with fail
          have HC10 : Hid (Chg (fun q => T q = true) wc (w9.setCell ⟨lg, 2, none⟩ (.slice a9 (L.files.length + 1) c9))) := Lib.hid (HC9.out.trans ((setCell_chg w9 lg 2 _).mono (fun i _ e => by rw [HT.out]; simpa using .inl e)) (fun _ _ e => e))
          refine thenX_mk (turned_of_chg HC10.out) (wpPlan_reads ?_)
          simp only [pickOps, List.getElem?_cons_succ, List.getElem?_cons_zero]
          repeat (go_big_quiet_step (fail))
          refine wpQuiet_nil ?_
          refine wpPlan_one ?_
          simp only [pickOps, List.getElem?_cons_succ, List.getElem?_cons_zero]
          clear d2 z2
          go_wp2_with fail
          refine thenX_last (wpPlan_done ?_)
          clear d3 z3
          have HFIN := Lib.hid (HB8.out.logStep ⟨_, ⟨_, _, HP.out.2.2.1, rfl⟩, HP.out.2.2.2.1, HP.out.2.2.2.2⟩)
          clear HC10 HC9 HP
          generalize World.setCell _ _ _ = w11 at *
          go_wp2_with fail
          go_ret
          rw [HRF.out]
          refine ⟨rfl, HBACK.out _ _ _ _ ?_⟩
          rw [← HK8.out]
          exact HFIN.out
        · simp only [pickOps, List.getElem?_cons_succ, List.getElem?_cons_zero]
          go_wp2_with fail
          refine thenX_mk (turned_of_ext HXA.out) (wpPlan_one ?_)
          simp only [pickOps, List.getElem?_cons_succ, List.getElem?_cons_zero]
          go_wp2_with fail
          refine thenX_mk (turned_of_ext HXA.out) (wpPlan_one ?_)
          clear l2 l3
          simp only [pickOps, List.getElem?_cons_succ, List.getElem?_cons_zero]
          refine wpList_append_to (n := L.files.length) (m := 1) elem_nt rfl _ _ rfl (v := .slice va8 L.files.length vc8) rfl rfl (HB8.out.log.raw.row.ext HXA.out) (src_nt (n := m) HNB.out) (by unfold maxLen; omega) (by omega) ?_
          intro v9 w9 happ
          obtain ⟨a9, c9, rfl⟩ := happ.row.shape
          have HP := Lib.hid (HB8.out.log.push HXA.out happ N')
          have HC9 : Hid (Chg (fun q => T q = true) wc w9) := Lib.hid (((Chg.of_ext HXA.out).trans happ.chg (fun _ _ e => e)).mono (fun i _ e => by rw [HT.out]; simpa using .inr e))
          clear happ
          have d2 := cell_of_block HP.out.1 2
          have z2 := free_of_block HP.out.1 2
          have d3 := cell_of_block HP.out.2.1 3
          have z3 := free_of_block HP.out.2.1 3
          simp only [List.getElem?_toArray, List.getElem?_cons_zero] at d2 d3
          go_wp2_with fail
          refine thenX_mk (turned_of_chg HC9.out) (wpPlan_reads ?_)
          simp only [pickOps, List.getElem?_cons_succ, List.getElem?_cons_zero]
          repeat (go_big_quiet_step (fail))
          refine wpQuiet_nil ?_
          refine wpPlan_one ?_
          simp only [pickOps, List.getElem?_cons_succ, List.getElem?_cons_zero]
          go_wp2_with fail
          have HC10 : Hid (Chg (fun q => T q = true) wc (w9.setCell ⟨lg, 2, none⟩ (.slice a9 (L.files.length + 1) c9))) := Lib.hid (HC9.out.trans ((setCell_chg w9 lg 2 _).mono (fun i _ e => by rw [HT.out]; simpa using .inl e)) (fun _ _ e => e))
          refine thenX_mk (turned_of_chg HC10.out) (wpPlan_reads ?_)
          simp only [pickOps, List.getElem?_cons_succ, List.getElem?_cons_zero]
          repeat (go_big_quiet_step (fail))
          refine wpQuiet_nil ?_
          refine wpPlan_one ?_
          simp only [pickOps, List.getElem?_cons_succ, List.getElem?_cons_zero]
          clear d2 z2
          go_wp2_with fail
          refine thenX_last (wpPlan_done ?_)
          clear d3 z3
          have HFIN := Lib.hid (HB8.out.logStep ⟨_, ⟨_, _, HP.out.2.2.1, rfl⟩, HP.out.2.2.2.1, HP.out.2.2.2.2⟩)
          clear HC10 HC9 HP
          generalize World.setCell _ _ _ = w11 at *
          go_wp2_with fail
          go_ret
          rw [HRF.out]
          refine ⟨rfl, HBACK.out _ _ _ _ ?_⟩
          rw [← HK8.out]
          exact HFIN.out
end Go.Proofs.YtfablbhkmddnbaaDoor
