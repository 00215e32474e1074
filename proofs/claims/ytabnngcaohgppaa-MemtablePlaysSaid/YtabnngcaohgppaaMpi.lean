/- MemtablePlays: both tables in memory, and what a Put of both, and a Take, leave. -/
import Derived.Test.YtabnngcaohgppaaMpw
namespace Go.Proofs.Ytabnngcaohgppaa
open Go.RowKit Go.Sort Go.Lib

structure PlayI (w : World) (d mb most rd : Nat) (T L : List (ByteArray × Sl)) (cnt : Nat) (la : Option Addr) (lc : Nat) (wr : World) : Prop where
  tab : TabAt wr d mb T cnt most
  rtab : RTab wr rd most L la lc
  two : TabTwo T L
  ext : Ext w wr
  new : w.heap.size ≤ d ∧ w.heap.size ≤ mb ∧ w.heap.size ≤ rd
  ne1 : rd ≠ d ∧ rd ≠ mb
  ne2 : ∀ g, (Value.slice la L.length lc).ownBlock = some g → g ≠ d ∧ g ≠ mb ∧ w.heap.size ≤ g
  ne3 : ∀ p ∈ L, ∀ g, p.2.v.ownBlock = some g → g ≠ d ∧ g ≠ mb
  ne4 : ∀ p ∈ T, ∀ g, p.2.v.ownBlock = some g → g ≠ rd ∧ (Value.slice la L.length lc).ownBlock ≠ some g ∧ g < wr.heap.size

theorem PlayI.next {w : World} {d mb most rd : Nat} {T L : List (ByteArray × Sl)} {cnt : Nat} {la : Option Addr} {lc : Nat} {wr w' : World} (I : PlayI w d mb most rd T L cnt la lc wr) (hx : Ext wr w') : PlayI w d mb most rd T L cnt la lc w' :=
  ⟨I.tab.ext hx, I.rtab.ext hx, I.two, I.ext.trans hx, I.new, I.ne1, I.ne2, I.ne3, fun p hp g hg => ⟨(I.ne4 p hp g hg).1, (I.ne4 p hp g hg).2.1, Nat.lt_of_lt_of_le (I.ne4 p hp g hg).2.2 hx.size⟩⟩
theorem PlayI.sum {w : World} {d mb most rd : Nat} {T L : List (ByteArray × Sl)} {cnt : Nat} {la : Option Addr} {lc : Nat} {wr : World} (I : PlayI w d mb most rd T L cnt la lc wr) : (L.map fun p => p.2.l.length).sum = cnt := I.two.sum.trans I.tab.tot
theorem PlayI.len {w : World} {d mb most rd : Nat} {T L : List (ByteArray × Sl)} {cnt : Nat} {la : Option Addr} {lc : Nat} {wr : World} (I : PlayI w d mb most rd T L cnt la lc wr) : T.length ≤ cnt ∧ L.length ≤ cnt := by
  have h := sum_ge I.two.pos
  rw [I.tab.tot] at h
  exact ⟨h, by rw [I.two.len]; exact h⟩
theorem PlayI.pl {w : World} {d mb most rd : Nat} {T L : List (ByteArray × Sl)} {cnt : Nat} {la : Option Addr} {lc : Nat} {wr : World} (I : PlayI w d mb most rd T L cnt la lc wr) : ∀ p ∈ L, p.2.l.length ≤ cnt := fun p hp => by
  have h := le_sum (f := fun p : ByteArray × Sl => p.2.l.length) hp
  rw [I.sum] at h; exact h
/-- A change of the table leaves the document's. -/
theorem PlayI.rkeep {w : World} {d mb most rd : Nat} {T L : List (ByteArray × Sl)} {cnt : Nat} {la : Option Addr} {lc : Nat} {wr w' : World} (I : PlayI w d mb most rd T L cnt la lc wr) (hc : Chg (fun b => b = d ∨ b = mb) wr w') : RTab w' rd most L la lc :=
  I.rtab.chg hc (fun e => by have := I.ne1; rcases e with e | e; exact this.1 e; exact this.2 e) (fun g hg e => by have := I.ne2 g hg; rcases e with e | e; exact this.1 e; exact this.2.1 e) (fun p hp g hg e => by have := I.ne3 p hp g hg; rcases e with e | e; exact this.1 e; exact this.2 e)

theorem PlayI.put {w : World} {d mb most rd : Nat} {T L : List (ByteArray × Sl)} {cnt : Nat} {la : Option Addr} {lc : Nat} {w0 w1 : World} (I : PlayI w d mb most rd T L cnt la lc w0) (hcnt : cnt ≤ 2000) {name : ByteArray} {p : Pt} (hname : name.size ≤ maxLen) {e : Ending} (hP : TabPut w0 d mb T cnt most name p e w1) :
    ∃ z : Int, e = .returned (.int .i64 z) ∧ ∀ w1', Ext w1 w1' → Calls Try.prog 17 #[.pointer (some ⟨rd, 0, none⟩), .string name, p.val] w1' fun e2 w2 =>
      e2 = .returned (.int .i64 z) ∧ Chg (fun b => b = rd ∨ (Value.slice la L.length lc).ownBlock = some b) w1' w2 ∧ ∃ T' L' cnt' la' lc', cnt' ≤ cnt + 1 ∧ PlayI w d mb most rd T' L' cnt' la' lc' w2 := by
  obtain ⟨hc, hP⟩ := hP
  have hR1 := I.rkeep hc
  have hsz := hc.size
  have hsum := I.sum
  have hlen := I.len
  have hx1 : Ext w w1 := ((Chg.of_ext (S := fun b => b = d ∨ b = mb) I.ext).trans hc (fun _ _ e => e)).ext (fun i hi e => by have := I.new; omega)
  have stay : TabAt w1 d mb T cnt most → PlayI w d mb most rd T L cnt la lc w1 := fun hT =>
    ⟨hT, hR1, I.two, hx1, I.new, I.ne1, I.ne2, I.ne3, fun p hp g hg => ⟨(I.ne4 p hp g hg).1, (I.ne4 p hp g hg).2.1, Nat.lt_of_lt_of_le (I.ne4 p hp g hg).2.2 hsz⟩⟩
  rcases hP with ⟨hv, rfl, hT⟩ | ⟨hv, hh, hfull, rfl, hT⟩ | ⟨hv, rfl, s, hm, hown, hP⟩
  · refine ⟨2, rfl, fun w1' hx => (rt_put_bad rd name p hname hv).mono ?_⟩
    rintro e2 w2 ⟨rfl, hx2⟩
    exact ⟨rfl, Chg.of_ext hx2, T, L, cnt, la, lc, by omega, (stay hT).next (hx.trans hx2)⟩
  · refine ⟨22, rfl, fun w1' hx => (rt_put_full (hR1.ext hx) (by omega) I.two.nodupL (by omega) name p hname hv (by rw [← I.two.has]; exact hh) (by omega)).mono ?_⟩
    rintro e2 w2 ⟨rfl, hx2⟩
    exact ⟨rfl, Chg.of_ext hx2, T, L, cnt, la, lc, by omega, (stay hT).next (hx.trans hx2)⟩
  · have hroom : hasL (tabPts L name) p.t = true ∨ (((L.map fun p => p.2.l.length).sum : Nat) : Int) < most := by
      rw [hsum, ← I.two.has]
      rcases hP with ⟨hh, _⟩ | ⟨_, hlt, _⟩
      · exact .inl hh
      · exact .inr (by omega)
    refine ⟨0, rfl, fun w1' hx => (rt_put_ok (hR1.ext hx) (by omega) I.two.nodupL (by omega) name p hname hv hroom).mono ?_⟩
    rintro e2 w2 ⟨rfl, s', L', hm', hpl, ⟨⟨la', lc', hR2, hla⟩, hc2⟩, hown'⟩
    refine ⟨rfl, hc2, ?_⟩
    have hrT : ∀ l ∈ [tabPts T name, [p]], Rises l := fun l hl => by
      simp at hl
      rcases hl with rfl | rfl
      · exact (I.tab.at name).2.1
      · exact Rises.one _
    rw [← I.two.pts] at hm'
    have hss : s.l = s'.l := hm.unique hrT hm'
    have hpos : 0 < s.l.length := merge_pos hm
    have htwo : TabTwo (aput T name s) L' := I.two.put hpl hss hpos
    have hmemT : ∀ q ∈ aput T name s, q = (name, s) ∨ q ∈ T := fun q hq => mem_aput hq
    obtain ⟨_, hmemL, _⟩ := put_mem I.two.nodupL hpl
    have hx1s := hx.size
    have key : ∀ cnt', TabAt w1 d mb (aput T name s) cnt' most → PlayI w d mb most rd (aput T name s) L' cnt' la' lc' w2 := by
      intro cnt' hT'
      have hslt : ∀ q ∈ aput T name s, ∀ g, q.2.v.ownBlock = some g → g ≠ rd ∧ (Value.slice la L.length lc).ownBlock ≠ some g ∧ g < w1.heap.size := fun q hq g hg => by
        rcases hmemT q hq with rfl | hq'
        · have h1 := hown g hg
          have h2 := (hT'.ok _ hq).1.lt hpos hg
          refine ⟨?_, fun e => ?_, h2⟩
          · have := block_lt I.rtab.blk; omega
          · have := I.rtab.row.lt e; omega
        · have := I.ne4 q hq' g hg
          exact ⟨this.1, this.2.1, by omega⟩
      have hdl := hT'.lt
      have hml := hT'.map.lt
      have hrl := block_lt I.rtab.blk
      refine ⟨(hT'.ext hx).chg hc2 (fun e => ?_) (fun e => ?_) (fun q hq g hg e => ?_), hR2, htwo, ?_, I.new, I.ne1, fun g hg => ?_, fun q hq g hg => ?_, fun q hq g hg => ?_⟩
      · rcases e with e | e
        · exact I.ne1.1 e.symm
        · exact (I.ne2 d e).1 rfl
      · rcases e with e | e
        · exact I.ne1.2 e.symm
        · exact (I.ne2 mb e).2.1 rfl
      · have := hslt q hq g hg
        rcases e with e | e
        · exact this.1 e
        · exact this.2.1 e
      · refine ((Chg.of_ext (S := fun b => b = rd ∨ (Value.slice la L.length lc).ownBlock = some b) (hx1.trans hx)).trans hc2 (fun _ _ e => e)).ext (fun i hi e => ?_)
        have := I.new
        rcases e with e | e
        · omega
        · have := (I.ne2 i e).2.2; omega
      · rcases hla g hg with e | e
        · exact I.ne2 g e
        · have := hx1.size; omega
      · rcases hmemL q hq with rfl | hq'
        · have := hown' g hg; omega
        · exact I.ne3 q hq' g hg
      · have h1 := hslt q hq g hg
        refine ⟨h1.1, fun e => ?_, by have := hc2.size; omega⟩
        rcases hla g e with e | e
        · exact h1.2.1 e
        · omega
    rcases hP with ⟨_, hT'⟩ | ⟨_, _, hT'⟩
    · exact ⟨_, _, cnt, la', lc', by omega, key cnt hT'⟩
    · exact ⟨_, _, cnt + 1, la', lc', Nat.le_refl _, key _ hT'⟩

theorem PlayI.took {w : World} {d mb most rd : Nat} {T L : List (ByteArray × Sl)} {cnt : Nat} {la : Option Addr} {lc : Nat} {w0 w1 w2 : World} (I : PlayI w d mb most rd T L cnt la lc w0) {v : Value} {K : List (ByteArray × Sl)} (hk : TookTo w0 d mb most T v K w1) (hx : Ext w1 w2) :
    PlayI w d mb most rd [] [] 0 none 0 (w2.setCell ⟨rd, 1, none⟩ (.slice none 0 0)) := by
  have hR1 := (I.rkeep hk.chg).ext hx
  have hC := setCell_chg w2 rd 1 (.slice none 0 0)
  have hx1 : Ext w w1 := ((Chg.of_ext (S := fun b => b = d ∨ b = mb) I.ext).trans hk.chg (fun _ _ e => e)).ext (fun i hi e => by have := I.new; omega)
  refine ⟨(hk.tab.ext hx).chg hC (fun e => I.ne1.1 e.symm) (fun e => I.ne1.2 e.symm) (by simp), ⟨?_, Row.nil _ _ _, by simp, by simp [Value.ownBlock], by simp⟩, TabTwo.nil, ((Chg.of_ext (S := fun b => b = rd) (hx1.trans hx)).trans hC (fun _ _ e => e)).ext (fun i hi e => by have := I.new; omega), I.new, I.ne1, by simp [Value.ownBlock], by simp, by simp⟩
  have := setCell_block (i := 1) hR1.blk (.slice none 0 0)
  simpa using this
end Go.Proofs.Ytabnngcaohgppaa
