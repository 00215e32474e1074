/- x -/
import Derived.Test.YtlmfhjipbjkcbaaGreatDoorStr
import Derived.Test.YtlmfhjipbjkcbaaGreatDoorPtc
set_option linter.unusedSimpArgs false
set_option linter.unusedVariables false
namespace Go.Proofs.YtlmfhjipbjkcbaaGreatDoor
open Go.RowKit Go.Sort Go.Lib
theorem info_str:(Tryz.prog.info? 9).map (fun i=>(i.zero,i.size,i.bytes))=some (some (.string ⟨#[]⟩),1,16):=by kernel_rfl
theorem make_strs (w:World) (n:Nat) (hn:n≤8796093022208) :
 ∃w' cs,(Instr.makeSlice 49 (.int .i64 (n:Int)) (.int .i64 (n:Int))).run Tryz.prog w=.ok (.slice (some ⟨w.heap.size,0,none⟩) n n) w' ∧
  w'.heap[w.heap.size]?=some (.cells cs 9 (0,0))∧cs.size=n∧Ext w w':=by
 obtain ⟨i0,hi,hz0,hz1,hz2⟩:=info_parts info_str
 obtain ⟨w',h1,h2,h3⟩:=run_make_full (P:=Tryz.prog) w 0 49 9 i0 (.string ⟨#[]⟩) 1 Tryz.underlying49 hi hz0 hz1 .i64 .i64 n (by rw [hz2];omega) (by unfold maxLen;omega) (Nat.zero_le _)
 obtain ⟨_,⟨e,_⟩|⟨g,cap,cur,e,_,hb,_,_,h6,_⟩⟩:=h2
 ·cases e
 ·simp only [Value.slice.injEq,Option.some.injEq,Addr.mk.injEq] at e
  obtain ⟨⟨rfl,_⟩,_,rfl⟩:=e
  exact ⟨w',cur,h1,hb,by simpa using h6,(Chg.of_grown h3).ext (fun _ _ e=>by simp at e)⟩
structure StrsTo (w:World) (l:List ByteArray) (v:Value) (w':World):Prop where
 row:Row w' 9 1 v l.length (strs l)
 own:∀g,v.ownBlock=some g→w.heap.size≤g
 ext:Ext w w'
theorem elem_str:ElemOk Tryz.prog 49 9 1 16 :=
 ⟨Tryz.underlying49,by
   obtain ⟨i0,hi,hz0,hz1,hz2⟩:=info_parts info_str
   exact ⟨i0,_,hi,hz0,hz1,hz2,rfl⟩,by decide⟩
theorem src_str' {W:World}{b:Nat}{s:ByteArray}{t:TypeId}{fr:Nat×Nat}(h:W.heap[b]?=some (.cells #[.string s] t fr)):Src W 1 (.slice (some ⟨b,0,none⟩) 1 1) 1 (strs [s]):=by
 refine .inr ⟨_,_,rfl,rfl,fun j u hj=>?_,strs_one _⟩
 rw [yak,Nat.zero_add,zaa h]
 simpa [strs] using hj
theorem row_made {W:World}{b:Nat}{t:TypeId}(h:W.heap[b]?=some (.cells #[] t (0,0))) (size:Nat):Row W t size (.slice (some ⟨b,0,none⟩) 0 0) 0 [] :=
 ⟨by simp,.inr ⟨b,0,#[],rfl,Nat.zero_le _,h,Nat.le_refl _,by unfold maxLen;omega,by simp,by simp⟩⟩
def StrBlk (w:World) (g cap:Nat) (L:List ByteArray):Prop :=
 ∃cur,w.heap[g]?=some (.cells cur 9 (0,0))∧cur.size=cap∧L.length≤cap∧cap≤maxLen∧cur.toList.take L.length=strs L
theorem StrBlk.of_row {w:World}{v:Value}{L:List ByteArray}(h:Row w 9 1 v L.length (strs L)) (hp:0<L.length):∃g cap,v=.slice (some ⟨g,0,none⟩) L.length cap∧StrBlk w g cap L:=by
 obtain ⟨_,⟨_,h0⟩|⟨g,cap,cur,hv,_,h1,h2,h3,h4,h5⟩⟩:=h
 ·omega
 ·exact ⟨g,cap,hv,cur,h1,by omega,h2,h3,by rw [←h5,Nat.mul_one]⟩
theorem StrBlk.cell {w:World}{g cap:Nat}{L:List ByteArray}(h:StrBlk w g cap L) {k:Nat}{s:ByteArray}(hk:L[k]?=some s):w.cell? ⟨g,k,none⟩=some (.string s):=by
 obtain ⟨cur,h1,h2,h3,h4,h5⟩:=h
 rw [zaa h1]
 have hkl:=(yad.1 hk).1
 have:=congrArg (fun l=>l[k]?) h5
 simp only [yaT,if_pos hkl,strs,yar,hk,Option.map_some] at this
 simpa using this
end Go.Proofs.YtlmfhjipbjkcbaaGreatDoor
