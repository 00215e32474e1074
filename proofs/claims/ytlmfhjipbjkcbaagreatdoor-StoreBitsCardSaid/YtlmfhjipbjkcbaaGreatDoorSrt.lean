/- x -/
import Derived.Test.YtlmfhjipbjkcbaaGreatDoorStr
import Derived.Test.YtlmfhjipbjkcbaaGreatDoorShelf
set_option linter.unusedSimpArgs false
set_option linter.unusedVariables false
namespace Go.Proofs.YtlmfhjipbjkcbaaGreatDoor
open Go.RowKit Go.Sort Go.Lib
theorem sort_any {w:World}{e:TypeId}{v:Value}{n:Nat}{l:List ByteArray}(h:Row w e 1 v n (strs l)) (hn:n<4611686018427387904) :
 Calls Tryz.prog 42 #[v] w fun r w'=>r=.returned (.tuple #[])∧Row w' e 1 v n (strs (sortS l))∧Chg (fun k=>v.ownBlock=some k) w w':=by
 have hlen:n=l.length:=by have:=h.1;rw [strs_len] at this;omega
 rcases h.2 with ⟨rfl,h0⟩|⟨g,cap,cur,rfl,hbase,hb,h1,h2,h3,h4⟩
 ·refine (Tryz.slices_Sort_string_none none 0 w).mono ?_
  rintro r w' ⟨rfl,rfl⟩
  have hl:l=[]:=yas.1 (by omega)
  subst hl
  have e0:sortS []=[]:=yas.1 (by rw [zdo];rfl)
  exact ⟨rfl,by rw [e0];exact h,Chg.refl _ _⟩
 ·subst hlen
  have h4':cur.toList.take (l.map bl).length=(l.map bl).map encStr:=by rw [←strs_enc,yau];simpa using h4
  have hH:=holds_of_block (ss:=l.map bl) hb h4'
  have key:=Tryz.slices_Sort_string g 0 cap (l.map bl) w hH (zab hb) (by simpa using hn)
  rw [yau] at key
  refine key.mono ?_
  rintro r w' ⟨rfl,m,os,rfl⟩
  refine ⟨rfl,?_,Chg.of_grown (grownBy_sorted _) |>.mono (fun i _ hi=>by simpa [Value.ownBlock] using hi)⟩
  have:=ownsRow_sorted (w:=w) (base:=0) (g:=g) (cap:=cap) (n:=m) (os:=os) (ss:=l.map bl) (ts:=(l.map bl).mergeSort fun x y=>decide (x≤y)) (by simp) hbase hb (by simpa using h1) h2 h3
  rw [yau] at this
  rw [sortS,←strs_enc']
  exact this
end Go.Proofs.YtlmfhjipbjkcbaaGreatDoor
