/- x -/
import Derived.Test.YtlmfhjipbjkcbaaGreatDoorStr
import Derived.Test.YtlmfhjipbjkcbaaGreatDoorShelf
import Derived.Lib.SlicesCompact
set_option linter.unusedSimpArgs false
set_option linter.unusedVariables false
namespace Go.Proofs.YtlmfhjipbjkcbaaGreatDoor
section
open Go.RowKit Go.Sort Go.Lib
theorem sort_any {w:World}{e:TypeId}{v:Value}{n:Nat}{l:List ByteArray}(h:Row w e 1 v n (strs l)) (hn:n<4611686018427387904) :
 Calls Tryz.prog 42 #[v] w fun r w'=>r=.returned (.tuple #[])∧Row w' e 1 v n (strs (sortS l))∧Chg (fun k=>v.ownBlock=some k) w w':=by
 have hlen:n=l.length:=by have:=h.1;rw [strs_len] at this;omega
 rcases h.2 with ⟨rfl,h0⟩|⟨g,cap,cur,rfl,hbase,hb,h1,h2,h3,h4⟩
 ·refine (Tryz.slices_Sort_string_none none 0 w).mono ?_
  rintro r w' ⟨rfl,rfl⟩
  have hl:l=[]:=yau.1 (by omega)
  subst hl
  have e0:sortS []=[]:=yau.1 (by rw [zcM];rfl)
  exact ⟨rfl,by rw [e0];exact h,Chg.refl _ _⟩
 ·subst hlen
  have h4':cur.toList.take (l.map bl).length=(l.map bl).map encStr:=by rw [←strs_enc,yaw];simpa using h4
  have hH:=holds_of_block (ss:=l.map bl) hb h4'
  have key:=Tryz.slices_Sort_string g 0 cap (l.map bl) w hH (zab hb) (by simpa using hn)
  rw [yaw] at key
  refine key.mono ?_
  rintro r w' ⟨rfl,m,os,rfl⟩
  refine ⟨rfl,?_,Chg.of_grown (grownBy_sorted _) |>.mono (fun i _ hi=>by simpa [Value.ownBlock] using hi)⟩
  have:=ownsRow_sorted (w:=w) (base:=0) (g:=g) (cap:=cap) (n:=m) (os:=os) (ss:=l.map bl) (ts:=(l.map bl).mergeSort fun x y=>decide (x≤y)) (by simp) hbase hb (by simpa using h1) h2 h3
  rw [yaw] at this
  rw [sortS,←strs_enc']
  exact this
end
section
open Go.RowKit Go.Sort Go.Lib
def compS (l:List ByteArray):List ByteArray:=(Lib.compact (l.map bl)).map lb
theorem upTo_mem {d:Array (List UInt8)}{x:List UInt8}:∀{m:Nat},x∈compactUpTo d m↔∃j,j<m∧d[j]! = x:=by
 intro m
 induction m with
 | zero=>simp [compactUpTo]
 | succ m ih =>
  rw [compactUpTo_succ,yah,ih]
  constructor
  ·rintro (⟨j,hj,e⟩|h)
   ·exact ⟨j,by omega,e⟩
   ·split at h
    ·exact ⟨m,by omega,(yal.1 h).symm⟩
    ·simp at h
  ·rintro ⟨j,hj,e⟩
   by_cases hjm:j=m
   ·subst hjm
    by_cases hk:keeps d j=true
    ·right;rw [if_pos hk];simp [e]
    ·left
     simp only [keeps,yaL,not_or,Decidable.not_not] at hk
     exact ⟨j-1,by omega,by rw [←hk.2];exact e⟩
   ·exact .inl ⟨j,by omega,e⟩
theorem upTo_rises {d:Array (List UInt8)}(hs:∀i j,i<j→j<d.size→d[i]!≤d[j]!):∀{m:Nat},m≤d.size→(compactUpTo d m).Pairwise (·< ·):=by
 intro m
 induction m with
 | zero=>intro _;simp [compactUpTo]
 | succ m ih =>
  intro hm
  rw [compactUpTo_succ]
  split
  ·rename_i hk
   rw [List.pairwise_append]
   refine ⟨ih (by omega),by simp,fun a ha b hb=>?_⟩
   obtain rfl:=yal.1 hb
   obtain ⟨j,hj,rfl⟩:=upTo_mem.1 ha
   simp only [keeps,yaL] at hk
   have h1:d[m-1]!≤d[m]!:=hs _ _ (by omega) (by omega)
   have h2:d[m]!≠d[m-1]!:=by
    rcases hk with e|e
    ·omega
    ·exact e
   have h3:d[j]!≤d[m-1]!:=by
    by_cases e:j=m-1
    ·rw [e];exact List.le_refl _
    ·exact hs _ _ (by omega) (by omega)
   have h4:d[j]!≤d[m]!:=List.le_trans h3 h1
   rcases List.le_iff_lt_or_eq.1 h4 with e|e
   ·exact e
   ·exfalso
    apply h2
    exact (List.le_antisymm h1 (e▸h3)).symm
  ·rw [List.append_nil];exact ih (by omega)
theorem compS_mem {l:List ByteArray}{x:ByteArray}:x∈compS l↔x∈l:=by
 unfold compS Lib.compact
 rw [yap]
 constructor
 ·rintro ⟨y,hy,rfl⟩
  obtain ⟨j,hj,e⟩:=upTo_mem.1 hy
  have hj':j<l.length:=by simpa using hj
  have:((l.map bl).toArray)[j]! = bl l[j]:=by rw [getElem!_pos _ j (by simpa using hj')];simp
  rw [this] at e
  rw [←e,lb_bl]
  exact yaM hj'
 ·intro hx
  obtain ⟨j,hj,e⟩:=yaH.1 hx
  refine ⟨bl x,upTo_mem.2 ⟨j,by simpa using hj,?_⟩,lb_bl x⟩
  rw [getElem!_pos _ j (by simpa using hj)]
  simp [e]
theorem compS_nodup {l:List ByteArray}(h:l.Pairwise fun a b=>bl a≤bl b):(compS l).Nodup:=by
 unfold compS Lib.compact
 have hp:(compactUpTo (l.map bl).toArray (l.map bl).length).Pairwise (·< ·):=by
  refine upTo_rises (fun i j hij hj=>?_) (by simp)
  have hj':j<l.length:=by simpa using hj
  rw [getElem!_pos _ i (by simp;omega),getElem!_pos _ j hj]
  simpa using List.pairwise_iff_getElem.1 h i j (by omega) hj' hij
 rw [List.nodup_iff_pairwise_ne,List.pairwise_map]
 refine hp.imp fun {a b} hab e=>?_
 have h2:=congrArg bl e
 rw [bl_lb,bl_lb] at h2
 subst h2
 exact List.lt_irrefl _ hab
theorem compS_len (l:List ByteArray):(compS l).length≤l.length:=by
 unfold compS Lib.compact compactUpTo
 simp only [yaw]
 refine Nat.le_trans (List.length_filter_le _ _) (by simp)
theorem row_shrink {w:World}{e:TypeId}{a:Option Addr}{n c k:Nat}{xs:List Value}(h:Row w e 1 (.slice a n c) n xs) (hk:k≤n):Row w e 1 (.slice a k c) k (xs.take k):=by
 obtain ⟨h1,⟨h2,h3⟩|⟨g,cap,cur,hv,hg,hb,h4,h5,h6,h7⟩⟩:=h
 ·cases h2
  obtain rfl:k=0:=by omega
  exact ⟨by simp,.inl ⟨rfl,rfl⟩⟩
 ·cases hv
  refine ⟨by simp [h1];omega,.inr ⟨g,_,cur,rfl,hg,hb,by omega,h5,h6,?_⟩⟩
  rw [←h7,List.take_take]
  congr 1;omega
theorem compact_any {w:World}{e:TypeId}{v:Value}{n:Nat}{l:List ByteArray}(h:Row w e 1 v n (strs l)) (hn:n<4611686018427387904) :
 Calls Tryz.prog 150 #[v] w fun r w'=>∃v',r=.returned v'∧Row w' e 1 v' (compS l).length (strs (compS l))∧Chg (fun k=>v.ownBlock=some k) w w'∧v'.ownBlock=v.ownBlock:=by
 have hlen:n=l.length:=by have:=h.1;rw [strs_len] at this;omega
 by_cases h0:n=0
 ·have hl:l=[]:=yau.1 (by omega)
  subst hl
  obtain ⟨a,c,rfl⟩:=h.shape
  subst h0
  refine (Tryz.slices_Compact_string_empty a c w).mono ?_
  rintro r w' ⟨rfl,rfl⟩
  exact ⟨_,rfl,h,Chg.refl _ _,rfl⟩
 ·rcases h.2 with ⟨rfl,h0'⟩|⟨g,cap,cur,rfl,hbase,hb,h1,h2,h3,h4⟩
  ·omega
  ·subst hlen
   have h4':cur.toList.take (l.map bl).length=(l.map bl).map encStr:=by rw [←strs_enc,yaw];simpa using h4
   have hH:=holds_of_block (ss:=l.map bl) hb h4'
   have key:=Tryz.slices_Compact_string g 0 cap (l.map bl) w hH (by simp;omega) (by simpa using h1)
   rw [yaw] at key
   refine key.mono ?_
   rintro r w' ⟨rfl,m,rfl⟩
   have hcl:(Lib.compact (l.map bl)).length=(compS l).length:=by unfold compS;simp
   have hle:=compS_len l
   refine ⟨_,rfl,?_,Chg.of_grown (grownBy_sorted (os:=#[]) _) |>.mono (fun i _ hi=>by simpa [Value.ownBlock] using hi),rfl⟩
   have:=ownsRow_sorted (w:=w) (base:=0) (g:=g) (cap:=cap) (n:=m) (os:=#[]) (ss:=l.map bl) (ts:=Lib.compact (l.map bl)++List.replicate (l.length-(Lib.compact (l.map bl)).length) []) (by simp;omega) hbase hb (by simpa using h1) h2 h3
   rw [yaw] at this
   have h5:=row_shrink this hle
   rw [hcl]
   have e1:((Lib.compact (l.map bl)++List.replicate (l.length-(Lib.compact (l.map bl)).length) []).map encStr).take (compS l).length=strs (compS l):=by
    rw [yav,List.take_append_of_le_length (by simp [hcl]),yai (by simp [hcl])]
    exact strs_enc' _
   rw [e1,hcl] at h5
   have e2:∀W:World,grow W #[]=W:=fun W=>by simp [grow]
   rw [e2] at h5
   exact h5
end
end Go.Proofs.YtlmfhjipbjkcbaaGreatDoor
