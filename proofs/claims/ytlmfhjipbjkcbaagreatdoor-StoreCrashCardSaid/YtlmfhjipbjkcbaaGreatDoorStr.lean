/- x -/
import Derived.Test.YtlmfhjipbjkcbaaGreatDoorSch
import Derived.Sort.OwnSorted
set_option linter.unusedSimpArgs false
set_option linter.unusedVariables false
namespace Go.Proofs.YtlmfhjipbjkcbaaGreatDoor
open Go.RowKit Go.Sort Go.Lib
def bl (s:ByteArray):List UInt8:=s.data.toList
def lb (l:List UInt8):ByteArray:=⟨l.toArray⟩
@[simp] theorem lb_bl (s:ByteArray):lb (bl s)=s:=rfl
@[simp] theorem bl_lb (l:List UInt8):bl (lb l)=l:=rfl
theorem bl_inj {a b:ByteArray}(h:bl a=bl b):a=b:=by rw [←lb_bl a,h,lb_bl]
def strs (l:List ByteArray):List Value:=l.map Value.string
theorem strs_len (l:List ByteArray):(strs l).length=l.length:=by simp [strs]
theorem strs_one (l:List ByteArray):∀u∈strs l,u.oneCell'=true:=by
 intro u hu
 obtain ⟨s,_,rfl⟩:=yap.1 hu
 rfl
theorem strs_enc (l:List ByteArray):strs l=(l.map bl).map encStr:=by
 simp only [strs,List.map_map]
 apply List.map_congr_left
 intro s _
 rfl
theorem strs_enc' (l:List (List UInt8)):l.map encStr=strs (l.map lb):=by
 simp only [strs,List.map_map]
 rfl
def sortS (l:List ByteArray):List ByteArray:=((l.map bl).mergeSort fun x y=>decide (x≤y)).map lb
theorem zbw (l:List ByteArray):(sortS l).Perm l:=by
 have h:=(List.mergeSort_perm (l.map bl) fun x y=>decide (x≤y)).map lb
 have e:(l.map bl).map lb=l:=by simp [List.map_map,Function.comp_def]
 rw [e] at h
 exact h
theorem zcM (l:List ByteArray):(sortS l).length=l.length:=(zbw l).length_eq
theorem zcL (l:List ByteArray):(sortS l).Pairwise fun a b=>bl a≤bl b:=by
 have h:((l.map bl).mergeSort fun x y=>decide (x≤y)).Pairwise (fun x y=>decide (x≤y)=true):=List.pairwise_mergeSort (fun a b c h k=>by simp only [yaL] at *;exact List.le_trans h k) (fun a b=>by rcases List.le_total a b with h|h<;>simp [h]) (l.map bl)
 unfold sortS
 rw [List.pairwise_map]
 exact h.imp (fun h=>by simpa using h)
theorem zdW:∀{a b:List ByteArray},a.Perm b→a.Pairwise (fun x y=>bl x≤bl y)→b.Pairwise (fun x y=>bl x≤bl y)→a=b
 | [],b,h,_,_=>h.nil_eq
 | x::a,[],h,_,_=>by have:=h.length_eq;simp at this
 | x::a,y::b,h,ha,hb=>by
  have hxy:x=y:=by
   have h1:x∈y::b:=h.subset (List.mem_cons_self ..)
   have h2:y∈x::a:=h.symm.subset (List.mem_cons_self ..)
   rcases yaq.1 h1 with e|h1
   ·exact e
   ·rcases yaq.1 h2 with e|h2
    ·exact e.symm
    ·exact bl_inj (List.le_antisymm ((List.pairwise_cons.1 ha).1 y h2) ((List.pairwise_cons.1 hb).1 x h1))
  subst hxy
  rw [zdW ((List.perm_cons _).1 h) (List.pairwise_cons.1 ha).2 (List.pairwise_cons.1 hb).2]
theorem strs_src {w:World}{a:Option Addr}{n c:Nat}{l:List ByteArray}(h:Src w 1 (.slice a n c) n (strs l)) {k:Nat}(hk:k<n) :
 ∃b off s,a=some ⟨b,off,none⟩∧l[k]?=some s∧w.cell? ⟨b,off+k,none⟩=some (.string s):=by
 rcases h with ⟨_,h,_⟩|⟨ad,c',h,hl,h2,_⟩
 ·omega
 ·simp at h
  obtain ⟨rfl,rfl⟩:=h
  rw [strs_len] at hl
  have hkl:k<l.length:=by omega
  have hcell:=h2 k (.string l[k]) (by simp [strs,yac hkl])
  have hcell0:=h2 0 (.string (l[0]'(by omega))) (by simp [strs,yac (show 0<l.length by omega)])
  obtain ⟨b,off,spot⟩:=ad
  have hspot:spot=none:=by simpa [Addr.add] using World.cell?_spot hcell0
  subst hspot
  refine ⟨b,off,l[k],rfl,yac hkl,?_⟩
  rw [←yak];exact hcell
theorem Row.strs_src {w:World}{e:TypeId}{v:Value}{n:Nat}{l:List ByteArray}(h:Row w e 1 v n (strs l)):Src w 1 v n (strs l):=h.src (strs_one l)
end Go.Proofs.YtlmfhjipbjkcbaaGreatDoor
