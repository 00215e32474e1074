/- x -/
import Derived.Sort.Walk0
import Derived.Test.YtlmfhjipbjkcbaaGreatDoorNam
set_option linter.unusedSimpArgs false
set_option linter.unusedVariables false
namespace Go.Proofs.YtlmfhjipbjkcbaaGreatDoor
section
open Go.RowKit Go.Sort Go.Lib
theorem less_eq (a b:ByteArray):Op.bytesLess a.toList b.toList=decide (bl a<bl b):=by
 rw [bytesLess_eq,ByteArray.toList_eq,ByteArray.toList_eq];rfl
theorem same_eq (a b:ByteArray):(a.toList==b.toList)=decide (a=b):=by
 rw [←beq_toListBytes,zdh]
theorem zdA {s:ByteArray}(h:zaW (bl s)=true):s.size≤64:=by
 simp only [zaW,yaG,yaH] at h
 simpa [bl] using h.2
end
section
open Go.RowKit Go.Sort Go.Lib
def findZ (l:List ByteArray) (s:ByteArray):Int:=if s∈l then (l.idxOf s:Nat) else -1
theorem findZ_no {l:List ByteArray}{s:ByteArray}(h:s∉l):findZ l s=-1:=by rw [findZ,if_neg h]
theorem put_parts (l:List ByteArray) (s:ByteArray) :
 (zaW (bl s)=false∧zbf l s=(0,2)∧zbk l s=l)∨(zaW (bl s)=true∧s∈l∧zbf l s=(findZ l s,0)∧zbk l s=l∧0≤findZ l s) ∨
 (zaW (bl s)=true∧s∉l∧findZ l s=-1∧((1024≤l.length∧zbf l s=(0,15)∧zbk l s=l)∨(l.length<1024∧zbf l s=((l.length:Int),0)∧zbk l s=l++[s]))):=by
 have e:zaW s.data.toList=zaW (bl s):=rfl
 cases hv:zaW (bl s)
 ·exact .inl ⟨rfl,by simp [zbf,e,hv],by simp [zbk,e,hv]⟩
 ·by_cases hm:s∈l
  ·exact .inr (.inl ⟨rfl,hm,by simp [zbf,findZ,e,hv,hm],by simp [zbk,hm],by rw [findZ,if_pos hm];omega⟩)
  ·refine .inr (.inr ⟨rfl,hm,findZ_no hm,?_⟩)
   by_cases hf:1024≤l.length
   ·exact .inl ⟨hf,by simp [zbf,e,hv,hm,hf],by simp [zbk,hf]⟩
   ·exact .inr ⟨by omega,by simp [zbf,e,hv,hm,hf],by simp [zbk,e,hv,hm];omega⟩
end
end Go.Proofs.YtlmfhjipbjkcbaaGreatDoor
