/- x -/
import Derived.Sort.Walk0
import Derived.Test.YtlmfhjipbjkcbaaGreatDoorNam
set_option linter.unusedSimpArgs false
set_option linter.unusedVariables false
namespace Go.Proofs.YtlmfhjipbjkcbaaGreatDoor
section
open Go.RowKit Go.Sort Go.Lib
theorem less_eq (a b:ByteArray):Op.bytesLess a.toList b.toList=decide (bl a<bl b):=by
 rw [bytesLess_eq,ByteArray.toList_eq,ByteArray.toList_eq];rfl
theorem same_eq (a b:ByteArray):(a.toList==b.toList)=decide (a=b):=by
 rw [←beq_toListBytes,zdi]
theorem zdA {s:ByteArray}(h:zaU (bl s)=true):s.size≤64:=by
 simp only [zaU,yaK,yaL] at h
 simpa [bl] using h.2
end
section
open Go.RowKit Go.Sort Go.Lib
def findZ (l:List ByteArray) (s:ByteArray):Int:=if s∈l then (l.idxOf s:Nat) else -1
theorem findZ_no {l:List ByteArray}{s:ByteArray}(h:s∉l):findZ l s=-1:=by rw [findZ,if_neg h]
theorem put_parts (l:List ByteArray) (s:ByteArray) :
 (zaU (bl s)=false∧zbg l s=(0,2)∧zbj l s=l)∨(zaU (bl s)=true∧s∈l∧zbg l s=(findZ l s,0)∧zbj l s=l∧0≤findZ l s) ∨
 (zaU (bl s)=true∧s∉l∧findZ l s=-1∧((1024≤l.length∧zbg l s=(0,15)∧zbj l s=l)∨(l.length<1024∧zbg l s=((l.length:Int),0)∧zbj l s=l++[s]))):=by
 have e:zaU s.data.toList=zaU (bl s):=rfl
 cases hv:zaU (bl s)
 ·exact .inl ⟨rfl,by simp [zbg,e,hv],by simp [zbj,e,hv]⟩
 ·by_cases hm:s∈l
  ·exact .inr (.inl ⟨rfl,hm,by simp [zbg,findZ,e,hv,hm],by simp [zbj,hm],by rw [findZ,if_pos hm];omega⟩)
  ·refine .inr (.inr ⟨rfl,hm,findZ_no hm,?_⟩)
   by_cases hf:1024≤l.length
   ·exact .inl ⟨hf,by simp [zbg,e,hv,hm,hf],by simp [zbj,hf]⟩
   ·exact .inr ⟨by omega,by simp [zbg,e,hv,hm,hf],by simp [zbj,e,hv,hm];omega⟩
end
end Go.Proofs.YtlmfhjipbjkcbaaGreatDoor
