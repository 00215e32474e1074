/- x -/
import Derived.Sort.Walk0
import Derived.Test.YtlmfhjipbjkcbaaGreatDoorNam
set_option linter.unusedSimpArgs false
set_option linter.unusedVariables false
namespace Go.Proofs.YtlmfhjipbjkcbaaGreatDoor
section
open Go.RowKit Go.Sort Go.Lib
theorem less_eq (a b:ByteArray):Op.bytesLess a.toList b.toList=decide (bl a<bl b):=by
 rw [bytesLess_eq,ByteArray.toList_eq,ByteArray.toList_eq];rfl
theorem same_eq (a b:ByteArray):(a.toList==b.toList)=decide (a=b):=by
 rw [←beq_toListBytes,zdm]
theorem valid_size {s:ByteArray}(h:zbg (bl s)=true):s.size≤64:=by
 simp only [zbg,yaK,yaL] at h
 simpa [bl] using h.2
end
section
open Go.RowKit Go.Sort Go.Lib
def findZ (l:List ByteArray) (s:ByteArray):Int:=if s∈l then (l.idxOf s:Nat) else -1
theorem findZ_no {l:List ByteArray}{s:ByteArray}(h:s∉l):findZ l s=-1:=by rw [findZ,if_neg h]
theorem put_parts (l:List ByteArray) (s:ByteArray) :
 (zbg (bl s)=false∧zbk l s=(0,2)∧zbn l s=l)∨(zbg (bl s)=true∧s∈l∧zbk l s=(findZ l s,0)∧zbn l s=l∧0≤findZ l s) ∨
 (zbg (bl s)=true∧s∉l∧findZ l s=-1∧((1024≤l.length∧zbk l s=(0,15)∧zbn l s=l)∨(l.length<1024∧zbk l s=((l.length:Int),0)∧zbn l s=l++[s]))):=by
 have e:zbg s.data.toList=zbg (bl s):=rfl
 cases hv:zbg (bl s)
 ·exact .inl ⟨rfl,by simp [zbk,e,hv],by simp [zbn,e,hv]⟩
 ·by_cases hm:s∈l
  ·exact .inr (.inl ⟨rfl,hm,by simp [zbk,findZ,e,hv,hm],by simp [zbn,hm],by rw [findZ,if_pos hm];omega⟩)
  ·refine .inr (.inr ⟨rfl,hm,findZ_no hm,?_⟩)
   by_cases hf:1024≤l.length
   ·exact .inl ⟨hf,by simp [zbk,e,hv,hm,hf],by simp [zbn,hf]⟩
   ·exact .inr ⟨by omega,by simp [zbk,e,hv,hm,hf],by simp [zbn,e,hv,hm];omega⟩
end
end Go.Proofs.YtlmfhjipbjkcbaaGreatDoor
