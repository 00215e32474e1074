/- x -/
import Derived.Test.YtlmfhjipbjkcbaaGreatDoorDict
import Derived.Test.YtlmfhjipbjkcbaaGreatDoorStm
import Derived.Test.YtlmfhjipbjkcbaaGreatDoorRng
import Derived.Sort.Walk0
import Derived.Test.YtlmfhjipbjkcbaaGreatDoorSer
import Derived.Test.YtlmfhjipbjkcbaaGreatDoorSch
import Derived.WalkKit
import Derived.WalkSpells
import Derived.BigQuiet
import Derived.Deep.QuietTactic
import Derived.Test.YtlmfhjipbjkcbaaGreatDoorNam
import Derived.Test.YtlmfhjipbjkcbaaGreatDoorPtc
set_option linter.unusedSimpArgs false
set_option linter.unusedVariables false
namespace Go.Proofs.YtlmfhjipbjkcbaaGreatDoor
open Go.RowKit Go.Sort Go.Lib
theorem less_eq (a b:ByteArray):Op.bytesLess a.toList b.toList=decide (bl a<bl b):=by
 rw [bytesLess_eq,ByteArray.toList_eq,ByteArray.toList_eq];rfl
theorem same_eq (a b:ByteArray):(a.toList==b.toList)=decide (a=b):=by
 rw [←beq_toListBytes,zde]
theorem zdu {s:ByteArray}(h:zaU (bl s)=true):s.size≤64:=by
 simp only [zaU,Bool.and_eq_true,decide_eq_true_eq] at h
 simpa [bl] using h.2
end Go.Proofs.YtlmfhjipbjkcbaaGreatDoor
namespace Go.Proofs.YtlmfhjipbjkcbaaGreatDoor
open Go.RowKit Go.Sort Go.Lib
def findZ (l:List ByteArray) (s:ByteArray):Int:=if s∈l then (l.idxOf s:Nat) else -1
theorem findZ_no {l:List ByteArray}{s:ByteArray}(h:s∉l):findZ l s=-1:=by rw [findZ,if_neg h]
theorem put_parts (l:List ByteArray) (s:ByteArray) :
 (zaU (bl s)=false∧zbe l s=(0,2)∧zbh l s=l)∨(zaU (bl s)=true∧s∈l∧zbe l s=(findZ l s,0)∧zbh l s=l∧0≤findZ l s) ∨
 (zaU (bl s)=true∧s∉l∧findZ l s=-1∧((1024≤l.length∧zbe l s=(0,15)∧zbh l s=l)∨(l.length<1024∧zbe l s=((l.length:Int),0)∧zbh l s=l++[s]))):=by
 have e:zaU s.data.toList=zaU (bl s):=rfl
 cases hv:zaU (bl s)
 ·exact .inl ⟨rfl,by simp [zbe,e,hv],by simp [zbh,e,hv]⟩
 ·by_cases hm:s∈l
  ·exact .inr (.inl ⟨rfl,hm,by simp [zbe,findZ,e,hv,hm],by simp [zbh,hm],by rw [findZ,if_pos hm];omega⟩)
  ·refine .inr (.inr ⟨rfl,hm,findZ_no hm,?_⟩)
   by_cases hf:1024≤l.length
   ·exact .inl ⟨hf,by simp [zbe,e,hv,hm,hf],by simp [zbh,hf]⟩
   ·exact .inr ⟨by omega,by simp [zbe,e,hv,hm,hf],by simp [zbh,e,hv,hm];omega⟩
end Go.Proofs.YtlmfhjipbjkcbaaGreatDoor
