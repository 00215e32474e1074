/- x -/
import Derived.Test.YtlmfhjipbjkcbaaGreatDoorProg
import Derived.WalkKit
import Derived.Lib.Walk
import Derived.Lib.Bytealg
import Derived.Lib.Hide
set_option maxHeartbeats 1000000
set_option maxRecDepth 100000
set_option linter.unusedSimpArgs false
set_option linter.unusedVariables false
namespace Go.Proofs.YtlmfhjipbjkcbaaGreatDoor
open Go.RowKit Go.Lib
theorem indexByteLite (s:ByteArray) (c:Int) (w:World) :
 Calls Tryz.prog 254 #[.string s,.int .u8 c] w fun e w'=>e=.returned (.int .i64 (Lib.indexByte s.data.toList c.toNat.toUInt8))∧w=w':=by
 go_enter Tryz.func254,Tryz.ntmps254
 go_wp2
 rw [run_callFunc_extern Tryz.func277 (by kernel_rfl) (by kernel_rfl) (by kernel_rfl) (e:=Extern.BytealgIndexByte.indexByte) (by kernel_rfl),Lib.run_indexByteString]
 simp only [Result.andThen]
 rw [Oper.upon_value]
 go_wp2
 go_ret
 exact ⟨rfl,rfl⟩
theorem indexByte (s:ByteArray) (c:Int) (w:World) :
 Calls Tryz.prog 209 #[.string s,.int .u8 c] w fun e w'=>e=.returned (.int .i64 (Lib.indexByte s.data.toList c.toNat.toUInt8))∧w=w':=by
 go_enter Tryz.func209,Tryz.ntmps209
 go_wp2_with (go_at_call 254;refine (indexByteLite _ _ _).mono ?_;rintro e w' ⟨rfl,rfl⟩)
 go_ret
 exact ⟨rfl,rfl⟩
def okByte (c:UInt8):Bool :=
 (decide (97≤bits BinOp.or IntKind.u8 (c.toNat:Int) 32)&&decide (bits BinOp.or IntKind.u8 (c.toNat:Int) 32≤122)) || (decide (48≤(c.toNat:Int))&&decide ((c.toNat:Int)≤57)) || decide (0≤Lib.indexByte [95,46,45,58,47,61,44] (c.toNat:Int).toNat.toUInt8)
def zbg (l:List UInt8):Bool:=l.all okByte&&!l.isEmpty&&decide (l.length≤64)
theorem all_take_succ {s:ByteArray}{k:Nat}(hk:k<s.size):(s.data.toList.take (k+1)).all okByte=((s.data.toList.take k).all okByte&&okByte s[k]):=by
 rw [List.take_succ_eq_append_getElem (by simpa using hk)]
 simp;rfl
theorem valid_bad {s:ByteArray}{k:Nat}(hk:k<s.size) (h:okByte s[k]=false):zbg s.data.toList=false:=by
 have:s.data.toList.all okByte=false:=by
  rw [List.all_eq_false]
  exact ⟨s[k],Array.mem_toList_iff.2 (Array.getElem_mem (xs:=s.data) hk),by simp [h]⟩
 simp [zbg,this]
theorem valid_end {s:ByteArray}{k:Nat}(hk:¬k<s.size) (h:(s.data.toList.take k).all okByte=true):zbg s.data.toList=(!s.toList.isEmpty&&decide ((s.size:Int)≤64)):=by
 rw [List.take_of_length_le (by simp;omega)] at h
 have e:s.toList=s.data.toList:=by simp [ByteArray.toList_eq]
 have e2:s.data.toList.length=s.size:=by simp
 simp only [zbg,h,e,Bool.true_and]
 congr 1
 rw [decide_eq_decide,e2];omega
theorem valid_any (s:ByteArray) (w:World) (hs:s.size≤maxLen) :
 Calls Tryz.prog 157 #[.string s] w fun e w'=>e=.returned (.bool (zbg s.data.toList))∧w=w':=by
 unfold maxLen at hs
 go_enter Tryz.func157,Tryz.ntmps157
 go_wp2
 go_loop [8] (fun i=>∃k:Nat,k≤s.size∧i=.int .i64 k∧Hid ((s.data.toList.take k).all okByte=true)) (fun i=>s.size-(RowKit.intOf i).toNat)
 case atStart=>exact ⟨0,Nat.zero_le _,rfl,rfl⟩
 case round =>
  obtain ⟨k,hk,rfl,hall⟩:=hrel
  by_cases hlt:k<s.size
  ·by_cases hok:okByte s[k]=true
   ·have hn:Hid ((s.data.toList.take (k+1)).all okByte=true):=by
     show _=_
     rw [all_take_succ hlt,hall.out,hok];rfl
    have Hok:=hid hok;clear hok
    go_wp2_with (go_at_call 209;refine (indexByte _ _ _).mono ?_;rintro e w' ⟨rfl,rfl⟩)
    all_goals first
     | (go_round
        case rel=>exact ⟨k+1,by omega,by go_num,hn⟩
        case measure=>simp [RowKit.intOf];omega)
     | (exfalso
        have h:=Hok.out
        simp [okByte] at h
        omega)
   ·have hb:=valid_bad hlt (by simpa using hok)
    have Hb:=hid hb
    have Hok:=hid hok;clear hok hb
    go_wp2_with (go_at_call 209;refine (indexByte _ _ _).mono ?_;rintro e w' ⟨rfl,rfl⟩)
    all_goals first
     | (go_ret;exact ⟨by rw [Hb.out];rfl,rfl⟩)
     | (exfalso
        have h:=Hok.out
        simp [okByte] at h
        omega)
  ·have he:=valid_end hlt hall.out
   have He:=hid he;clear he
   go_wp2
   all_goals (go_ret;exact ⟨by rw [He.out];simp [*],rfl⟩)
end Go.Proofs.YtlmfhjipbjkcbaaGreatDoor
