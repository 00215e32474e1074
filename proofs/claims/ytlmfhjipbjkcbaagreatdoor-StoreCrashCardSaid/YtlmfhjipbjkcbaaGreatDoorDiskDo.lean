/- x -/
import Derived.Test.YtlmfhjipbjkcbaaGreatDoorMake
import Derived.Test.YtlmfhjipbjkcbaaGreatDoorLex
import Derived.Test.YtlmfhjipbjkcbaaGreatDoorStr
import Derived.WalkSpells
set_option maxHeartbeats 2000000
set_option linter.unusedSimpArgs false
set_option linter.unusedVariables false
namespace Go.Proofs.YtlmfhjipbjkcbaaGreatDoor
open Go.RowKit Go.Sort
theorem zdk {w:World}{d mb:Nat}(hc:w.cell? ⟨d,0,none⟩=some (.map (some mb))) :
 Calls Tryz.prog 40 #[.pointer (some ⟨d,0,none⟩)] w fun e w'=>e=.returned (.bool false)∧w=w':=by
 have hn:=fun (w:World)=>run_eql_map_nil (P:=Tryz.prog) w 92 _ _ (some mb) Tryz.underlying92
 go_enter Tryz.func40,Tryz.ntmps40
 go_wp2
 go_ret
 exact ⟨rfl,rfl⟩
def nameB (s:ByteArray):Bool:=decide (1≤s.size)&&decide (s.size≤64)
theorem toList_isEmpty (b:ByteArray):b.toList.isEmpty=(b.size==0):=by
 have e:b.toList=b.data.toList:=by simp [ByteArray.toList_eq]
 rw [e]
 obtain ⟨⟨l⟩⟩:=b
 cases l<;>simp [ByteArray.size]
theorem isName_any (s:ByteArray) (w:World) (hs:s.size≤maxLen) :
 Calls Tryz.prog 213 #[.string s] w fun e w'=>e=.returned (.bool (nameB s))∧w=w':=by
 unfold maxLen at hs
 have he:=toList_isEmpty s
 by_cases h0:s.size=0
 ·have Hf:=Lib.hid (show nameB s=false by simp [nameB,h0])
  have he':s.toList.isEmpty=true:=by rw [he,h0];rfl
  have he2:s.toList=[]:=by simpa using he'
  clear he h0
  go_enter Tryz.func213,Tryz.ntmps213
  go_wp2
  go_ret
  rw [Hf.out]
  exact ⟨rfl,rfl⟩
 ·have Hf:=Lib.hid (show nameB s=decide ((s.size:Int)≤64) by
   have h1:1≤s.size:=by omega
   simp only [nameB,h1,decide_true,Bool.true_and,decide_eq_decide];omega)
  have he':s.toList.isEmpty=false:=by rw [he];simpa using h0
  have he2:s.toList≠[]:=by simpa using he'
  clear he h0
  go_enter Tryz.func213,Tryz.ntmps213
  go_wp2
  go_ret
  rw [Hf.out]
  exact ⟨by simp,rfl⟩
theorem strs_cell {w:World}{nb c:Nat}{ns:List ByteArray}(hs:Src w 1 (.slice (some ⟨nb,0,none⟩) ns.length c) ns.length (strs ns)) {k:Nat}{s:ByteArray}(hk:ns[k]?=some s):w.cell? ⟨nb,k,none⟩=some (.string s):=by
 rcases hs with ⟨h,_⟩|⟨ad',c',h,_,h2,_⟩
 ·simp at h
 ·simp at h
  obtain ⟨rfl,rfl⟩:=h
  have:=h2 k (.string s) (by simp [strs,hk])
  have e:(⟨nb,0,none⟩:Addr).add k=⟨nb,k,none⟩:=by unfold Addr.add;split<;>simp_all
  rwa [e] at this
def zcp (ns:List ByteArray) (left:Int):Option Int:=if ns.all nameB=false then some 2 else if left=0 then some 17 else none
def bump (w:World) (d:Nat) (left ops:Int):World :=
 if 0<left then (w.setCell ⟨d,4,none⟩ (.int .i64 (ops+1))).setCell ⟨d,3,none⟩ (.int .i64 (left-1)) else w.setCell ⟨d,4,none⟩ (.int .i64 (ops+1))
def zcT (ns:List ByteArray) (left ops err:Int) (R:World→Prop) (d:Nat) (w:World) (e:Ending) (w':World):Prop :=
 match zcp ns left with
 | some x=>e=.returned (.int .i64 x)∧w=w'
 | none=>e=.returned (.int .i64 err)∧((err≠0∧R w')∨(err=0∧∃w1,R w1∧w'=bump w1 d left ops))
theorem zcT.stop {ns:List ByteArray}{left ops err x:Int}{R:World→Prop}{d:Nat}{w:World}(h:zcp ns left=some x):zcT ns left ops err R d w (.returned (.int .i64 x)) w:=by
 unfold zcT;rw [h];exact ⟨rfl,rfl⟩
theorem zcT.bad {ns:List ByteArray}{left ops err:Int}{R:World→Prop}{d:Nat}{w w':World}(h:zcp ns left=none) (he:err≠0) (hR:R w'):zcT ns left ops err R d w (.returned (.int .i64 err)) w':=by
 unfold zcT;rw [h];exact ⟨rfl,.inl ⟨he,hR⟩⟩
theorem zcT.done {ns:List ByteArray}{left ops:Int}{R:World→Prop}{d:Nat}{w w1:World}(h:zcp ns left=none) (hR:R w1):zcT ns left ops 0 R d w (.returned (.int .i64 0)) (bump w1 d left ops):=by
 unfold zcT;rw [h];exact ⟨rfl,.inr ⟨rfl,w1,hR,rfl⟩⟩
theorem do_any {w:World}{d mb:Nat}{room used left ops:Int}(hh:w.heap[d]?=some (.cells #[.map (some mb),.int .i64 room,.int .i64 used,.int .i64 left,.int .i64 ops] 94 (0,0)))
 (nb c:Nat) (ns:List ByteArray) (hn:Src w 1 (.slice (some ⟨nb,0,none⟩) ns.length c) ns.length (strs ns)) (hl:∀s∈ns,s.size≤maxLen) (hfew:ns.length≤10) (hops:0≤ops) (hops2:ops<4611686018427387904) (hleft:-1≤left) (hleft2:left≤9223372036854775807)
 (K:Nat) (caps:Array Value) (hcf:∀W,(callFunc K caps).run Tryz.prog W=.ok (.enter K caps) W) (err:Int) (R:World→Prop)
 (hK:left≠0→ns.all nameB=true→Calls Tryz.prog K caps w fun e w'=>e=.returned (.int .i64 err)∧R w'∧(err=0→∃used',w'.heap[d]?=some (.cells #[.map (some mb),.int .i64 room,.int .i64 used',.int .i64 left,.int .i64 ops] 94 (0,0)))) :
 Calls Tryz.prog 162 #[.pointer (some ⟨d,0,none⟩),.slice (some ⟨nb,0,none⟩) ns.length c,.func (.func K) #[] caps] w (zcT ns left ops err R d w):=by
 have c0:w.cell? ⟨d,0,none⟩=some (.map (some mb)):=by rw [zaa hh];rfl
 have c3:w.cell? ⟨d,3,none⟩=some (.int .i64 left):=by rw [zaa hh];rfl
 have Hn:=Lib.hid hn;have Hl:=Lib.hid hl;have HK:=Lib.hid hK;have Hh:=Lib.hid hh
 clear hn hl hK hh
 obtain ⟨N,hN⟩:∃N,N=ns.length:=⟨_,rfl⟩
 rw [←hN] at hfew ⊢
 have HN:=Lib.hid hN;clear hN
 go_enter Tryz.func162,Tryz.ntmps162
 go_wp2_with (go_at_call 40;refine (zdk c0).mono ?_;rintro e w' ⟨rfl,rfl⟩)
 go_loop [14] (fun i=>∃k:Nat,k≤N∧i=.int .i64 k∧Hid ((ns.take k).all nameB=true)) (fun i=>N-(intOf i).toNat)
 case atStart=>exact ⟨0,Nat.zero_le _,rfl,rfl⟩
 case round =>
  obtain ⟨k,hk,rfl,hall⟩:=hrel
  by_cases hlt:k<N
  ·obtain ⟨s,hs⟩:∃s,ns[k]?=some s:=⟨ns[k]'(by rw [←HN.out];exact hlt),by simp⟩
   have hcell:=strs_cell Hn.out hs
   have hsz:=Hl.out s (yag hs)
   have Hs:=Lib.hid hs;clear hs
   by_cases hb:nameB s=true
   ·have hn2:Hid ((ns.take (k+1)).all nameB=true):=by
     show _=_
     rw [yao,Hs.out,List.all_append,hall.out];simp [hb]
    have Hb:=Lib.hid hb;clear hb
    go_wp2_with (go_at_call 213;refine (isName_any _ _ hsz).mono ?_;rintro e w' ⟨rfl,rfl⟩;rw [Hb.out])
    go_round
    case rel=>exact ⟨k+1,by omega,by go_num,hn2⟩
    case measure=>simp [intOf];omega
   ·have hb':nameB s=false:=by simpa using hb
    have hst:zcp ns left=some 2:=by
     have:ns.all nameB=false:=by rw [List.all_eq_false];exact ⟨s,yag Hs.out,by simp [hb']⟩
     simp [zcp,this]
    have Hst:=Lib.hid hst;have Hb:=Lib.hid hb';clear hst hb hb'
    go_wp2_with (go_at_call 213;refine (isName_any _ _ hsz).mono ?_;rintro e w' ⟨rfl,rfl⟩;rw [Hb.out])
    go_ret
    exact zcT.stop Hst.out
  ·have hkN:k=N:=by omega
   subst hkN
   have hall':ns.all nameB=true:=by
    have:=hall.out
    rwa [HN.out,List.take_length] at this
   by_cases h0:left=0
   ·have Hst:=Lib.hid (show zcp ns left=some 17 by simp [zcp,hall',h0])
    have g0:(left==0)=true:=by simp [h0]
    clear h0 hall'
    go_wp2_with fail
    go_ret
    exact zcT.stop Hst.out
   ·have Hst:=Lib.hid (show zcp ns left=none by simp [zcp,hall',h0])
    have g0:(left==0)=false:=by simp [h0]
    have HK':=Lib.hid (HK.out h0 hall');clear HK hall' h0
    go_wp2_with fail
    refine HK'.out.mono ?_
    rintro e w1 ⟨rfl,hR,hb1⟩
    have HR:=Lib.hid hR
    by_cases he:err=0
    ·subst he
     obtain ⟨used',hb1⟩:=hb1 rfl
     have d3:w1.cell? ⟨d,3,none⟩=some (.int .i64 left):=by rw [zaa hb1];rfl
     have d4:w1.cell? ⟨d,4,none⟩=some (.int .i64 ops):=by rw [zaa hb1];rfl
     have f3:w1.frozen? ⟨d,3,none⟩=false:=zan hb1 3
     have f4:w1.frozen? ⟨d,4,none⟩=false:=zan hb1 4
     clear hb1 hR HK'
     by_cases hp:0<left
     ·have e1:=Lib.hid (show bump w1 d left ops=(w1.setCell ⟨d,4,none⟩ (.int .i64 (ops+1))).setCell ⟨d,3,none⟩ (.int .i64 (left-1)) by simp [bump,hp])
      go_wp2_with fail
      go_ret
      have:=zcT.done (d:=d) (w:=w) (ops:=ops) Hst.out HR.out
      rw [e1.out] at this
      exact this
     ·have e1:=Lib.hid (show bump w1 d left ops=w1.setCell ⟨d,4,none⟩ (.int .i64 (ops+1)) by simp [bump,hp])
      go_wp2_with fail
      go_ret
      have:=zcT.done (d:=d) (w:=w) (ops:=ops) Hst.out HR.out
      rw [e1.out] at this
      exact this
    ·have ge:(err != 0)=true:=by simp [he]
     clear hb1 hR HK'
     go_wp2_with fail
     go_ret
     exact zcT.bad Hst.out he HR.out
end Go.Proofs.YtlmfhjipbjkcbaaGreatDoor
