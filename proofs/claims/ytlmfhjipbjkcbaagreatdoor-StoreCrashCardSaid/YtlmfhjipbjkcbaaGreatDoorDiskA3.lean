/- x -/
import Derived.Test.YtlmfhjipbjkcbaaGreatDoorMake
import Derived.Test.YtlmfhjipbjkcbaaGreatDoorLex
import Derived.WalkSpells
set_option maxHeartbeats 4000000
set_option maxRecDepth 100000
set_option linter.unusedSimpArgs false
set_option linter.unusedVariables false
namespace Go.Proofs.YtlmfhjipbjkcbaaGreatDoor
section
open Go.RowKit Go.Sort
theorem append1_old {w:World}{d mb:Nat}{E:List (ByteArray×FileX)}{room used left ops:Int}(h:DiskRep w d mb E room used left ops)
 (bb dd nn:Nat) (name:ByteArray) (a:Option Addr) (n c:Nat) (bl:List UInt8)
 (hb:w.cell? ⟨bb,0,none⟩=some (.slice a n c)) (hd:w.cell? ⟨dd,0,none⟩=some (.pointer (some ⟨d,0,none⟩))) (hn:w.cell? ⟨nn,0,none⟩=some (.string name))
 (hs:Src w 1 (.slice a n c) n (u8s bl)) (hap:n=0∨∀g,(Value.slice a n c).ownBlock=some g→g∉foot d mb E)
 (hbb:bb∉foot d mb E) (hdd:dd∉foot d mb E) (hroom:(n:Int)≤room-used) (hr:room≤1073741824) (hu:0≤used) (x:FileX) (hx:aget E name=some x) (hfit:n+x.f.bytes.length≤1048576) :
 Calls Tryz.prog 163 #[.pointer (some ⟨bb,0,none⟩),.pointer (some ⟨dd,0,none⟩),.pointer (some ⟨nn,0,none⟩)] w fun e w'=>e=.returned (.int .i64 0)∧∃x',x'.f={ x.f with bytes:=x.f.bytes++bl }∧DiskRep w' d mb (aput E name x') room (used+n) left ops∧Chg (·∈foot d mb E) w w'∧∀b∈foot d mb (aput E name x'),b∈foot d mb E∨w.heap.size≤b:=by
 have hbl:n=bl.length:=by
  rcases hs with ⟨_,e1,e2⟩|⟨_,_,_,e2,_⟩
  ·have:=congrArg List.length e2;rw [zaI] at this;rw [e1,this];rfl
  ·rw [zaI] at e2;omega
 have Hbl0:=Lib.hid hbl;clear hbl
 have hh:=h.head
 have c0:w.cell? ⟨d,0,none⟩=some (.map (some mb)):=by rw [zaa hh];rfl
 have c1:w.cell? ⟨d,1,none⟩=some (.int .i64 room):=by rw [zaa hh];rfl
 have c2:w.cell? ⟨d,2,none⟩=some (.int .i64 used):=by rw [zaa hh];rfl
 have hz:∀w:World,(zeroValue 116).run Tryz.prog w=.ok (.pointer none) w:=fun _=>by kernel_rfl
 have hlk:∀k,(Instr.lookup 92 (.map (some mb)) (.string name) false).run Tryz.prog (w.drewN k)=.ok (.pointer (some ⟨x.fb,0,none⟩)) (w.drewN k):=by
  intro k
  have:=(h.ext (Ext.drewN w k)).map.lookup (P:=Tryz.prog) (zaz Tryz.underlying9) Tryz.underlying92 (.pointer none) (hz _) name false
  rw [ptrs,zaL,hx] at this
  simpa only [Option.map_some,Option.getD_some,Bool.false_eq_true,if_false] using this
 have hf:FileAt w x:=h.files (name,x) (zaY hx)
 have f0:w.cell? ⟨x.fb,0,none⟩=some x.v:=by rw [zaa hf.head];rfl
 obtain ⟨xa,xc,hxv⟩:=hf.row.shape
 rw [hxv] at f0
 have Hh:=Lib.hid hh
 have HX:=Lib.hid hx
 clear hh hx
 have hr0:(n:Int)≤room-used:=hroom
 go_enter Tryz.func163,Tryz.ntmps163
 go_wp2_with fail
 go_quiet (fail)
 go_wp2_with fail
 go_quiet (fail)
 go_wp2_with fail
 go_quiet (fail)
 go_wp2_with fail
 refine zam [0] [1,2,3,4,5] [6,7,8,9] (by kernel_rfl) (by kernel_rfl) (fun _ _ dd _ _ hh=>by cases dd<;>exact hh) ?_
 simp only [zac,yab,yaa]
 repeat (go_big_quiet_step (fail))
 refine yaF ?_
 repeat (go_big_quiet_step (fail))
 refine yaF ?_
 intro w2 hw'
 have hx2:Ext w w2:=by obtain ⟨k,rfl⟩:=hw';exact ((Ext.drewN w _).trans (Ext.drewN _ _)).trans (Ext.drewN _ _)
 clear hw'
 have h2:=h.ext hx2
 have hf2:FileAt w2 x:=h2.files (name,x) (zaY HX.out)
 obtain ⟨i0,hi,hz0,hz1,hz2⟩:=info_parts info_u8
 obtain ⟨v',w3,happ,hrow3,hchg3,hloc⟩:=zdI (P:=Tryz.prog) w2 51 51 5 i0 (.int .u8 0) 1 1 Tryz.underlying51 hi hz0 hz1 hz2 rfl (by decide) hf2.row (hs.ext hx2) (by unfold maxLen;omega) (by omega)
 obtain ⟨va,vc,rfl⟩:=hrow3.shape
 simp only [hxv] at happ
 have hfbm:x.fb∈foot d mb E:=by
  obtain ⟨E1,E2,rfl,_⟩:=zbs HX.out
  rw [(zcm d mb E1 E2 name x).mem_iff];simp [FileX.blocks]
 have hdm:d∈foot d mb E:=by simp [foot]
 obtain ⟨hne,hdfb,hdg⟩:x.v.ownBlock≠some x.fb∧d≠x.fb∧x.v.ownBlock≠some d:=by
  obtain ⟨E1,E2,rfl,_⟩:=zbs HX.out
  obtain ⟨_,_,r3,r4⟩:=h.rest
  refine ⟨zcS.1 r3,fun e=>?_,fun e=>?_⟩
  ·exact r4 x.fb (by simp [FileX.blocks]) (by simp [footR,e])
  ·exact r4 d (by simp [FileX.blocks,e]) (by simp [footR])
 have b3:w3.heap[x.fb]?=some (.cells #[x.v,.int .i64 (x.f.lasts:Int),.bool x.f.synced] 118 (0,0)):=by
  rw [hchg3.block _ (zab hf2.head) hne];exact hf2.head
 have b4:w3.heap[d]?=some (.cells #[.map (some mb),.int .i64 room,.int .i64 used,.int .i64 left,.int .i64 ops] 94 (0,0)):=by
  rw [hchg3.block _ (zab h2.head) hdg];exact h2.head
 have g3:w3.cell? ⟨x.fb,0,none⟩=some x.v:=by rw [zaa b3];rfl
 have g4:w3.frozen? ⟨x.fb,0,none⟩=false:=zan b3 0
 obtain ⟨w4,hw4⟩:∃w4,w4=w3.setCell ⟨x.fb,0,none⟩ (.slice va (x.f.bytes.length+n) vc):=⟨_,rfl⟩
 have hchg4:Chg (·∈foot d mb E) w w4:=by
  rw [hw4]
  refine ((Chg.of_ext hx2).trans hchg3 (fun i hi e=>?_)).trans (zaj _ _ _ _) (fun i hi e=>by rw [e];exact hfbm)
  obtain ⟨E1,E2,rfl,_⟩:=zbs HX.out
  rw [(zcm d mb E1 E2 name x).mem_iff];simp [FileX.blocks,e]
 have b5:w4.heap[x.fb]?=some (.cells #[.slice va (x.f.bytes.length+n) vc,.int .i64 (x.f.lasts:Int),.bool x.f.synced] 118 (0,0)):=by
  rw [hw4,zaq b3];rfl
 have b6:w4.heap[d]?=some (.cells #[.map (some mb),.int .i64 room,.int .i64 used,.int .i64 left,.int .i64 ops] 94 (0,0)):=by
  rw [hw4,zbe hdfb];exact b4
 have e1:w4.cell? ⟨dd,0,none⟩=some (.pointer (some ⟨d,0,none⟩)):=by rw [hchg4.cell (p:=⟨dd,0,none⟩) (yaf w _ hd) hdd];exact hd
 have e2:w4.cell? ⟨bb,0,none⟩=some (.slice a n c):=by rw [hchg4.cell (p:=⟨bb,0,none⟩) (yaf w _ hb) hbb];exact hb
 have e3:w4.cell? ⟨d,2,none⟩=some (.int .i64 used):=by rw [zaa b6];rfl
 have e4:w4.frozen? ⟨d,2,none⟩=false:=zan b6 2
 simp only [hxv] at g3
 have Hx2:=Lib.hid hx2;have Hchg3:=Lib.hid hchg3;have Hchg4:=Lib.hid hchg4;have Hloc:=Lib.hid hloc
 have Hb5:=Lib.hid b5;have Hb6:=Lib.hid b6;have Hb3:=Lib.hid b3;have Hrow:=Lib.hid hrow3;have Hf2:=Lib.hid hf2
 have Hw4:=Lib.hid hw4.symm
 have Hne:=Lib.hid hne;have Hdg:=Lib.hid hdg;have Hbl:=Hbl0
 clear hx2 hchg3 hchg4 hloc b5 b6 b3 b4 hrow3 hf2 hw4 hne hdg
 go_wp2_with (at_builtin;refine zbq rfl _ _ _ rfl _ _ _ w3 rfl rfl happ ?_)
 rw [Hw4.out]
 clear happ g3 g4 hb hd hn hlk c0 c1 c2 f0
 refine zam [] [0,1,2,3,4,5,6,7,8] [9] (by kernel_rfl) (by kernel_rfl) (fun _ _ dd _ _ hh=>by cases dd<;>exact hh) ?_
 simp only [zac,yab,yaa]
 refine yaF ?_
 repeat (go_big_quiet_step (fail))
 refine yaF ?_
 intro _ hw'
 obtain ⟨nq,rfl⟩:=hw'
 go_wp2_with fail
 go_ret
 have hch:Chg (fun b=>b=d∨b∈x.blocks) w ((w4.drewN nq).setCell { block:=d,off:=2 } (Value.int IntKind.i64 (used+↑n))):=by
  have hh:Chg (fun b=>b=d∨b∈x.blocks) w w4:=by
   rw [←Hw4.out]
   exact ((Chg.of_ext Hx2.out).trans Hchg3.out (fun i hi e=>.inr (by simp [FileX.blocks,e]))).trans (zaj _ _ _ _) (fun i hi e=>.inr (by rw [e];simp [FileX.blocks]))
  exact (hh.trans (Chg.of_ext (S:=fun _=>False) (Ext.drewN _ nq)) (fun _ _ e=>e.elim)).trans (zaj _ _ _ _) (fun i hi e=>.inl e)
 have hlen:(x.f.bytes++bl).length=x.f.bytes.length+n:=by simp [Hbl.out]
 have hd':((w4.drewN nq).setCell { block:=d,off:=2 } (Value.int IntKind.i64 (used+↑n))).heap[d]?=some (.cells #[.map (some mb),.int .i64 room,.int .i64 (used+n),.int .i64 left,.int .i64 ops] 94 (0,0)):=zaq (w:=w4.drewN nq) Hb6.out _
 have hf1':((w4.drewN nq).setCell { block:=d,off:=2 } (Value.int IntKind.i64 (used+↑n))).heap[x.fb]?=some (.cells #[.slice va (x.f.bytes.length+n) vc,.int .i64 (x.f.lasts:Int),.bool x.f.synced] 118 (0,0)):=(zbe (w:=w4.drewN nq) (Ne.symm hdfb) _).trans Hb5.out
 have hf2':Row ((w4.drewN nq).setCell { block:=d,off:=2 } (Value.int IntKind.i64 (used+↑n))) 5 1 (.slice va (x.f.bytes.length+n) vc) (x.f.bytes++bl).length (u8s (x.f.bytes++bl)):=by
  rw [hlen,zbE]
  have hr4:Row w4 5 1 (.slice va (x.f.bytes.length+n) vc) (x.f.bytes.length+n) (u8s x.f.bytes++u8s bl):=by
   rw [←Hw4.out]
   refine Hrow.out.chg (zaj _ _ _ _) (fun g hg e=>?_)
   subst e
   rcases Hloc.out with e|e
   ·exact Hne.out (e▸hg)
   ·have h1:=zab Hf2.out.head
    rw [e] at hg;simp at hg;omega
  refine (hr4.ext (Ext.drewN _ nq)).chg (zaj _ _ _ _) (fun g hg e=>?_)
  subst e
  rcases Hloc.out with e|e
  ·exact Hdg.out (e▸hg)
  ·have h1:=zab (h.ext Hx2.out).head
   rw [e] at hg;simp at hg;omega
 have hv':(Value.slice va (x.f.bytes.length+n) vc).ownBlock=x.v.ownBlock∨∃g,(Value.slice va (x.f.bytes.length+n) vc).ownBlock=some g∧w.heap.size≤g:=by
  rcases Hloc.out with e|e
  ·exact .inl e
  ·exact .inr ⟨_,e,Hx2.out.size⟩
 have hT:=DiskRep.turn (x':=⟨x.fb,.slice va (x.f.bytes.length+n) vc,⟨x.f.bytes++bl,x.f.lasts,x.f.synced⟩⟩) h HX.out hch (fun b hb=>hb) hd' ⟨hf1',hf2'⟩ rfl hv'
 refine ⟨rfl,_,rfl,hT.1,hch.mono (fun i hi e=>?_),hT.2⟩
 rcases e with e|e
 ·rw [e];simp [foot]
 ·obtain ⟨E1,E2,rfl,_⟩:=zbs HX.out
  rw [(zcm d mb E1 E2 name x).mem_iff];simp [e]
theorem append1_full {w:World}{d mb:Nat}{E:List (ByteArray×FileX)}{room used left ops:Int}(h:DiskRep w d mb E room used left ops)
 (bb dd nn:Nat) (name:ByteArray) (a:Option Addr) (n c:Nat)
 (hb:w.cell? ⟨bb,0,none⟩=some (.slice a n c)) (hd:w.cell? ⟨dd,0,none⟩=some (.pointer (some ⟨d,0,none⟩))) (hn:w.cell? ⟨nn,0,none⟩=some (.string name))
 (hr:room≤1073741824) (hr0:0≤room) (hu:0≤used) (hu2:used≤room) (hnm:n≤maxLen)
 (hfull:room-used<(n:Int)) :
 Calls Tryz.prog 163 #[.pointer (some ⟨bb,0,none⟩),.pointer (some ⟨dd,0,none⟩),.pointer (some ⟨nn,0,none⟩)] w fun e w'=>e=.returned (.int .i64 15)∧Ext w w':=by
 unfold maxLen at hnm
 have hh:=h.head
 have c0:w.cell? ⟨d,0,none⟩=some (.map (some mb)):=by rw [zaa hh];rfl
 have c1:w.cell? ⟨d,1,none⟩=some (.int .i64 room):=by rw [zaa hh];rfl
 have c2:w.cell? ⟨d,2,none⟩=some (.int .i64 used):=by rw [zaa hh];rfl
 have Hh:=Lib.hid hh
 clear hh
 go_enter Tryz.func163,Tryz.ntmps163
 go_wp2_with fail
 go_quiet (fail)
 go_wp2_with fail
 go_ret
 exact ⟨rfl,Ext.drewN _ _⟩
theorem append1_big {w:World}{d mb:Nat}{E:List (ByteArray×FileX)}{room used left ops:Int}(h:DiskRep w d mb E room used left ops)
 (bb dd nn:Nat) (name:ByteArray) (a:Option Addr) (n c:Nat)
 (hb:w.cell? ⟨bb,0,none⟩=some (.slice a n c)) (hd:w.cell? ⟨dd,0,none⟩=some (.pointer (some ⟨d,0,none⟩))) (hn:w.cell? ⟨nn,0,none⟩=some (.string name))
 (hr:room≤1073741824) (hr0:0≤room) (hu:0≤used) (hu2:used≤room) (hnm:n≤maxLen)
 (hroom:(n:Int)≤room-used) (x:FileX) (hx:aget E name=some x) (hbig:1048576<n+x.f.bytes.length) (hmany:x.f.bytes.length≤1048576) :
 Calls Tryz.prog 163 #[.pointer (some ⟨bb,0,none⟩),.pointer (some ⟨dd,0,none⟩),.pointer (some ⟨nn,0,none⟩)] w fun e w'=>e=.returned (.int .i64 3)∧Ext w w':=by
 unfold maxLen at hnm
 have hh:=h.head
 have c0:w.cell? ⟨d,0,none⟩=some (.map (some mb)):=by rw [zaa hh];rfl
 have c1:w.cell? ⟨d,1,none⟩=some (.int .i64 room):=by rw [zaa hh];rfl
 have c2:w.cell? ⟨d,2,none⟩=some (.int .i64 used):=by rw [zaa hh];rfl
 have Hh:=Lib.hid hh
 clear hh
 have hz:∀w:World,(zeroValue 116).run Tryz.prog w=.ok (.pointer none) w:=fun _=>by kernel_rfl
 have hlk:∀k,(Instr.lookup 92 (.map (some mb)) (.string name) false).run Tryz.prog (w.drewN k)=.ok (.pointer (some ⟨x.fb,0,none⟩)) (w.drewN k):=by
  intro k
  have:=(h.ext (Ext.drewN w k)).map.lookup (P:=Tryz.prog) (zaz Tryz.underlying9) Tryz.underlying92 (.pointer none) (hz _) name false
  rw [ptrs,zaL,hx] at this
  simpa only [Option.map_some,Option.map_none,Option.getD_some,Option.getD_none,Bool.false_eq_true,if_false] using this
 have hf:FileAt w x:=h.files (name,x) (zaY hx)
 have f0:w.cell? ⟨x.fb,0,none⟩=some x.v:=by rw [zaa hf.head];rfl
 obtain ⟨xa,xc,hxv⟩:=hf.row.shape
 rw [hxv] at f0
 clear hxv hf hx
 go_enter Tryz.func163,Tryz.ntmps163
 go_wp2_with fail
 go_quiet (fail)
 go_wp2_with fail
 go_quiet (fail)
 go_wp2_with fail
 go_quiet (fail)
 go_wp2_with fail
 go_ret
 exact ⟨rfl,(Ext.drewN _ _).trans (Ext.drewN _ _)⟩
theorem append1_many {w:World}{d mb:Nat}{E:List (ByteArray×FileX)}{room used left ops:Int}(h:DiskRep w d mb E room used left ops)
 (bb dd nn:Nat) (name:ByteArray) (a:Option Addr) (n c:Nat)
 (hb:w.cell? ⟨bb,0,none⟩=some (.slice a n c)) (hd:w.cell? ⟨dd,0,none⟩=some (.pointer (some ⟨d,0,none⟩))) (hn:w.cell? ⟨nn,0,none⟩=some (.string name))
 (hr:room≤1073741824) (hr0:0≤room) (hu:0≤used) (hu2:used≤room) (hnm:n≤maxLen)
 (hroom:(n:Int)≤room-used) (hx:aget E name=none) (hmany:512≤E.length∨1048576<n) :
 Calls Tryz.prog 163 #[.pointer (some ⟨bb,0,none⟩),.pointer (some ⟨dd,0,none⟩),.pointer (some ⟨nn,0,none⟩)] w fun e w'=>e=.returned (.int .i64 3)∧Ext w w':=by
 unfold maxLen at hnm
 have hh:=h.head
 have c0:w.cell? ⟨d,0,none⟩=some (.map (some mb)):=by rw [zaa hh];rfl
 have c1:w.cell? ⟨d,1,none⟩=some (.int .i64 room):=by rw [zaa hh];rfl
 have c2:w.cell? ⟨d,2,none⟩=some (.int .i64 used):=by rw [zaa hh];rfl
 have Hh:=Lib.hid hh
 clear hh
 have hz:∀w:World,(zeroValue 116).run Tryz.prog w=.ok (.pointer none) w:=fun _=>by kernel_rfl
 have hlk:∀k,(Instr.lookup 92 (.map (some mb)) (.string name) false).run Tryz.prog (w.drewN k)=.ok (.pointer none) (w.drewN k):=by
  intro k
  have:=(h.ext (Ext.drewN w k)).map.lookup (P:=Tryz.prog) (zaz Tryz.underlying9) Tryz.underlying92 (.pointer none) (hz _) name false
  rw [ptrs,zaL,hx] at this
  simpa only [Option.map_some,Option.map_none,Option.getD_some,Option.getD_none,Bool.false_eq_true,if_false] using this
 have hlen:∀k ty,(Builtin.len_ #[92] ty #[.map (some mb)]).run Tryz.prog (w.drewN k)=.ok (.int .i64 E.length) (w.drewN k):=by
  intro k ty
  have:=(h.ext (Ext.drewN w k)).map.run_len (P:=Tryz.prog) Tryz.underlying92 ty
  simpa [ptrs,amap] using this
 obtain ⟨N,hN⟩:∃N,N=E.length:=⟨_,rfl⟩
 rw [←hN] at hlen hmany
 clear hx hN
 by_cases hN5:512≤N
 ·have hN6:(512:Int)≤(N:Int):=by omega
  go_enter Tryz.func163,Tryz.ntmps163
  go_wp2_with fail
  go_quiet (fail)
  go_wp2_with fail
  go_quiet (fail)
  go_wp2_with fail
  go_ret
  exact ⟨rfl,Ext.drewN _ _⟩
 ·have hN6:(N:Int)<(512:Int):=by omega
  have hn6:(1048576:Int)<(n:Int):=by omega
  clear hmany hN5
  go_enter Tryz.func163,Tryz.ntmps163
  go_wp2_with fail
  go_quiet (fail)
  go_wp2_with fail
  go_quiet (fail)
  go_wp2_with fail
  go_ret
  exact ⟨rfl,Ext.drewN _ _⟩
end
section
open Go.RowKit Go.Sort
theorem Src.chg0 {S:Nat→Prop}{w w':World}{size:Nat}{v:Value}{n:Nat}{xs:List Value}(h:Src w size v n xs) (hc:Chg S w w') (hn:n=0∨∀g,v.ownBlock=some g→¬S g):Src w' size v n xs:=by
 rcases hn with rfl|hn
 ·rcases h with h|⟨ad,c,rfl,h2,h3,h4⟩
  ·exact .inl h
  ·have:xs=[]:=yau.1 (by omega)
   subst this
   exact .inr ⟨ad,c,rfl,h2,fun j u hj=>by simp at hj,h4⟩
 ·exact h.chg hc hn
theorem append1_new {w:World}{d mb:Nat}{E:List (ByteArray×FileX)}{room used left ops:Int}(h:DiskRep w d mb E room used left ops)
 (bb dd nn:Nat) (name:ByteArray) (a:Option Addr) (n c:Nat)
 (hb:w.cell? ⟨bb,0,none⟩=some (.slice a n c)) (hd:w.cell? ⟨dd,0,none⟩=some (.pointer (some ⟨d,0,none⟩))) (hn:w.cell? ⟨nn,0,none⟩=some (.string name))
 (hr:room≤1073741824) (hr0:0≤room) (hu:0≤used) (hu2:used≤room) (hnm:n≤maxLen)
 (hroom:(n:Int)≤room-used) (hx:aget E name=none) (hmany:E.length<512) (hfit:n≤1048576) (bl:List UInt8) (hs:Src w 1 (.slice a n c) n (u8s bl)) (hap:n=0∨∀g,(Value.slice a n c).ownBlock=some g→g∉foot d mb E) (hbb:bb∉foot d mb E) (hdd:dd∉foot d mb E) (hnn:nn∉foot d mb E) :
 Calls Tryz.prog 163 #[.pointer (some ⟨bb,0,none⟩),.pointer (some ⟨dd,0,none⟩),.pointer (some ⟨nn,0,none⟩)] w fun e w'=>e=.returned (.int .i64 0)∧∃x',x'.f=⟨bl,0,false⟩∧DiskRep w' d mb (aput E name x') room (used+n) left ops∧Chg (·∈foot d mb E) w w'∧∀b∈foot d mb (aput E name x'),b∈foot d mb E∨w.heap.size≤b:=by
 have hbl:n=bl.length:=by
  rcases hs with ⟨_,e1,e2⟩|⟨_,_,_,e2,_⟩
  ·have:=congrArg List.length e2;rw [zaI] at this;rw [e1,this];rfl
  ·rw [zaI] at e2;omega
 have Hbl:=Lib.hid hbl;clear hbl
 unfold maxLen at hnm
 have hh:=h.head
 have c0:w.cell? ⟨d,0,none⟩=some (.map (some mb)):=by rw [zaa hh];rfl
 have c1:w.cell? ⟨d,1,none⟩=some (.int .i64 room):=by rw [zaa hh];rfl
 have c2:w.cell? ⟨d,2,none⟩=some (.int .i64 used):=by rw [zaa hh];rfl
 have Hh:=Lib.hid hh
 clear hh
 have hz:∀w:World,(zeroValue 116).run Tryz.prog w=.ok (.pointer none) w:=fun _=>by kernel_rfl
 have hlk:∀k,(Instr.lookup 92 (.map (some mb)) (.string name) false).run Tryz.prog (w.drewN k)=.ok (.pointer none) (w.drewN k):=by
  intro k
  have:=(h.ext (Ext.drewN w k)).map.lookup (P:=Tryz.prog) (zaz Tryz.underlying9) Tryz.underlying92 (.pointer none) (hz _) name false
  rw [ptrs,zaL,hx] at this
  simpa only [Option.map_some,Option.map_none,Option.getD_some,Option.getD_none,Bool.false_eq_true,if_false] using this
 have hlen:∀k ty,(Builtin.len_ #[92] ty #[.map (some mb)]).run Tryz.prog (w.drewN k)=.ok (.int .i64 E.length) (w.drewN k):=by
  intro k ty
  have:=(h.ext (Ext.drewN w k)).map.run_len (P:=Tryz.prog) Tryz.underlying92 ty
  simpa [ptrs,amap] using this
 obtain ⟨N,hN⟩:∃N,N=E.length:=⟨_,rfl⟩
 rw [←hN] at hlen hmany
 have HX:=Lib.hid hx
 clear hx hN
 have hN6:(N:Int)<(512:Int):=by omega
 clear hmany
 go_enter Tryz.func163,Tryz.ntmps163
 go_wp2_with fail
 go_quiet (fail)
 go_wp2_with fail
 go_quiet (fail)
 go_wp2_with fail
 generalize hW1:World.alloc _ _=W1
 have hx1:Ext w W1:=by subst hW1;exact (Ext.drewN w _).alloc _
 have hb1:W1.heap[w.heap.size]?=some (.cells #[.slice none 0 0,.int .i64 0,.bool false] 118 (0,0)):=by
  subst hW1;exact heap_alloc_new (w.drewN _) _
 have hz1:w.heap.size<W1.heap.size:=zab hb1
 clear hW1
 have lbb:=yaf w _ hb
 have ldd:=yaf w _ hd
 have lnn:=yaf w _ hn
 have ld:=zab Hh.out
 have p1:W1.cell? ⟨dd,0,none⟩=some (.pointer (some ⟨d,0,none⟩)):=by rw [hx1.cell (p:=⟨dd,0,none⟩) ldd];exact hd
 have p2:W1.cell? ⟨nn,0,none⟩=some (.string name):=by rw [hx1.cell (p:=⟨nn,0,none⟩) lnn];exact hn
 have p3:W1.cell? ⟨d,0,none⟩=some (.map (some mb)):=by rw [hx1.cell (p:=⟨d,0,none⟩) ld];exact c0
 have Hb:=Lib.hid hb;have Hd:=Lib.hid hd;have Hx1:=Lib.hid hx1;have Hb1:=Lib.hid hb1
 clear hb hd hn c0 c1 c2 hlk hlen hx1 hb1
 refine zam [] [0,1,2,3,4,5] [6] (by kernel_rfl) (by kernel_rfl) (fun _ _ dd _ _ hh=>by cases dd<;>exact hh) ?_
 simp only [zac,yab,yaa]
 refine yaF ?_
 repeat (go_big_quiet_step (fail))
 refine yaF ?_
 intro w2 hw'
 have hx2:Ext W1 w2:=by obtain ⟨k,rfl⟩:=hw';exact Ext.drewN _ _
 clear hw'
 obtain ⟨w3,hup,hmap3,hchg3⟩:=(h.ext (Hx1.out.trans hx2)).map.update (P:=Tryz.prog) (zaz Tryz.underlying9) Tryz.underlying92 name (.pointer (some ⟨w.heap.size,0,none⟩))
 have Hx2:=Lib.hid hx2;have Hm3:=Lib.hid hmap3;have Hc3:=Lib.hid hchg3
 clear hx2 hmap3 hchg3
 go_wp2_with fail
 clear hup p1 p2 p3
 have lmb:=h.map.lt
 have hbbm:bb≠mb:=fun e=>hbb (by rw [e];simp [foot])
 have hddm:dd≠mb:=fun e=>hdd (by rw [e];simp [foot])
 have hdmb:d≠mb:=by
  have:=h.apart
  simp [foot] at this
  exact this.1.1
 have c3:Chg (·=mb) w w3:=(Chg.of_ext (Hx1.out.trans Hx2.out)).trans Hc3.out (fun i hi e=>e)
 have b3:w3.heap[w.heap.size]?=some (.cells #[.slice none 0 0,.int .i64 0,.bool false] 118 (0,0)):=by
  rw [Hc3.out.block _ (yan hz1 Hx2.out.size) (by omega),Hx2.out.block hz1];exact Hb1.out
 have b3d:w3.heap[d]?=some (.cells #[.map (some mb),.int .i64 room,.int .i64 used,.int .i64 left,.int .i64 ops] 94 (0,0)):=by
  rw [c3.block d ld hdmb];exact Hh.out
 have q1:w3.cell? ⟨w.heap.size,0,none⟩=some (.slice none 0 0):=by rw [zaa b3];rfl
 have q2:w3.cell? ⟨bb,0,none⟩=some (.slice a n c):=by rw [c3.cell (p:=⟨bb,0,none⟩) lbb hbbm];exact Hb.out
 have Hq2:=Lib.hid q2
 have HC3:=Lib.hid c3;have HB3:=Lib.hid b3;have HB3d:=Lib.hid b3d
 clear c3 b3 b3d
 refine zam [0] [1,2,3,4,5] [6,7,8,9] (by kernel_rfl) (by kernel_rfl) (fun _ _ dd _ _ hh=>by cases dd<;>exact hh) ?_
 simp only [zac,yab,yaa]
 repeat (go_big_quiet_step (fail))
 refine yaF ?_
 repeat (go_big_quiet_step (fail))
 refine yaF ?_
 intro w4 hw'
 have hx4:Ext w3 w4:=by obtain ⟨k,rfl⟩:=hw';exact Ext.drewN _ _
 clear hw' q1 q2
 have hsrc:Src w4 1 (.slice a n c) n (u8s bl):=(hs.chg0 HC3.out (hap.imp id (fun hap g hg e=>hap g hg (by rw [e];simp [foot])))).ext hx4
 obtain ⟨i0,hi,hz0,hz1',hz2⟩:=info_parts info_u8
 obtain ⟨v',w5,happ,hrow5,hchg5,hloc⟩:=zdI (P:=Tryz.prog) w4 51 51 5 i0 (.int .u8 0) 1 1 Tryz.underlying51 hi hz0 hz1' hz2 rfl (by decide) (Row.nil w4 5 1) hsrc (by unfold maxLen;omega) (by omega)
 obtain ⟨va,vc,rfl⟩:=hrow5.shape
 have hx5:Ext w4 w5:=hchg5.ext (fun i _ e=>by simp [Value.ownBlock] at e)
 have hz4:w.heap.size<w4.heap.size:=yan (zab HB3.out) hx4.size
 have b5:w5.heap[w.heap.size]?=some (.cells #[.slice none 0 0,.int .i64 0,.bool false] 118 (0,0)):=by
  rw [hx5.block hz4,hx4.block (zab HB3.out)];exact HB3.out
 have g3:w5.cell? ⟨w.heap.size,0,none⟩=some (.slice none 0 0):=by rw [zaa b5];rfl
 have g4:w5.frozen? ⟨w.heap.size,0,none⟩=false:=zan b5 0
 obtain ⟨w6,hw6⟩:∃w6,w6=w5.setCell ⟨w.heap.size,0,none⟩ (.slice va (0+n) vc):=⟨_,rfl⟩
 have hdne:d≠w.heap.size:=by omega
 have hchg6:Chg (·=mb) w w6:=by
  rw [hw6]
  exact (HC3.out.trans (Chg.of_ext (S:=fun _=>False) (hx4.trans hx5)) (fun _ _ e=>e.elim)).trans (zaj _ _ _ _) (fun i hi e=>by omega)
 have b6:w6.heap[w.heap.size]?=some (.cells #[.slice va (0+n) vc,.int .i64 0,.bool false] 118 (0,0)):=by
  rw [hw6,zaq b5];rfl
 have b6d:w6.heap[d]?=some (.cells #[.map (some mb),.int .i64 room,.int .i64 used,.int .i64 left,.int .i64 ops] 94 (0,0)):=by
  rw [hchg6.block d ld hdmb];exact Hh.out
 have e1:w6.cell? ⟨dd,0,none⟩=some (.pointer (some ⟨d,0,none⟩)):=by rw [hchg6.cell (p:=⟨dd,0,none⟩) ldd hddm];exact Hd.out
 have e2:w6.cell? ⟨bb,0,none⟩=some (.slice a n c):=by rw [hchg6.cell (p:=⟨bb,0,none⟩) lbb hbbm];exact Hb.out
 have e3:w6.cell? ⟨d,2,none⟩=some (.int .i64 used):=by rw [zaa b6d];rfl
 have e4:w6.frozen? ⟨d,2,none⟩=false:=zan b6d 2
 have m6:MapIs (fun s:ByteArray=>Value.string s) w6 mb (aput (ptrs E) name (.pointer (some ⟨w.heap.size,0,none⟩))):=by
  rw [hw6]
  exact ((Hm3.out.ext (hx4.trans hx5))).chg (zaj _ _ _ _) (by omega)
 have r6:Row w6 5 1 (.slice va (0+n) vc) n (u8s bl):=by
  rw [hw6]
  have:=hrow5.chg (zaj w5 w.heap.size 0 (.slice va (0+n) vc)) (fun g hg e=>by
   subst e
   rcases hloc with e|e
   ·rw [e] at hg;simp [Value.ownBlock] at hg
   ·rw [e] at hg;simp at hg;omega)
  simpa using this
 have hown:(Value.slice va (0+n) vc).ownBlock=none∨(Value.slice va (0+n) vc).ownBlock=some w4.heap.size:=by
  rcases hloc with e|e
  ·exact .inl e
  ·exact .inr e
 have Hc6:=Lib.hid hchg6;have Hb6:=Lib.hid b6;have Hb6d:=Lib.hid b6d;have Hm6:=Lib.hid m6;have Hr6:=Lib.hid r6;have Hown:=Lib.hid hown
 have Hw6:=Lib.hid hw6.symm
 have Hx4:=Lib.hid hx4
 clear hchg6 b6 b6d m6 r6 hown hw6 hrow5 hchg5 hloc hx5 hx4 b5 hsrc hs
 go_wp2_with (at_builtin;refine zbq rfl _ _ _ rfl _ _ _ w5 rfl rfl happ ?_)
 simp only [Nat.zero_add] at *
 rw [Hw6.out]
 clear happ g3 g4
 refine zam [] [0,1,2,3,4,5,6,7,8] [9] (by kernel_rfl) (by kernel_rfl) (fun _ _ dd _ _ hh=>by cases dd<;>exact hh) ?_
 simp only [zac,yab,yaa]
 refine yaF ?_
 repeat (go_big_quiet_step (fail))
 refine yaF ?_
 intro _ hw'
 obtain ⟨nq,rfl⟩:=hw'
 go_wp2_with fail
 go_ret
 have hch:Chg (fun b=>b=d∨b=mb) w ((w6.drewN nq).setCell { block:=d,off:=2 } (Value.int IntKind.i64 (used+↑n))) :=
  ((Hc6.out.mono (T:=fun b=>b=d∨b=mb) (fun i hi e=>.inr e)).trans (Chg.of_ext (S:=fun _=>False) (Ext.drewN _ nq)) (fun _ _ e=>e.elim)).trans (zaj _ _ _ _) (fun i hi e=>.inl e)
 have hd':((w6.drewN nq).setCell { block:=d,off:=2 } (Value.int IntKind.i64 (used+↑n))).heap[d]?=some (.cells #[.map (some mb),.int .i64 room,.int .i64 (used+n),.int .i64 left,.int .i64 ops] 94 (0,0)):=zaq (w:=w6.drewN nq) Hb6d.out _
 have hf1':((w6.drewN nq).setCell { block:=d,off:=2 } (Value.int IntKind.i64 (used+↑n))).heap[w.heap.size]?=some (.cells #[.slice va n vc,.int .i64 ((0:Nat):Int),.bool false] 118 (0,0)):=(zbe (w:=w6.drewN nq) (Ne.symm hdne) _).trans Hb6.out
 have hgd:(Value.slice va n vc).ownBlock≠some d:=by
  rcases Hown.out with e|e<;>rw [e]<;>simp
  omega
 have hf2':Row ((w6.drewN nq).setCell { block:=d,off:=2 } (Value.int IntKind.i64 (used+↑n))) 5 1 (.slice va n vc) bl.length (u8s bl):=by
  rw [←Hbl.out]
  exact (Hr6.out.ext (Ext.drewN _ nq)).chg (zaj _ _ _ _) (fun g hg e=>by subst e;exact hgd hg)
 have hm':MapIs (fun s:ByteArray=>Value.string s) ((w6.drewN nq).setCell { block:=d,off:=2 } (Value.int IntKind.i64 (used+↑n))) mb (aput (ptrs E) name (.pointer (some ⟨w.heap.size,0,none⟩))) :=
  (Hm6.out.ext (Ext.drewN _ nq)).chg (zaj _ _ _ _) (Ne.symm hdmb)
 have hT:=DiskRep.add (x':=⟨w.heap.size,.slice va n vc,⟨bl,0,false⟩⟩) h HX.out hch (fun b hb=>hb) hd' hm' ⟨hf1',hf2'⟩ (by
  intro b hb
  simp only [FileX.blocks,yaq,Option.mem_toList] at hb
  rcases hb with e|e
  ·omega
  ·rcases Hown.out with e'|e'<;>rw [e'] at e<;>simp at e
   omega) (by
  rcases Hown.out with e|e<;>simp only [e]<;>simp
  omega)
 refine ⟨rfl,_,rfl,hT.1,hch.mono (fun i hi e=>?_),hT.2⟩
 rcases e with e|e
 ·rw [e];simp [foot]
 ·rw [e];simp [foot]
end
end Go.Proofs.YtlmfhjipbjkcbaaGreatDoor
