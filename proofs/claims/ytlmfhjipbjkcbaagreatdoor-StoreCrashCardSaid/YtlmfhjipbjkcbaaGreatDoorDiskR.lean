/- x -/
import Derived.Test.YtlmfhjipbjkcbaaGreatDoorDiskA3
import Derived.Test.YtlmfhjipbjkcbaaGreatDoorDiskDo
set_option maxHeartbeats 4000000
set_option maxRecDepth 100000
set_option linter.unusedSimpArgs false
set_option linter.unusedVariables false
namespace Go.Proofs.YtlmfhjipbjkcbaaGreatDoor
section
open Go.RowKit Go.Sort
structure DiskS where
 files:List (ByteArray×FileS)
 room:Int
 used:Int
 left:Int
 ops:Int
structure DiskS.Ok (S:DiskS):Prop where
 room0:0≤S.room
 room1:S.room≤1073741824
 used0:0≤S.used
 used1:S.used≤S.room
 left0:-1≤S.left
 left1:S.left≤9223372036854775807
 ops0:0≤S.ops
 small:∀p∈S.files,p.2.bytes.length≤1048576
 few:S.files.length≤512
 lasts:∀p∈S.files,p.2.lasts≤p.2.bytes.length
 names:(S.files.map (·.1)).Nodup
def zbj (w:World) (d:Nat) (S:DiskS) (B:List Nat):Prop :=
 ∃mb E,DiskRep w d mb E S.room S.used S.left S.ops∧fs E=S.files∧B=foot d mb E
theorem zbj.chg {T:Nat→Prop}{w w':World}{d:Nat}{S:DiskS}{B:List Nat}(h:zbj w d S B) (hc:Chg T w w') (hn:∀b∈B,¬T b):zbj w' d S B:=by
 obtain ⟨mb,E,h1,h2,rfl⟩:=h
 exact ⟨mb,E,h1.chg hc hn,h2,rfl⟩
theorem zbj.ext {w w':World}{d:Nat}{S:DiskS}{B:List Nat}(h:zbj w d S B) (hc:Ext w w'):zbj w' d S B :=
 h.chg (Chg.of_ext (S:=fun _=>False) hc) (fun _ _=>id)
theorem zbj.lt {w:World}{d:Nat}{S:DiskS}{B:List Nat}(h:zbj w d S B):∀b∈B,b<w.heap.size:=by
 obtain ⟨mb,E,h1,h2,rfl⟩:=h
 exact h1.foot_lt
def zbC (w:World) (d:Nat) (B:List Nat) (S':DiskS) (w':World):Prop :=
 ∃B',zbj w' d S' B'∧Chg (·∈B) w w'∧∀b∈B',b∈B∨w.heap.size≤b
theorem zbC.same {w w':World}{d:Nat}{S:DiskS}{B:List Nat}(h:zbj w d S B) (hx:Ext w w'):zbC w d B S w' :=
 ⟨B,h.ext hx,Chg.of_ext hx,fun _ hb=>.inl hb⟩
theorem zbC.pre {w w0 w1:World}{d:Nat}{S1:DiskS}{B:List Nat}(hx:Ext w w0) (h:zbC w0 d B S1 w1):zbC w d B S1 w1:=by
 obtain ⟨B1,h1,c1,f1⟩:=h
 exact ⟨B1,h1,(Chg.of_ext hx).trans c1 (fun _ _ h=>h),fun b hb=>(f1 b hb).imp id (fun h=>Nat.le_trans hx.size h)⟩
def DiskS.count (S:DiskS):DiskS:={ S with ops:=S.ops+1,left:=if 0<S.left then S.left-1 else S.left }
def DiskS.put (S:DiskS) (name:ByteArray) (bl:List UInt8):Int×DiskS :=
 if S.room-S.used<(bl.length:Int) then (15,S) else
 match aget S.files name with
 | none=>if 512≤S.files.length∨1048576<bl.length then (3,S) else (0,{ S with files:=aput S.files name ⟨bl,0,false⟩,used:=S.used+bl.length })
 | some f=>if 1048576<bl.length+f.bytes.length then (3,S) else (0,{ S with files:=aput S.files name { f with bytes:=f.bytes++bl },used:=S.used+bl.length })
def DiskS.doing (S:DiskS) (ns:List ByteArray) (r:Int×DiskS):Int×DiskS :=
 match zcp ns S.left with
 | some x=>(x,S)
 | none=>if r.1=0 then (0,r.2.count) else (r.1,S)
def DiskS.append (S:DiskS) (name:ByteArray) (bl:List UInt8):Int×DiskS:=S.doing [name] (S.put name bl)
theorem Src.len_eq {w:World}{v:Value}{n:Nat}{bl:List UInt8}(hs:Src w 1 v n (u8s bl)):n=bl.length:=by
 rcases hs with ⟨_,e1,e2⟩|⟨_,_,_,e2,_⟩
 ·have:=congrArg List.length e2;rw [zaI] at this;rw [e1,this];rfl
 ·rw [zaI] at e2;omega
theorem append1_any {w:World}{d mb:Nat}{E:List (ByteArray×FileX)}{S:DiskS}(ok:S.Ok) (h:DiskRep w d mb E S.room S.used S.left S.ops) (hfs:fs E=S.files)
 (bb dd nn:Nat) (name:ByteArray) (a:Option Addr) (n c:Nat) (bl:List UInt8)
 (hb:w.cell? ⟨bb,0,none⟩=some (.slice a n c)) (hd:w.cell? ⟨dd,0,none⟩=some (.pointer (some ⟨d,0,none⟩))) (hn:w.cell? ⟨nn,0,none⟩=some (.string name))
 (hs:Src w 1 (.slice a n c) n (u8s bl)) (hap:n=0∨∀g,(Value.slice a n c).ownBlock=some g→g∉foot d mb E) (hbb:bb∉foot d mb E) (hdd:dd∉foot d mb E) (hnn:nn∉foot d mb E) (hnm:n≤maxLen) :
 Calls Tryz.prog 163 #[.pointer (some ⟨bb,0,none⟩),.pointer (some ⟨dd,0,none⟩),.pointer (some ⟨nn,0,none⟩)] w fun e w' =>
  e=.returned (.int .i64 (S.put name bl).1)∧∃E',DiskRep w' d mb E' S.room (S.put name bl).2.used S.left S.ops∧fs E'=(S.put name bl).2.files∧Chg (·∈foot d mb E) w w'∧∀b∈foot d mb E',b∈foot d mb E∨w.heap.size≤b:=by
 have hl:=hs.len_eq
 have hlenE:E.length=S.files.length:=by rw [←hfs];simp [fs,amap]
 by_cases hroom:S.room-S.used<(bl.length:Int)
 ·have e:S.put name bl=(15,S):=by simp [DiskS.put,hroom]
  rw [e]
  refine (append1_full h bb dd nn name a n c hb hd hn ok.room1 ok.room0 ok.used0 ok.used1 hnm (by rw [hl];exact hroom)).mono ?_
  rintro e w' ⟨rfl,hx⟩
  exact ⟨rfl,E,h.ext hx,hfs,Chg.of_ext hx,fun b hb=>.inl hb⟩
 ·have hroom':(n:Int)≤S.room-S.used:=by rw [hl];omega
  cases hx:aget E name with
  | none =>
   have hx':aget S.files name=none:=by rw [←hfs,fs,zaL,hx];rfl
   by_cases hm:512≤S.files.length∨1048576<bl.length
   ·have e:S.put name bl=(3,S):=by simp only [DiskS.put,if_neg hroom,hx',if_pos hm]
    rw [e]
    refine (append1_many h bb dd nn name a n c hb hd hn ok.room1 ok.room0 ok.used0 ok.used1 hnm hroom' hx (by rw [hlenE,hl];exact hm)).mono ?_
    rintro e w' ⟨rfl,hx⟩
    exact ⟨rfl,E,h.ext hx,hfs,Chg.of_ext hx,fun b hb=>.inl hb⟩
   ·have e:S.put name bl=(0,{ S with files:=aput S.files name ⟨bl,0,false⟩,used:=S.used+bl.length }):=by simp only [DiskS.put,if_neg hroom,hx',if_neg hm]
    rw [e]
    refine (append1_new h bb dd nn name a n c hb hd hn ok.room1 ok.room0 ok.used0 ok.used1 hnm hroom' hx (by omega) (by omega) bl hs hap hbb hdd hnn).mono ?_
    rintro e w' ⟨rfl,x',hx1,r1,r2,r3⟩
    refine ⟨rfl,_,by rw [hl] at r1;exact r1,?_,r2,r3⟩
    show fs _=aput S.files name ⟨bl,0,false⟩
    rw [fs,←zdo,hx1,←hfs];rfl
  | some x =>
   have hx':aget S.files name=some x.f:=by rw [←hfs,fs,zaL,hx];rfl
   have hsm:x.f.bytes.length≤1048576:=ok.small _ (zaY hx')
   by_cases hm:1048576<bl.length+x.f.bytes.length
   ·have e:S.put name bl=(3,S):=by simp only [DiskS.put,if_neg hroom,hx',if_pos hm]
    rw [e]
    refine (append1_big h bb dd nn name a n c hb hd hn ok.room1 ok.room0 ok.used0 ok.used1 hnm hroom' x hx (by omega) hsm).mono ?_
    rintro e w' ⟨rfl,hx⟩
    exact ⟨rfl,E,h.ext hx,hfs,Chg.of_ext hx,fun b hb=>.inl hb⟩
   ·have e:S.put name bl=(0,{ S with files:=aput S.files name { x.f with bytes:=x.f.bytes++bl },used:=S.used+bl.length }):=by simp only [DiskS.put,if_neg hroom,hx',if_neg hm]
    rw [e]
    refine (append1_old h bb dd nn name a n c bl hb hd hn hs hap hbb hdd hroom' ok.room1 ok.used0 x hx (by omega)).mono ?_
    rintro e w' ⟨rfl,x',hx1,r1,r2,r3⟩
    refine ⟨rfl,_,by rw [hl] at r1;exact r1,?_,r2,r3⟩
    show fs _=aput S.files name { x.f with bytes:=x.f.bytes++bl }
    rw [fs,←zdo,hx1,←hfs];rfl
theorem cf_append1 (caps:Array Value):∀W:World,(callFunc 163 caps).run Tryz.prog W=.ok (.enter 163 caps) W:=by
 intro W
 simp [go_sem]
theorem bump_rep {w1:World}{d mb:Nat}{E:List (ByteArray×FileX)}{room used left ops:Int}(h:DiskRep w1 d mb E room used left ops) :
 DiskRep (bump w1 d left ops) d mb E room used (if 0<left then left-1 else left) (ops+1)∧Chg (·=d) w1 (bump w1 d left ops):=by
 have hap:=h.apart
 simp only [foot,yaU,yaq,not_or] at hap
 have key:∀w2 left2 ops2,Chg (·=d) w1 w2→w2.heap[d]?=some (.cells #[.map (some mb),.int .i64 room,.int .i64 used,.int .i64 left2,.int .i64 ops2] 94 (0,0))→DiskRep w2 d mb E room used left2 ops2:=by
  intro w2 left2 ops2 hc hh
  refine ⟨hh,h.map.chg hc (Ne.symm hap.1.1),fun p hp=>(h.files p hp).chg hc (fun b hb e=>?_),h.apart,h.names⟩
  subst e
  exact hap.1.2 (List.mem_flatMap.2 ⟨p,hp,hb⟩)
 unfold bump
 split
 ·rename_i hp
  have hc:Chg (·=d) w1 ((w1.setCell ⟨d,4,none⟩ (.int .i64 (ops+1))).setCell ⟨d,3,none⟩ (.int .i64 (left-1))):=(zaj _ _ _ _).trans (zaj _ _ _ _) (fun _ _ e=>e)
  exact ⟨key _ _ _ hc (zaq (zaq h.head _) _),hc⟩
 ·exact ⟨key _ _ _ (zaj _ _ _ _) (zaq h.head _),zaj _ _ _ _⟩
theorem put_left (S:DiskS) (name:ByteArray) (bl:List UInt8):(S.put name bl).2.room=S.room∧(S.put name bl).2.left=S.left∧(S.put name bl).2.ops=S.ops∧((S.put name bl).1≠0→(S.put name bl).2=S):=by
 unfold DiskS.put
 split
 ·simp
 ·split
  ·split<;>simp
  ·split<;>simp
theorem disk_append' {w:World}{d:Nat}{S:DiskS}{B:List Nat}(ok:S.Ok) (hops:S.ops<4611686018427387904) (h:zbj w d S B) (name:ByteArray) (hname:name.size≤maxLen) (a:Option Addr) (n c:Nat) (bl:List UInt8)
 (hs:Src w 1 (.slice a n c) n (u8s bl)) (hap:n=0∨∀g,(Value.slice a n c).ownBlock=some g→g∉B) (hnm:n≤maxLen) :
 Calls Tryz.prog 97 #[.pointer (some ⟨d,0,none⟩),.string name,.slice a n c] w fun e w' =>
  e=.returned (.int .i64 (S.append name bl).1)∧zbC w d B (S.append name bl).2 w':=by
 obtain ⟨mb,E,hrep,hfs,rfl⟩:=h
 have hlt:=hrep.foot_lt
 have Hrep:=Lib.hid hrep;have Hfs:=Lib.hid hfs;have Hs:=Lib.hid hs;have Hap:=Lib.hid hap;have Hlt:=Lib.hid hlt
 clear hrep hfs hs hap hlt
 go_enter Tryz.func97,Tryz.ntmps97
 go_wp2_with fail
 generalize hW:World.alloc _ _=W
 have hx:Ext w W:=by subst hW;exact ((((Ext.refl w).alloc _).alloc _).alloc _).alloc _
 have q1:W.cell? ⟨w.heap.size,0,none⟩=some (.pointer (some ⟨d,0,none⟩)):=by subst hW;simp [go_sem]
 have q2:W.cell? ⟨w.heap.size+1,0,none⟩=some (.string name):=by subst hW;simp [go_sem]
 have q3:W.cell? ⟨w.heap.size+1+1,0,none⟩=some (.slice a n c):=by subst hW;simp [go_sem]
 have q4:W.cell? ⟨w.heap.size+1+1+1,0,none⟩=some (.string name):=by subst hW;simp [go_sem]
 clear hW
 have hrepW:=Hrep.out.ext hx
 have hsrc:Src W 1 (.slice (some ⟨w.heap.size+1+1+1,0,none⟩) [name].length 1) [name].length (strs [name]):=by
  refine .inr ⟨_,_,rfl,rfl,fun j u hj=>?_,?_⟩
  ·match j,hj with
   | 0,hj =>
    simp [strs] at hj;subst hj
    have e:(⟨w.heap.size+1+1+1,0,none⟩:Addr).add 0=⟨w.heap.size+1+1+1,0,none⟩:=by unfold Addr.add;split<;>simp_all
    rw [e];exact q4
   | j+1,hj=>simp [strs] at hj
  ·intro u hu
   simp [strs] at hu;subst hu;rfl
 have hput:=put_left S name bl
 have hK:=fun (_:S.left≠0) (_:[name].all nameB=true)=>(append1_any ok hrepW Hfs.out (w.heap.size+1+1) w.heap.size (w.heap.size+1) name a n c bl q3 q1 q2 (Hs.out.ext hx) Hap.out (fun hb=>by have:=Hlt.out _ hb;omega) (fun hb=>by have:=Hlt.out _ hb;omega) (fun hb=>by have:=Hlt.out _ hb;omega) hnm).mono (R':=fun e w'=>e=.returned (.int .i64 (S.put name bl).1)∧(∃E',DiskRep w' d mb E' S.room (S.put name bl).2.used S.left S.ops∧fs E'=(S.put name bl).2.files∧Chg (·∈foot d mb E) W w'∧∀b∈foot d mb E',b∈foot d mb E∨W.heap.size≤b)∧((S.put name bl).1=0→∃used',w'.heap[d]?=some (.cells #[.map (some mb),.int .i64 S.room,.int .i64 used',.int .i64 S.left,.int .i64 S.ops] 94 (0,0))))
  (fun e w' ⟨he,E',r1,r2⟩=>⟨he,⟨E',r1,r2⟩,fun _=>⟨_,r1.head⟩⟩)
 refine (do_any hrepW.head (w.heap.size+1+1+1) 1 [name] hsrc (by simpa using hname) (by simp) ok.ops0 hops ok.left0 ok.left1 163 _ (cf_append1 _) (S.put name bl).1 _ hK).mono ?_
 clear hK hsrc q1 q2 q3 q4
 intro e w' hpost
 have hres:∃r:Int,e=.returned (.int .i64 r)∧r=(S.append name bl).1∧zbC w d (foot d mb E) (S.append name bl).2 w':=by
  unfold zcT at hpost
  unfold DiskS.append DiskS.doing
  split at hpost
  ·rename_i x hx'
   obtain ⟨rfl,rfl⟩:=hpost
   rw [hx']
   exact ⟨x,rfl,rfl,zbC.same ⟨mb,E,Hrep.out,Hfs.out,rfl⟩ hx⟩
  ·rename_i hx'
   obtain ⟨rfl,hh⟩:=hpost
   rw [hx']
   rcases hh with ⟨he,E',r1,r2,r3,r4⟩|⟨he,w1,⟨E',r1,r2,r3,r4⟩,rfl⟩
   ·rw [if_neg he]
    refine ⟨_,rfl,rfl,zbC.pre hx ⟨foot d mb E',⟨mb,E',?_,?_,rfl⟩,r3,r4⟩⟩
    ·have:=hput.2.2.2 he;rw [this] at r1;exact r1
    ·have:=hput.2.2.2 he;rw [this] at r2;exact r2
   ·rw [if_pos he]
    obtain ⟨g1,g2⟩:=bump_rep r1
    refine ⟨_,rfl,he,zbC.pre hx ⟨foot d mb E',⟨mb,E',?_,r2,rfl⟩,r3.trans g2 (fun i hi e=>by rw [e];simp [foot]),r4⟩⟩
    simp only [DiskS.count,hput.1,hput.2.1,hput.2.2.1]
    exact g1
 obtain ⟨r,rfl,hr,hto⟩:=hres
 go_wp2_with fail
 go_ret
 exact ⟨by rw [←hr];rfl,hto⟩
theorem disk_append {w:World}{d:Nat}{S:DiskS}{B:List Nat}(ok:S.Ok) (hops:S.ops<4611686018427387904) (h:zbj w d S B) (name:ByteArray) (hname:name.size≤maxLen) (a:Option Addr) (n c:Nat) (bl:List UInt8)
 (hs:Src w 1 (.slice a n c) n (u8s bl)) (hap:∀g,(Value.slice a n c).ownBlock=some g→g∉B) (hnm:n≤maxLen) :
 Calls Tryz.prog 97 #[.pointer (some ⟨d,0,none⟩),.string name,.slice a n c] w fun e w' =>
  e=.returned (.int .i64 (S.append name bl).1)∧zbC w d B (S.append name bl).2 w':=disk_append' ok hops h name hname a n c bl hs (.inr hap) hnm
def RepTo (W:World) (d mb:Nat) (E:List (ByteArray×FileX)) (S':DiskS) (w':World):Prop :=
 ∃E',DiskRep w' d mb E' S'.room S'.used S'.left S'.ops∧fs E'=S'.files∧Chg (·∈foot d mb E) W w'∧∀b∈foot d mb E',b∈foot d mb E∨W.heap.size≤b
def With1Post (E:List (ByteArray×FileX)) (d mb:Nat) (S S':DiskS) (name:ByteArray) (w:World) (e:Ending) (w':World):Prop :=
 match aget E name with
 | none=>e=.returned (.int .i64 13)∧Ext w w'
 | some _=>e=.returned (.int .i64 0)∧RepTo w d mb E S' w'
theorem with1_any {w:World}{d mb:Nat}{E:List (ByteArray×FileX)}{S S':DiskS}(h:DiskRep w d mb E S.room S.used S.left S.ops)
 (dd nn wb nb nc N:Nat) (name:ByteArray) (K:Nat) (caps:Array Value)
 (hd:w.cell? ⟨dd,0,none⟩=some (.pointer (some ⟨d,0,none⟩))) (hn:w.cell? ⟨nn,0,none⟩=some (.slice (some ⟨nb,0,none⟩) N nc)) (hN:0<N) (hn0:w.cell? ⟨nb,0,none⟩=some (.string name)) (hwb:w.cell? ⟨wb,0,none⟩=some (.func (.func K) #[] caps))
 (hcf:∀(a:Value) (W:World),(callFunc K (#[a]++caps)).run Tryz.prog W=.ok (.enter K (#[a]++caps)) W)
 (hK:∀x W,aget E name=some x→Ext w W→Calls Tryz.prog K (#[.pointer (some ⟨x.fb,0,none⟩)]++caps) W fun e w'=>e=.returned (.tuple #[])∧RepTo W d mb E S' w') :
 Calls Tryz.prog 178 #[.pointer (some ⟨dd,0,none⟩),.pointer (some ⟨nn,0,none⟩),.pointer (some ⟨wb,0,none⟩)] w (With1Post E d mb S S' name w):=by
 have c0:w.cell? ⟨d,0,none⟩=some (.map (some mb)):=by rw [zaa h.head];rfl
 have hz:∀w:World,(zeroValue 116).run Tryz.prog w=.ok (.pointer none) w:=fun _=>by kernel_rfl
 have hN':(0:Int)<(N:Int):=by omega
 cases hx:aget E name with
 | none =>
  have hlk:∀k,(Instr.lookup 92 (.map (some mb)) (.string name) false).run Tryz.prog (w.drewN k)=.ok (.pointer none) (w.drewN k):=by
   intro k
   have:=(h.ext (Ext.drewN w k)).map.lookup (P:=Tryz.prog) (zaz Tryz.underlying9) Tryz.underlying92 (.pointer none) (hz _) name false
   rw [ptrs,zaL,hx] at this
   simpa only [Option.map_none,Option.getD_none,Bool.false_eq_true,if_false] using this
  have Hx:=Lib.hid hx
  clear hx hK hcf hz
  go_enter Tryz.func178,Tryz.ntmps178
  go_wp2_with fail
  go_quiet (fail)
  go_wp2_with fail
  go_ret
  unfold With1Post
  rw [Hx.out]
  exact ⟨rfl,Ext.drewN _ _⟩
 | some x =>
  have hlk:∀k,(Instr.lookup 92 (.map (some mb)) (.string name) false).run Tryz.prog (w.drewN k)=.ok (.pointer (some ⟨x.fb,0,none⟩)) (w.drewN k):=by
   intro k
   have:=(h.ext (Ext.drewN w k)).map.lookup (P:=Tryz.prog) (zaz Tryz.underlying9) Tryz.underlying92 (.pointer none) (hz _) name false
   rw [ptrs,zaL,hx] at this
   simpa only [Option.map_some,Option.getD_some,Bool.false_eq_true,if_false] using this
  have hcf':=fun W=>hcf (.pointer (some ⟨x.fb,0,none⟩)) W
  have HK:=Lib.hid (fun W=>hK x W hx);have Hx:=Lib.hid hx
  clear hx hK hcf hz
  go_enter Tryz.func178,Tryz.ntmps178
  go_wp2_with fail
  go_quiet (fail)
  go_wp2_with fail
  refine (HK.out _ (Ext.drewN _ _)).mono ?_
  rintro e w' ⟨rfl,hto⟩
  have Hto:=Lib.hid hto;clear hto
  go_wp2_with fail
  go_ret
  unfold With1Post
  rw [Hx.out]
  obtain ⟨E',r1,r2,r3,r4⟩:=Hto.out
  exact ⟨rfl,E',r1,r2,(Chg.of_ext (Ext.drewN _ _)).trans r3 (fun _ _ h=>h),r4⟩
theorem cf_with1 (caps:Array Value):∀W:World,(callFunc 178 caps).run Tryz.prog W=.ok (.enter 178 caps) W:=by
 intro W
 simp [go_sem]
def DiskS.onFile (S:DiskS) (ns:List ByteArray) (name:ByteArray) (S':DiskS):Int×DiskS :=
 S.doing ns (match aget S.files name with|none=>(13,S)|some _=>(0,S'))
theorem with_any {w:World}{d mb:Nat}{E:List (ByteArray×FileX)}{S S':DiskS}(ok:S.Ok) (hops:S.ops<4611686018427387904) (h:DiskRep w d mb E S.room S.used S.left S.ops) (hfs:fs E=S.files)
 (hS':S'.room=S.room∧S'.left=S.left∧S'.ops=S.ops) (ns:List ByteArray) (name:ByteArray) (hname:ns[0]?=some name) (nb nc:Nat) (hn:Src w 1 (.slice (some ⟨nb,0,none⟩) ns.length nc) ns.length (strs ns)) (hl:∀s∈ns,s.size≤maxLen) (hfew:ns.length≤10)
 (K:Nat) (caps:Array Value)
 (hcf:∀(a:Value) (W:World),(callFunc K (#[a]++caps)).run Tryz.prog W=.ok (.enter K (#[a]++caps)) W)
 (hK:∀x W,aget E name=some x→Ext w W→Calls Tryz.prog K (#[.pointer (some ⟨x.fb,0,none⟩)]++caps) W fun e w'=>e=.returned (.tuple #[])∧RepTo W d mb E S' w') :
 Calls Tryz.prog 111 #[.pointer (some ⟨d,0,none⟩),.slice (some ⟨nb,0,none⟩) ns.length nc,.func (.func K) #[] caps] w fun e w' =>
  e=.returned (.int .i64 (S.onFile ns name S').1)∧zbC w d (foot d mb E) (S.onFile ns name S').2 w':=by
 have Hrep:=Lib.hid h;have Hfs:=Lib.hid hfs;have Hn:=Lib.hid hn;have Hl:=Lib.hid hl;have HK:=Lib.hid hK;have Hcf:=Lib.hid hcf;have Hname:=Lib.hid hname
 clear h hfs hn hl hK hcf hname
 obtain ⟨N,hN⟩:∃N,N=ns.length:=⟨_,rfl⟩
 rw [←hN]
 have HN:=Lib.hid hN;clear hN
 go_enter Tryz.func111,Tryz.ntmps111
 go_wp2_with fail
 generalize hW:World.alloc _ _=W
 have hx:Ext w W:=by subst hW;exact (((Ext.refl w).alloc _).alloc _).alloc _
 have q1:W.cell? ⟨w.heap.size,0,none⟩=some (.pointer (some ⟨d,0,none⟩)):=by subst hW;simp [go_sem]
 have q2:W.cell? ⟨w.heap.size+1,0,none⟩=some (.slice (some ⟨nb,0,none⟩) N nc):=by subst hW;simp [go_sem]
 have q3:W.cell? ⟨w.heap.size+1+1,0,none⟩=some (.func (.func K) #[] caps):=by subst hW;simp [go_sem]
 clear hW
 have hrepW:=Hrep.out.ext hx
 have hsW:=Hn.out.ext hx
 have hn0:=strs_cell hsW Hname.out
 have hNpos:0<N:=by rw [HN.out];exact (yad.1 Hname.out).1
 let err:Int:=match aget E name with|none=>13|some _=>0
 let R:World→Prop:=fun w'=>match aget E name with|none=>Ext W w'|some _=>RepTo W d mb E S' w'
 have hK:=fun (_:S.left≠0) (_:ns.all nameB=true)=>(with1_any (S:=S) hrepW w.heap.size (w.heap.size+1) (w.heap.size+1+1) nb nc N name K caps q1 q2 hNpos hn0 q3 Hcf.out (fun x V hx' hV=>HK.out x V hx' (hx.trans hV))).mono (R':=fun e w'=>e=.returned (.int .i64 err)∧R w'∧(err=0→∃used',w'.heap[d]?=some (.cells #[.map (some mb),.int .i64 S.room,.int .i64 used',.int .i64 S.left,.int .i64 S.ops] 94 (0,0)))) (by
  intro e w' hp
  unfold With1Post at hp
  show e=.returned (.int .i64 (match aget E name with|none=>13|some _=>0))∧(match aget E name with|none=>Ext W w'|some _=>RepTo W d mb E S' w')∧((match aget E name with|none=>(13:Int)|some _=>0)=0→_)
  cases hc:aget E name with
  | none=>rw [hc] at hp;exact ⟨hp.1,hp.2,fun h=>by simp at h⟩
  | some x =>
   rw [hc] at hp
   obtain ⟨he,E',r1,r2⟩:=hp
   refine ⟨he,⟨E',r1,r2⟩,fun _=>⟨S'.used,?_⟩⟩
   have:=r1.head
   rw [hS'.1,hS'.2.1,hS'.2.2] at this
   exact this)
 have hsW':Src W 1 (.slice (some ⟨nb,0,none⟩) ns.length nc) ns.length (strs ns):=hsW
 have hdo:=do_any hrepW.head nb nc ns hsW' Hl.out hfew ok.ops0 hops ok.left0 ok.left1 178 _ (cf_with1 _) err R hK
 rw [←HN.out] at hdo
 refine hdo.mono ?_
 clear hK hdo q1 q2 q3 hn0 hsW hsW'
 intro e w' hpost
 have hres:∃r:Int,e=.returned (.int .i64 r)∧r=(S.onFile ns name S').1∧zbC w d (foot d mb E) (S.onFile ns name S').2 w':=by
  unfold zcT at hpost
  unfold DiskS.onFile DiskS.doing
  have hSf:aget S.files name=(aget E name).map (·.f):=by rw [←Hfs.out,fs,zaL]
  split at hpost
  ·rename_i x hx'
   obtain ⟨rfl,rfl⟩:=hpost
   rw [hx']
   exact ⟨x,rfl,rfl,zbC.same ⟨mb,E,Hrep.out,Hfs.out,rfl⟩ hx⟩
  ·rename_i hx'
   obtain ⟨rfl,hh⟩:=hpost
   rw [hx',hSf]
   cases hc:aget E name with
   | none =>
    have e1:err=13:=by show (match aget E name with|none=>(13:Int)|some _=>0)=13;rw [hc]
    rcases hh with ⟨_,hR⟩|⟨he,_⟩
    ·have hR':Ext W w':=by have:(match aget E name with|none=>Ext W w'|some _=>RepTo W d mb E S' w'):=hR;rw [hc] at this;exact this
     exact ⟨err,rfl,by rw [e1];rfl,zbC.same ⟨mb,E,Hrep.out,Hfs.out,rfl⟩ (hx.trans hR')⟩
    ·rw [e1] at he;simp at he
   | some x =>
    have e1:err=0:=by show (match aget E name with|none=>(13:Int)|some _=>0)=0;rw [hc]
    rcases hh with ⟨he,_⟩|⟨_,w1,hR,rfl⟩
    ·exact absurd e1 he
    ·have hR':RepTo W d mb E S' w1:=by have:(match aget E name with|none=>Ext W w1|some _=>RepTo W d mb E S' w1):=hR;rw [hc] at this;exact this
     obtain ⟨E',r1,r2,r3,r4⟩:=hR'
     obtain ⟨g1,g2⟩:=bump_rep r1
     rw [hS'.2.1,hS'.2.2] at g1 g2
     refine ⟨err,rfl,by rw [e1];rfl,zbC.pre hx ⟨foot d mb E',⟨mb,E',?_,r2,rfl⟩,r3.trans g2 (fun i hi e=>by rw [e];simp [foot]),r4⟩⟩
     simp only [DiskS.count,Option.map_some,if_true,hS'.2.1,hS'.2.2]
     exact g1
 obtain ⟨r,rfl,hr,hto⟩:=hres
 go_wp2_with fail
 go_ret
 exact ⟨by rw [←hr];rfl,hto⟩
theorem flatMap_sub {α β:Type}{f:α→List β}{l l':List α}(h:List.Sublist l' l):List.Sublist (l'.flatMap f) (l.flatMap f):=by
 induction h with
 | slnil=>exact List.Sublist.refl _
 | cons a _ ih=>rw [List.flatMap_cons];exact ih.trans (List.sublist_append_right _ _)
 | cons_cons a _ ih=>rw [List.flatMap_cons,List.flatMap_cons];exact List.Sublist.append (List.Sublist.refl _) ih
theorem foot_sub {d mb:Nat}{E E':List (ByteArray×FileX)}(h:List.Sublist E' E):List.Sublist (foot d mb E') (foot d mb E) :=
 List.Sublist.cons_cons _ (List.Sublist.cons_cons _ (flatMap_sub h))
theorem DiskRep.del {w w':World}{d mb:Nat}{E:List (ByteArray×FileX)}{name:ByteArray}{room used left ops room' used' left' ops':Int}{T:Nat→Prop}(h:DiskRep w d mb E room used left ops)
 (hc:Chg T w w') (hT:∀b,T b→b=d∨b=mb)
 (hd:w'.heap[d]?=some (.cells #[.map (some mb),.int .i64 room',.int .i64 used',.int .i64 left',.int .i64 ops'] 94 (0,0)))
 (hm:MapIs (fun s:ByteArray=>Value.string s) w' mb (adel (ptrs E) name)) :
 DiskRep w' d mb (adel E name) room' used' left' ops'∧∀b∈foot d mb (adel E name),b∈foot d mb E:=by
 have hap:=h.apart
 have hsub:=zcu E name
 refine ⟨⟨hd,?_,?_,hap.sublist (foot_sub hsub),h.names.sublist (hsub.map _)⟩,fun b hb=>(foot_sub hsub).subset hb⟩
 ·have e:ptrs (adel E name)=adel (ptrs E) name:=(adel_amap _ E name).symm
  rw [e];exact hm
 ·intro p hp
  refine (h.files p (hsub.subset hp)).chg hc (fun b hb hs=>?_)
  have hb':b∈E.flatMap fun p=>p.2.blocks:=List.mem_flatMap.2 ⟨p,hsub.subset hp,hb⟩
  simp only [foot,yaU,yaq,not_or] at hap
  rcases hT b hs with e|e
  ·subst e;exact hap.1.2 hb'
  ·subst e;exact hap.2.1 hb'
theorem zdz {P:Program}{w:World}{ops:Array Oper}{rest:List Oper}{o:Oper}{a:Act}{Q:Exit→Act→World→Prop}(hgd:o.guard=none) (hdst:o.dst=none) (m x:Operand) (t k:TypeId)
 (ho:o.op=.call { callee:=.builtin .delete,args:=#[m,x],argTypes:=#[t,k] }) (mv kv:Value) (w':World) (hm:a.eval m=mv) (hx:a.eval x=kv)
 (hr:(Builtin.delete_ #[t,k] o.type #[mv,kv]).run P w=.ok (.tuple #[]) w') (h:wpList P ops Q rest a w') :
 wpList P ops Q (o::rest) a w:=by
 refine wpList_plain hgd fun K hK=>?_
 unfold Oper.wp execOp
 simp only [ho,resolve,invoke,builtin,Sem.run_bind,Sem.run_pure,Result.andThen_ok,List.map_toArray,yaJ,List.map_nil,hm,hx,hr]
 simp only [Oper.upon,hdst,Act.put]
 exact hK _ _ h
theorem drop_none {w:World}{d mb:Nat}{E:List (ByteArray×FileX)}{room used left ops:Int}(h:DiskRep w d mb E room used left ops) (name:ByteArray) (hx:aget E name=none) :
 Calls Tryz.prog 113 #[.pointer (some ⟨d,0,none⟩),.string name] w fun e w'=>e=.returned (.tuple #[])∧w=w':=by
 have c0:w.cell? ⟨d,0,none⟩=some (.map (some mb)):=by rw [zaa h.head];rfl
 have hz:∀w:World,(zeroValue 116).run Tryz.prog w=.ok (.pointer none) w:=fun _=>by kernel_rfl
 have hlk:(Instr.lookup 92 (.map (some mb)) (.string name) false).run Tryz.prog w=.ok (.pointer none) w:=by
  have:=h.map.lookup (P:=Tryz.prog) (zaz Tryz.underlying9) Tryz.underlying92 (.pointer none) (hz _) name false
  rw [ptrs,zaL,hx] at this
  simpa only [Option.map_none,Option.getD_none,Bool.false_eq_true,if_false] using this
 clear hx hz
 go_enter Tryz.func113,Tryz.ntmps113
 go_wp2_with fail
 go_end0
 exact ⟨rfl,rfl⟩
theorem drop_some {w:World}{d mb:Nat}{E:List (ByteArray×FileX)}{room used left ops:Int}(h:DiskRep w d mb E room used left ops) (name:ByteArray) (x:FileX) (hx:aget E name=some x) (hsm:x.f.bytes.length≤1048576) (hu:used≤1073741824) (hu0:0≤used) :
 Calls Tryz.prog 113 #[.pointer (some ⟨d,0,none⟩),.string name] w fun e w'=>e=.returned (.tuple #[])∧DiskRep w' d mb (adel E name) room (used-x.f.bytes.length) left ops∧Chg (fun b=>b=d∨b=mb) w w':=by
 have c0:w.cell? ⟨d,0,none⟩=some (.map (some mb)):=by rw [zaa h.head];rfl
 have c2:w.cell? ⟨d,2,none⟩=some (.int .i64 used):=by rw [zaa h.head];rfl
 have fz2:w.frozen? ⟨d,2,none⟩=false:=zan h.head 2
 have hz:∀w:World,(zeroValue 116).run Tryz.prog w=.ok (.pointer none) w:=fun _=>by kernel_rfl
 have hlk:(Instr.lookup 92 (.map (some mb)) (.string name) false).run Tryz.prog w=.ok (.pointer (some ⟨x.fb,0,none⟩)) w:=by
  have:=h.map.lookup (P:=Tryz.prog) (zaz Tryz.underlying9) Tryz.underlying92 (.pointer none) (hz _) name false
  rw [ptrs,zaL,hx] at this
  simpa only [Option.map_some,Option.getD_some,Bool.false_eq_true,if_false] using this
 have hf:FileAt w x:=h.files (name,x) (zaY hx)
 have f0:w.cell? ⟨x.fb,0,none⟩=some x.v:=by rw [zaa hf.head];rfl
 obtain ⟨xa,xc,hxv⟩:=hf.row.shape
 rw [hxv] at f0
 have hdmb:d≠mb:=by
  have:=h.apart
  simp [foot] at this
  exact this.1.1
 have hsm':(x.f.bytes.length:Int)≤1048576:=by omega
 generalize hL:x.f.bytes.length=L at *
 clear hxv hf hz hx hsm
 go_enter Tryz.func113,Tryz.ntmps113
 go_wp2_with fail
 clear hlk
 refine zam [] [0,1,2,3,4,5,6,7,8,9,10,11] [12] (by kernel_rfl) (by kernel_rfl) (fun _ _ dd _ _ hh=>by cases dd<;>exact hh) ?_
 simp only [zac,yab,yaa]
 refine yaF ?_
 repeat (go_big_quiet_step (fail))
 refine yaF ?_
 intro _ hw'
 obtain ⟨nq,rfl⟩:=hw'
 obtain ⟨w2,hw2⟩:∃w2,w2=(w.drewN nq).setCell ⟨d,2,none⟩ (.int .i64 (used-L)):=⟨_,rfl⟩
 have hch2:Chg (·=d) w w2:=by rw [hw2];exact (Chg.of_ext (Ext.drewN w nq)).trans (zaj _ _ _ _) (fun _ _ e=>e)
 have b2:w2.heap[d]?=some (.cells #[.map (some mb),.int .i64 room,.int .i64 (used-L),.int .i64 left,.int .i64 ops] 94 (0,0)):=by
  rw [hw2];exact zaq (w:=w.drewN nq) h.head _
 have m2:=h.map.chg hch2 (Ne.symm hdmb)
 obtain ⟨w3,hdel,hm3,hch3⟩:=m2.delete (P:=Tryz.prog) (zaz Tryz.underlying9) Tryz.underlying92 name 9 0
 have e0:w2.cell? ⟨d,0,none⟩=some (.map (some mb)):=by rw [zaa b2];rfl
 have H:=Lib.hid h;have Hch2:=Lib.hid hch2;have Hb2:=Lib.hid b2;have Hm3:=Lib.hid hm3;have Hch3:=Lib.hid hch3
 have Hw2:=Lib.hid hw2.symm
 clear hch2 b2 m2 hm3 hch3 hw2 h
 go_wp2_with (at_delete;rw [Hw2.out];refine zdz rfl rfl _ _ _ _ rfl _ _ w3 rfl rfl hdel ?_)
 go_end0
 have hch:Chg (fun b=>b=d∨b=mb) w w3:=(Hch2.out.mono (T:=fun b=>b=d∨b=mb) (fun _ _ e=>.inl e)).trans Hch3.out (fun _ _ e=>.inr e)
 have hb3:w3.heap[d]?=some (.cells #[.map (some mb),.int .i64 room,.int .i64 (used-L),.int .i64 left,.int .i64 ops] 94 (0,0)):=by
  rw [Hch3.out.block d (zab Hb2.out) hdmb];exact Hb2.out
 exact ⟨rfl,(H.out.del hch (fun _ e=>e) hb3 Hm3.out).1,hch⟩
theorem cf_delete1 (a b c:Value):∀W:World,(callFunc 112 (#[a]++#[b,c])).run Tryz.prog W=.ok (.enter 112 (#[a]++#[b,c])) W:=by
 intro W;simp [go_sem]
theorem cf_sync1 (a:Value):∀W:World,(callFunc 164 (#[a]++#[])).run Tryz.prog W=.ok (.enter 164 (#[a]++#[])) W:=by
 intro W;simp [go_sem]
def DiskS.drop (S:DiskS) (name:ByteArray):DiskS :=
 match aget S.files name with
 | none=>S
 | some f=>{ S with files:=adel S.files name,used:=S.used-f.bytes.length }
def DiskS.delete (S:DiskS) (name:ByteArray):Int×DiskS:=S.onFile [name] name (S.drop name)
def DiskS.synced (S:DiskS) (name:ByteArray):DiskS :=
 match aget S.files name with
 | none=>S
 | some f=>{ S with files:=aput S.files name ⟨f.bytes,f.bytes.length,true⟩ }
def DiskS.sync (S:DiskS) (name:ByteArray):Int×DiskS:=S.onFile [name] name (S.synced name)
theorem one_name {w:World}{b:Nat}{name:ByteArray}(h:w.cell? ⟨b,0,none⟩=some (.string name)):Src w 1 (.slice (some ⟨b,0,none⟩) [name].length 1) [name].length (strs [name]):=by
 refine .inr ⟨_,_,rfl,rfl,fun j u hj=>?_,?_⟩
 ·match j,hj with
  | 0,hj =>
   simp [strs] at hj;subst hj
   have e:(⟨b,0,none⟩:Addr).add 0=⟨b,0,none⟩:=by unfold Addr.add;split<;>simp_all
   rw [e];exact h
  | j+1,hj=>simp [strs] at hj
 ·intro u hu
  simp [strs] at hu;subst hu;rfl
theorem drop_same (S:DiskS) (name:ByteArray):(S.drop name).room=S.room∧(S.drop name).left=S.left∧(S.drop name).ops=S.ops:=by
 unfold DiskS.drop;split<;>simp
theorem synced_same (S:DiskS) (name:ByteArray):(S.synced name).room=S.room∧(S.synced name).left=S.left∧(S.synced name).ops=S.ops:=by
 unfold DiskS.synced;split<;>simp
theorem delete1_any {W:World}{d mb:Nat}{E:List (ByteArray×FileX)}{S:DiskS}(ok:S.Ok) (h:DiskRep W d mb E S.room S.used S.left S.ops) (hfs:fs E=S.files) (dd nn:Nat) (name:ByteArray) (x:FileX) (hx:aget E name=some x)
 (hd:W.cell? ⟨dd,0,none⟩=some (.pointer (some ⟨d,0,none⟩))) (hn:W.cell? ⟨nn,0,none⟩=some (.string name)) :
 Calls Tryz.prog 112 #[.pointer (some ⟨x.fb,0,none⟩),.pointer (some ⟨dd,0,none⟩),.pointer (some ⟨nn,0,none⟩)] W fun e w'=>e=.returned (.tuple #[])∧RepTo W d mb E (S.drop name) w':=by
 have hx':aget S.files name=some x.f:=by rw [←hfs,fs,zaL,hx];rfl
 have hsm:x.f.bytes.length≤1048576:=ok.small _ (zaY hx')
 have hdr:S.drop name={ S with files:=adel S.files name,used:=S.used-x.f.bytes.length }:=by simp [DiskS.drop,hx']
 have hcon:=drop_some h name x hx hsm (by have:=ok.used1;have:=ok.room1;omega) ok.used0
 have Hcon:=Lib.hid hcon;have H:=Lib.hid h;have Hfs:=Lib.hid hfs
 rw [hdr]
 clear hcon h hfs hx hx' hsm hdr
 go_enter Tryz.func112,Tryz.ntmps112
 go_wp2_with fail
 refine Hcon.out.mono ?_
 rintro e w' ⟨rfl,r1,r2⟩
 have R1:=Lib.hid r1;have R2:=Lib.hid r2;clear r1 r2
 go_wp2_with fail
 go_end0
 refine ⟨rfl,adel E name,R1.out,?_,R2.out.mono (fun i hi e=>?_),fun b hb=>.inl ((foot_sub (zcu E name)).subset hb)⟩
 ·show fs _=adel S.files name
  rw [←Hfs.out];exact (adel_amap _ E name).symm
 ·rcases e with e|e<;>rw [e]<;>simp [foot]
theorem disk_delete {w:World}{d:Nat}{S:DiskS}{B:List Nat}(ok:S.Ok) (hops:S.ops<4611686018427387904) (h:zbj w d S B) (name:ByteArray) (hname:name.size≤maxLen) :
 Calls Tryz.prog 63 #[.pointer (some ⟨d,0,none⟩),.string name] w fun e w'=>e=.returned (.int .i64 (S.delete name).1)∧zbC w d B (S.delete name).2 w':=by
 obtain ⟨mb,E,hrep,hfs,rfl⟩:=h
 have Hrep:=Lib.hid hrep;have Hfs:=Lib.hid hfs
 clear hrep hfs
 go_enter Tryz.func63,Tryz.ntmps63
 go_wp2_with fail
 generalize hW:World.alloc _ _=W
 have hx:Ext w W:=by subst hW;exact (((Ext.refl w).alloc _).alloc _).alloc _
 have q1:W.cell? ⟨w.heap.size,0,none⟩=some (.pointer (some ⟨d,0,none⟩)):=by subst hW;simp [go_sem]
 have q2:W.cell? ⟨w.heap.size+1,0,none⟩=some (.string name):=by subst hW;simp [go_sem]
 have q3:W.cell? ⟨w.heap.size+1+1,0,none⟩=some (.string name):=by subst hW;simp [go_sem]
 clear hW
 have l1:=yaf W _ q1
 have l2:=yaf W _ q2
 have hcon:=with_any ok hops (Hrep.out.ext hx) Hfs.out (drop_same S name) [name] name rfl (w.heap.size+1+1) 1 (one_name q3) (by simpa using hname) (by simp) 112 #[.pointer (some ⟨w.heap.size,0,none⟩),.pointer (some ⟨w.heap.size+1,0,none⟩)] (fun a=>cf_delete1 a _ _)
  (fun x V hx' hV=>delete1_any ok ((Hrep.out.ext hx).ext hV) Hfs.out w.heap.size (w.heap.size+1) name x hx' (by rw [hV.cell l1];exact q1) (by rw [hV.cell l2];exact q2))
 refine hcon.mono ?_
 rintro e w' ⟨rfl,hto⟩
 have Hto:=Lib.hid (zbC.pre hx hto)
 clear hto hcon q1 q2 q3 l1 l2
 go_wp2_with fail
 go_ret
 exact ⟨rfl,Hto.out⟩
theorem sync1_any {W:World}{d mb:Nat}{E:List (ByteArray×FileX)}{S:DiskS}(h:DiskRep W d mb E S.room S.used S.left S.ops) (hfs:fs E=S.files) (name:ByteArray) (x:FileX) (hx:aget E name=some x) :
 Calls Tryz.prog 164 #[.pointer (some ⟨x.fb,0,none⟩)] W fun e w'=>e=.returned (.tuple #[])∧RepTo W d mb E (S.synced name) w':=by
 have hx':aget S.files name=some x.f:=by rw [←hfs,fs,zaL,hx];rfl
 have hdr:S.synced name={ S with files:=aput S.files name ⟨x.f.bytes,x.f.bytes.length,true⟩ }:=by simp [DiskS.synced,hx']
 have hf:FileAt W x:=h.files (name,x) (zaY hx)
 have f0:W.cell? ⟨x.fb,0,none⟩=some x.v:=by rw [zaa hf.head];rfl
 have f1:W.cell? ⟨x.fb,1,none⟩=some (.int .i64 x.f.lasts):=by rw [zaa hf.head];rfl
 have f2:W.cell? ⟨x.fb,2,none⟩=some (.bool x.f.synced):=by rw [zaa hf.head];rfl
 have z1:W.frozen? ⟨x.fb,1,none⟩=false:=zan hf.head 1
 have z2:W.frozen? ⟨x.fb,2,none⟩=false:=zan hf.head 2
 obtain ⟨xa,xc,hxv⟩:=hf.row.shape
 rw [hxv] at f0
 have H:=Lib.hid h;have Hfs:=Lib.hid hfs;have Hx:=Lib.hid hx;have Hf:=Lib.hid hf
 rw [hdr]
 clear h hfs hx hx' hdr hf hxv
 go_enter Tryz.func164,Tryz.ntmps164
 go_wp2_with fail
 go_end0
 have hch:Chg (·=x.fb) W ((W.setCell ⟨x.fb,1,none⟩ (.int .i64 x.f.bytes.length)).setCell ⟨x.fb,2,none⟩ (.bool true)):=(zaj _ _ _ _).trans (zaj _ _ _ _) (fun _ _ e=>e)
 have hne:x.v.ownBlock≠some x.fb∧x.fb≠d:=by
  have h:=H.out
  have hx:=Hx.out
  obtain ⟨E1,E2,rfl,_⟩:=zbs hx
  obtain ⟨_,_,r3,r4⟩:=h.rest
  exact ⟨zcS.1 r3,fun e=>r4 x.fb (by simp [FileX.blocks]) (by simp [footR,e])⟩
 have hT:=DiskRep.turn (x':=⟨x.fb,x.v,⟨x.f.bytes,x.f.bytes.length,true⟩⟩) H.out Hx.out hch (fun b hb=>.inr (by rw [hb];simp [FileX.blocks]))
  (by rw [hch.block d (zab H.out.head) (Ne.symm hne.2)];exact H.out.head)
  ⟨zaq (zaq Hf.out.head _) _,Hf.out.row.chg hch (fun g hg e=>by subst e;exact hne.1 hg)⟩ rfl (.inl rfl)
 refine ⟨rfl,_,hT.1,?_,hch.mono (fun i hi e=>?_),hT.2⟩
 ·show fs _=aput S.files name ⟨x.f.bytes,x.f.bytes.length,true⟩
  rw [←Hfs.out,fs,fs];exact (zdo (fun x:FileX=>x.f) E name ⟨x.fb,x.v,⟨x.f.bytes,x.f.bytes.length,true⟩⟩).symm
 ·rw [e]
  obtain ⟨E1,E2,hE,_⟩:=zbs Hx.out
  rw [hE,(zcm d mb E1 E2 name x).mem_iff];simp [FileX.blocks]
theorem disk_sync {w:World}{d:Nat}{S:DiskS}{B:List Nat}(ok:S.Ok) (hops:S.ops<4611686018427387904) (h:zbj w d S B) (name:ByteArray) (hname:name.size≤maxLen) :
 Calls Tryz.prog 98 #[.pointer (some ⟨d,0,none⟩),.string name] w fun e w'=>e=.returned (.int .i64 (S.sync name).1)∧zbC w d B (S.sync name).2 w':=by
 obtain ⟨mb,E,hrep,hfs,rfl⟩:=h
 have Hrep:=Lib.hid hrep;have Hfs:=Lib.hid hfs
 clear hrep hfs
 go_enter Tryz.func98,Tryz.ntmps98
 go_wp2_with fail
 generalize hW:World.alloc _ _=W
 have hx:Ext w W:=by subst hW;exact (Ext.refl w).alloc _
 have q3:W.cell? ⟨w.heap.size,0,none⟩=some (.string name):=by subst hW;simp [go_sem]
 clear hW
 have hcon:=with_any ok hops (Hrep.out.ext hx) Hfs.out (synced_same S name) [name] name rfl w.heap.size 1 (one_name q3) (by simpa using hname) (by simp) 164 #[] (fun a=>cf_sync1 a)
  (fun x V hx' hV=>sync1_any ((Hrep.out.ext hx).ext hV) Hfs.out name x hx')
 refine hcon.mono ?_
 rintro e w' ⟨rfl,hto⟩
 have Hto:=Lib.hid (zbC.pre hx hto)
 clear hto hcon q3
 go_wp2_with fail
 go_ret
 exact ⟨rfl,Hto.out⟩
theorem DiskRep.move {w w':World}{d mb:Nat}{E:List (ByteArray×FileX)}{old new:ByteArray}{x:FileX}{room used left ops:Int}(h:DiskRep w d mb E room used left ops) (hx:aget E old=some x) (hn:aget (adel E old) new=none)
 (hc:Chg (·=mb) w w') (hm:MapIs (fun s:ByteArray=>Value.string s) w' mb (aput (adel (ptrs E) old) new (.pointer (some ⟨x.fb,0,none⟩)))) :
 DiskRep w' d mb (aput (adel E old) new x) room used left ops∧∀b∈foot d mb (aput (adel E old) new x),b∈foot d mb E:=by
 have hput:=zcs x hn
 rw [hput]
 obtain ⟨E1,E2,hE,_,hdel⟩:=zbs hx
 have hperm:List.Perm (foot d mb (adel E old++[(new,x)])) (foot d mb E):=by
  rw [hdel,hE]
  refine List.Perm.trans ?_ (zcm d mb E1 E2 old x).symm
  have:foot d mb (E1++E2++[(new,x)])=footR d mb E1 E2++x.blocks:=by simp [foot,footR]
  rw [this]
  exact List.perm_append_comm
 have hap:=h.apart
 have hap2:=hap
 simp only [foot,yaU,yaq,not_or] at hap2
 refine ⟨⟨?_,?_,?_,hperm.nodup_iff.2 hap,?_⟩,fun b hb=>hperm.mem_iff.1 hb⟩
 ·rw [hc.block d (zab h.head) hap2.1.1];exact h.head
 ·have e:ptrs (adel E old++[(new,x)])=aput (adel (ptrs E) old) new (.pointer (some ⟨x.fb,0,none⟩)):=by
   rw [←hput]
   have e1:adel (ptrs E) old=ptrs (adel E old):=adel_amap _ E old
   rw [e1];exact (zdo (fun x:FileX=>Value.pointer (some ⟨x.fb,0,none⟩)) (adel E old) new x).symm
  rw [e];exact hm
 ·intro p hp
  have hpE:∃k,(k,p.2)∈E:=by
   rcases yah.1 hp with hp|hp
   ·exact ⟨p.1,(zcu E old).subset hp⟩
   ·simp at hp;subst hp;exact ⟨old,zaY hx⟩
  obtain ⟨k,hk⟩:=hpE
  refine (h.files (k,p.2) hk).chg hc (fun b hb e=>?_)
  subst e
  exact hap2.2.1 (List.mem_flatMap.2 ⟨(k,p.2),hk,hb⟩)
 ·rw [yav,List.nodup_append]
  refine ⟨h.names.sublist ((zcu E old).map _),by simp,fun a ha b hb e=>?_⟩
  simp at hb;subst hb;subst e
  exact (zaX.1 hn) ha
def DiskS.renamed (S:DiskS) (old new:ByteArray):DiskS :=
 if old=new then S else
 match aget S.files old with
 | none=>S
 | some f=>{ S.drop new with files:=aput (adel (S.drop new).files old) new f }
def DiskS.rename (S:DiskS) (old new:ByteArray):Int×DiskS:=S.onFile [old,new] old (S.renamed old new)
theorem cf_rename1 (a b c d:Value):∀W:World,(callFunc 189 (#[a]++#[b,c,d])).run Tryz.prog W=.ok (.enter 189 (#[a]++#[b,c,d])) W:=by
 intro W;simp [go_sem]
theorem renamed_same (S:DiskS) (old new:ByteArray):(S.renamed old new).room=S.room∧(S.renamed old new).left=S.left∧(S.renamed old new).ops=S.ops:=by
 unfold DiskS.renamed
 split
 ·simp
 ·split
  ·simp
  ·exact drop_same S new
theorem drop_any {w:World}{d mb:Nat}{E:List (ByteArray×FileX)}{S:DiskS}(ok:S.Ok) (h:DiskRep w d mb E S.room S.used S.left S.ops) (hfs:fs E=S.files) (name:ByteArray) :
 Calls Tryz.prog 113 #[.pointer (some ⟨d,0,none⟩),.string name] w fun e w'=>e=.returned (.tuple #[])∧DiskRep w' d mb (adel E name) S.room (S.drop name).used S.left S.ops∧fs (adel E name)=(S.drop name).files∧Chg (fun b=>b=d∨b=mb) w w':=by
 cases hx:aget E name with
 | none =>
  have hx':aget S.files name=none:=by rw [←hfs,fs,zaL,hx];rfl
  have hdr:S.drop name=S:=by simp [DiskS.drop,hx']
  refine (drop_none h name hx).mono ?_
  rintro e w' ⟨rfl,rfl⟩
  rw [hdr,adel_none hx]
  exact ⟨rfl,h,hfs,Chg.refl _ _⟩
 | some x =>
  have hx':aget S.files name=some x.f:=by rw [←hfs,fs,zaL,hx];rfl
  have hsm:x.f.bytes.length≤1048576:=ok.small _ (zaY hx')
  have hdr:S.drop name={ S with files:=adel S.files name,used:=S.used-x.f.bytes.length }:=by simp [DiskS.drop,hx']
  refine (drop_some h name x hx hsm (by have:=ok.used1;have:=ok.room1;omega) ok.used0).mono ?_
  rintro e w' ⟨rfl,r1,r2⟩
  rw [hdr]
  refine ⟨rfl,r1,?_,r2⟩
  show fs _=adel S.files name
  rw [←hfs];exact (adel_amap _ E name).symm
theorem rename1_any {W:World}{d mb:Nat}{E:List (ByteArray×FileX)}{S:DiskS}(ok:S.Ok) (h:DiskRep W d mb E S.room S.used S.left S.ops) (hfs:fs E=S.files) (oo nn dd:Nat) (old new:ByteArray) (x:FileX) (hx:aget E old=some x)
 (ho:W.cell? ⟨oo,0,none⟩=some (.string old)) (hn:W.cell? ⟨nn,0,none⟩=some (.string new)) (hd:W.cell? ⟨dd,0,none⟩=some (.pointer (some ⟨d,0,none⟩)))
 (hoo:oo∉foot d mb E) (hnn:nn∉foot d mb E) (hdd:dd∉foot d mb E) :
 Calls Tryz.prog 189 #[.pointer (some ⟨x.fb,0,none⟩),.pointer (some ⟨oo,0,none⟩),.pointer (some ⟨nn,0,none⟩),.pointer (some ⟨dd,0,none⟩)] W fun e w'=>e=.returned (.tuple #[])∧RepTo W d mb E (S.renamed old new) w':=by
 have hx':aget S.files old=some x.f:=by rw [←hfs,fs,zaL,hx];rfl
 by_cases hon:old=new
 ·have hdr:S.renamed old new=S:=by simp [DiskS.renamed,hon]
  have heq:(old.toList==new.toList)=true:=by simp [hon]
  rw [hdr]
  have H:=Lib.hid h;have Hfs:=Lib.hid hfs
  clear h hfs hx hx' hdr hon
  go_enter Tryz.func189,Tryz.ntmps189
  go_wp2_with fail
  go_end0
  exact ⟨rfl,E,H.out,Hfs.out,Chg.refl _ _,fun b hb=>.inl hb⟩
 ·have hdr:S.renamed old new={ S.drop new with files:=aput (adel (S.drop new).files old) new x.f }:=by simp [DiskS.renamed,hon,hx']
  have heq:(old.toList==new.toList)=false:=by
   rw [←beq_toListBytes,zdm];simp [hon]
  have hcon:=drop_any ok h hfs new
  rw [hdr]
  have Hcon:=Lib.hid hcon;have H:=Lib.hid h;have Hfs:=Lib.hid hfs;have Hx:=Lib.hid hx;have Hon:=Lib.hid hon
  have hlt:=h.foot_lt
  clear hcon h hfs hx hx' hdr hon
  have loo:=yaf W _ ho
  have lnn:=yaf W _ hn
  have ldd:=yaf W _ hd
  go_enter Tryz.func189,Tryz.ntmps189
  go_wp2_with fail
  refine Hcon.out.mono ?_
  rintro e w1 ⟨rfl,r1,r2,r3⟩
  have hsub:∀b,(b=d∨b=mb)→b∈foot d mb E:=fun b e=>by rcases e with e|e<;>rw [e]<;>simp [foot]
  have p1:w1.cell? ⟨oo,0,none⟩=some (.string old):=by rw [r3.cell (p:=⟨oo,0,none⟩) loo (fun e=>hoo (hsub _ e))];exact ho
  have p2:w1.cell? ⟨nn,0,none⟩=some (.string new):=by rw [r3.cell (p:=⟨nn,0,none⟩) lnn (fun e=>hnn (hsub _ e))];exact hn
  have p3:w1.cell? ⟨dd,0,none⟩=some (.pointer (some ⟨d,0,none⟩)):=by rw [r3.cell (p:=⟨dd,0,none⟩) ldd (fun e=>hdd (hsub _ e))];exact hd
  have p4:w1.cell? ⟨d,0,none⟩=some (.map (some mb)):=by rw [zaa r1.head];rfl
  have R1:=Lib.hid r1;have R2:=Lib.hid r2;have R3:=Lib.hid r3
  have Ho:=Lib.hid p1;have Hn:=Lib.hid p2;have Hd:=Lib.hid p3;have Hc0:=Lib.hid p4
  clear r1 r2 r3 ho hn hd
  go_wp2_with fail
  refine zam [] [0,1,2,3,4] [5] (by kernel_rfl) (by kernel_rfl) (fun _ _ dd _ _ hh=>by cases dd<;>exact hh) ?_
  simp only [zac,yab,yaa]
  refine yaF ?_
  repeat (go_big_quiet_step (fail))
  refine yaF ?_
  intro w2 hw'
  have hx2:Ext w1 w2:=by obtain ⟨k,rfl⟩:=hw';exact Ext.drewN _ _
  clear hw' p1 p2 p3 p4
  obtain ⟨w3,hdel,hm3,hch3⟩:=(R1.out.ext hx2).map.delete (P:=Tryz.prog) (zaz Tryz.underlying9) Tryz.underlying92 old 9 0
  have hc3:Chg (·=mb) w1 w3:=(Chg.of_ext hx2).trans hch3 (fun _ _ e=>e)
  have hne:∀b,b∉foot d mb E→b≠mb:=fun b hb e=>hb (by rw [e];simp [foot])
  have hap:=R1.out.apart
  simp only [foot,yaU,yaq,not_or] at hap
  have q2:w3.cell? ⟨nn,0,none⟩=some (.string new):=by rw [hc3.cell (p:=⟨nn,0,none⟩) (yaf w1 _ Hn.out) (hne _ hnn)];exact Hn.out
  have q3:w3.cell? ⟨dd,0,none⟩=some (.pointer (some ⟨d,0,none⟩)):=by rw [hc3.cell (p:=⟨dd,0,none⟩) (yaf w1 _ Hd.out) (hne _ hdd)];exact Hd.out
  have q4:w3.cell? ⟨d,0,none⟩=some (.map (some mb)):=by rw [hc3.cell (p:=⟨d,0,none⟩) (yaf w1 _ Hc0.out) hap.1.1];exact Hc0.out
  have Hm3:=Lib.hid hm3;have Hc3:=Lib.hid hc3
  clear hm3 hch3 hc3 hx2 hap
  go_wp2_with (at_delete;refine zdz rfl rfl _ _ _ _ rfl _ _ w3 rfl rfl hdel ?_)
  clear hdel
  refine zam [] [0,1,2,3,4,5] [6] (by kernel_rfl) (by kernel_rfl) (fun _ _ dd _ _ hh=>by cases dd<;>exact hh) ?_
  simp only [zac,yab,yaa]
  refine yaF ?_
  repeat (go_big_quiet_step (fail))
  refine yaF ?_
  intro w4 hw'
  have hx4:Ext w3 w4:=by obtain ⟨k,rfl⟩:=hw';exact Ext.drewN _ _
  clear hw' q2 q3 q4
  obtain ⟨w5,hup,hm5,hch5⟩:=(Hm3.out.ext hx4).update (P:=Tryz.prog) (zaz Tryz.underlying9) Tryz.underlying92 new (.pointer (some ⟨x.fb,0,none⟩))
  have Hm5:=Lib.hid hm5
  have Hc5:=Lib.hid (show Chg (·=mb) w1 w5 from (Hc3.out.trans (Chg.of_ext (S:=fun _=>False) hx4) (fun _ _ e=>e.elim)).trans hch5 (fun _ _ e=>e))
  clear hm5 hch5 hx4
  go_wp2_with fail
  go_end0
  have hxo:aget (adel E new) old=some x:=by rw [zbt Hon.out];exact Hx.out
  have hno:aget (adel (adel E new) old) new=none:=by
   rw [zbt (Ne.symm Hon.out)];exact zcJ H.out.names new
  obtain ⟨g1,g2⟩:=R1.out.move hxo hno Hc5.out Hm5.out
  refine ⟨rfl,_,?_,?_,((R3.out.mono (T:=(·∈foot d mb E)) (fun i hi e=>hsub _ e)).trans Hc5.out (fun i hi e=>by rw [e];simp [foot])),fun b hb=>.inl ((foot_sub (zcu E new)).subset (g2 b hb))⟩
  ·have:=drop_same S new
   show DiskRep w5 d mb _ (S.drop new).room (S.drop new).used (S.drop new).left (S.drop new).ops
   rw [this.1,this.2.1,this.2.2];exact g1
  ·show fs _=aput (adel (S.drop new).files old) new x.f
   rw [←R2.out]
   have e1:adel (fs (adel E new)) old=fs (adel (adel E new) old):=adel_amap _ (adel E new) old
   rw [e1]
   exact (zdo (fun x:FileX=>x.f) (adel (adel E new) old) new x).symm
theorem two_names {w:World}{b:Nat}{s t:ByteArray}(h:w.cell? ⟨b,0,none⟩=some (.string s)) (h2:w.cell? ⟨b,1,none⟩=some (.string t)):Src w 1 (.slice (some ⟨b,0,none⟩) [s,t].length 2) [s,t].length (strs [s,t]):=by
 refine .inr ⟨_,_,rfl,rfl,fun j u hj=>?_,?_⟩
 ·have e:(⟨b,0,none⟩:Addr).add j=⟨b,j,none⟩:=by unfold Addr.add;split<;>simp_all
  rw [e]
  match j,hj with
  | 0,hj=>simp [strs] at hj;subst hj;exact h
  | 1,hj=>simp [strs] at hj;subst hj;exact h2
  | j+2,hj=>simp [strs] at hj
 ·intro u hu
  simp [strs] at hu;rcases hu with rfl|rfl<;>rfl
theorem disk_rename {w:World}{d:Nat}{S:DiskS}{B:List Nat}(ok:S.Ok) (hops:S.ops<4611686018427387904) (h:zbj w d S B) (old new:ByteArray) (hold:old.size≤maxLen) (hnew:new.size≤maxLen) :
 Calls Tryz.prog 134 #[.pointer (some ⟨d,0,none⟩),.string old,.string new] w fun e w'=>e=.returned (.int .i64 (S.rename old new).1)∧zbC w d B (S.rename old new).2 w':=by
 obtain ⟨mb,E,hrep,hfs,rfl⟩:=h
 have Hlt:=Lib.hid hrep.foot_lt
 have Hrep:=Lib.hid hrep;have Hfs:=Lib.hid hfs
 clear hrep hfs
 go_enter Tryz.func134,Tryz.ntmps134
 go_wp2_with fail
 generalize hW:World.alloc _ _=W
 have hx:Ext w W:=by subst hW;exact ((((Ext.refl w).alloc _).alloc _).alloc _).alloc _
 have q1:W.cell? ⟨w.heap.size,0,none⟩=some (.pointer (some ⟨d,0,none⟩)):=by subst hW;simp [go_sem]
 have q2:W.cell? ⟨w.heap.size+1,0,none⟩=some (.string old):=by subst hW;simp [go_sem]
 have q3:W.cell? ⟨w.heap.size+1+1,0,none⟩=some (.string new):=by subst hW;simp [go_sem]
 have q4:W.cell? ⟨w.heap.size+1+1+1,0,none⟩=some (.string old):=by subst hW;simp [go_sem]
 have q5:W.cell? ⟨w.heap.size+1+1+1,1,none⟩=some (.string new):=by subst hW;simp [go_sem]
 clear hW
 have l1:=yaf W _ q1
 have l2:=yaf W _ q2
 have l3:=yaf W _ q3
 have hcon:=with_any ok hops (Hrep.out.ext hx) Hfs.out (renamed_same S old new) [old,new] old rfl (w.heap.size+1+1+1) 2 (two_names q4 q5) (by intro s hs;simp at hs;rcases hs with rfl|rfl<;>assumption) (by simp) 189 #[.pointer (some ⟨w.heap.size+1,0,none⟩),.pointer (some ⟨w.heap.size+1+1,0,none⟩),.pointer (some ⟨w.heap.size,0,none⟩)] (fun a=>cf_rename1 a _ _ _)
  (fun x V hx' hV=>rename1_any ok ((Hrep.out.ext hx).ext hV) Hfs.out (w.heap.size+1) (w.heap.size+1+1) w.heap.size old new x hx' (by rw [hV.cell l2];exact q2) (by rw [hV.cell l3];exact q3) (by rw [hV.cell l1];exact q1)
    (fun hb=>by have:=Hlt.out _ hb;omega) (fun hb=>by have:=Hlt.out _ hb;omega) (fun hb=>by have:=Hlt.out _ hb;omega))
 refine hcon.mono ?_
 rintro e w' ⟨rfl,hto⟩
 have Hto:=Lib.hid (zbC.pre hx hto)
 clear hto hcon q1 q2 q3 q4 q5 l1 l2 l3
 go_wp2_with fail
 go_ret
 exact ⟨rfl,Hto.out⟩
end
section
open Go.RowKit Go.Sort
def zbP (room:Int):DiskS:=⟨[],room,0,-1,0⟩
theorem newDisk_ok {room:Int}(h0:0≤room) (h1:room≤1073741824):(zbP room).Ok :=
 ⟨h0,h1,Int.le_refl _,h0,by simp [zbP],by simp [zbP],Int.le_refl _,by simp [zbP],by simp [zbP],by simp [zbP],by simp [zbP]⟩
theorem disk_new {room:Int}(h0:0≤room) (h1:room≤1073741824) (w:World) :
 Calls Tryz.prog 9 #[.int .i64 room] w fun e w'=>e=.returned (.tuple #[.pointer (some ⟨w.heap.size+1,0,none⟩),.int .i64 0])∧zbj w' (w.heap.size+1) (zbP room) [w.heap.size+1,w.heap.size]∧Ext w w':=by
 have hmm:=@run_makeMap Tryz.prog
 have g0:¬room<0:=by omega
 have g1:¬1073741824<room:=by omega
 go_enter Tryz.func9,Tryz.ntmps9
 go_wp2
 go_ret2
 refine ⟨by simp,⟨w.heap.size,[],⟨?_,?_,by simp,by simp [foot],by simp⟩,rfl,rfl⟩,((Ext.refl _).alloc _).alloc _⟩
 ·have:=heap_alloc_new (w.alloc (.map #[] 0)) (.cells #[.map (some w.heap.size),.int .i64 room,.int .i64 0,.int .i64 (-1),.int .i64 0] 94 (0,0))
  simpa [zbP] using this
 ·exact (MapIs.new w).ext ((Ext.refl _).alloc _)
def DiskS.cut (S:DiskS) (n:Int):DiskS:={ S with left:=max n (-1) }
theorem head_rep {w w2:World}{d mb:Nat}{E:List (ByteArray×FileX)}{room used left ops room2 used2 left2 ops2:Int}(h:DiskRep w d mb E room used left ops) (hc:Chg (·=d) w w2)
 (hh:w2.heap[d]?=some (.cells #[.map (some mb),.int .i64 room2,.int .i64 used2,.int .i64 left2,.int .i64 ops2] 94 (0,0))):DiskRep w2 d mb E room2 used2 left2 ops2:=by
 have hap:=h.apart
 simp only [foot,yaU,yaq,not_or] at hap
 refine ⟨hh,h.map.chg hc (Ne.symm hap.1.1),fun p hp=>(h.files p hp).chg hc (fun b hb e=>?_),h.apart,h.names⟩
 subst e
 exact hap.1.2 (List.mem_flatMap.2 ⟨p,hp,hb⟩)
theorem disk_cut {w:World}{d:Nat}{S:DiskS}{B:List Nat}(h:zbj w d S B) (n:Int) :
 Calls Tryz.prog 22 #[.pointer (some ⟨d,0,none⟩),.int .i64 n] w fun e w'=>e=.returned (.tuple #[])∧zbC w d B (S.cut n) w':=by
 obtain ⟨mb,E,h,hfs,rfl⟩:=h
 have c0:w.cell? ⟨d,0,none⟩=some (.map (some mb)):=by rw [zaa h.head];rfl
 have c3:w.cell? ⟨d,3,none⟩=some (.int .i64 S.left):=by rw [zaa h.head];rfl
 have f3:w.frozen? ⟨d,3,none⟩=false:=zan h.head 3
 have H:=Lib.hid h;clear h
 by_cases hn:n < -1
 ·have Hm:=Lib.hid (show S.cut n={ S with left:=-1 } by simp only [DiskS.cut];congr 1;omega)
  go_enter Tryz.func22,Tryz.ntmps22
  go_wp2_with (go_at_call 40;refine (zdk c0).mono ?_;rintro e w' ⟨rfl,rfl⟩)
  go_end0
  rw [Hm.out]
  exact ⟨rfl,foot d mb E,⟨mb,E,head_rep H.out (zaj _ _ _ _) (zaq H.out.head _),hfs,rfl⟩,(zaj _ _ _ _).mono (fun i hi e=>by rw [e];simp [foot]),fun b hb=>.inl hb⟩
 ·have Hm:=Lib.hid (show S.cut n={ S with left:=n } by simp only [DiskS.cut];congr 1;omega)
  go_enter Tryz.func22,Tryz.ntmps22
  go_wp2_with (go_at_call 40;refine (zdk c0).mono ?_;rintro e w' ⟨rfl,rfl⟩)
  go_end0
  rw [Hm.out]
  exact ⟨rfl,foot d mb E,⟨mb,E,head_rep H.out (zaj _ _ _ _) (zaq H.out.head _),hfs,rfl⟩,(zaj _ _ _ _).mono (fun i hi e=>by rw [e];simp [foot]),fun b hb=>.inl hb⟩
def NewBytes (w w':World) (v:Value) (l:List UInt8):Prop:=Row w' 5 1 v l.length (u8s l)∧(∀g,v.ownBlock=some g→w.heap.size≤g)∧Ext w w'
theorem zcH {w:World}{d:Nat}{S:DiskS}{B:List Nat}(h:zbj w d S B) (name:ByteArray) (hx:aget S.files name=none) :
 Calls Tryz.prog 14 #[.pointer (some ⟨d,0,none⟩),.string name] w fun e w'=>e=.returned (.tuple #[.slice none 0 0,.int .i64 13])∧w=w':=by
 obtain ⟨mb,E,h,hfs,rfl⟩:=h
 have c0:w.cell? ⟨d,0,none⟩=some (.map (some mb)):=by rw [zaa h.head];rfl
 have hz:∀w:World,(zeroValue 116).run Tryz.prog w=.ok (.pointer none) w:=fun _=>by kernel_rfl
 have hxE:aget E name=none:=by
  rw [←hfs,fs,zaL] at hx
  simpa using hx
 have hlk:(Instr.lookup 92 (.map (some mb)) (.string name) false).run Tryz.prog w=.ok (.pointer none) w:=by
  have:=h.map.lookup (P:=Tryz.prog) (zaz Tryz.underlying9) Tryz.underlying92 (.pointer none) (hz _) name false
  rw [ptrs,zaL,hxE] at this
  simpa only [Option.map_none,Option.getD_none,Bool.false_eq_true,if_false] using this
 clear hx hxE
 go_enter Tryz.func14,Tryz.ntmps14
 go_wp2_with (go_at_call 40;refine (zdk c0).mono ?_;rintro e w' ⟨rfl,rfl⟩)
 go_ret2
 exact ⟨rfl,rfl⟩
def ReadPost (w:World) (l:List UInt8) (e:Ending) (w':World):Prop:=∃v,e=.returned (.tuple #[v,.int .i64 0])∧NewBytes w w' v l
theorem zbW {w:World}{d:Nat}{S:DiskS}{B:List Nat}(ok:S.Ok) (h:zbj w d S B) (name:ByteArray) (f:FileS) (hx:aget S.files name=some f) :
 Calls Tryz.prog 14 #[.pointer (some ⟨d,0,none⟩),.string name] w (ReadPost w f.bytes):=by
 have hsm:f.bytes.length≤1048576:=ok.small _ (zaY hx)
 obtain ⟨mb,E,h,hfs,rfl⟩:=h
 have c0:w.cell? ⟨d,0,none⟩=some (.map (some mb)):=by rw [zaa h.head];rfl
 have hz:∀w:World,(zeroValue 116).run Tryz.prog w=.ok (.pointer none) w:=fun _=>by kernel_rfl
 obtain ⟨x,hxE,hxf⟩:∃x,aget E name=some x∧x.f=f:=by
  rw [←hfs,fs,zaL] at hx
  simpa using hx
 subst hxf
 have hlk:∀W,Ext w W→(Instr.lookup 92 (.map (some mb)) (.string name) false).run Tryz.prog W=.ok (.pointer (some ⟨x.fb,0,none⟩)) W:=by
  intro W hW
  have:=(h.ext hW).map.lookup (P:=Tryz.prog) (zaz Tryz.underlying9) Tryz.underlying92 (.pointer none) (hz _) name false
  rw [ptrs,zaL,hxE] at this
  simpa only [Option.map_some,Option.getD_some,Bool.false_eq_true,if_false] using this
 have hl0:=hlk w (Ext.refl _)
 have hl1:=fun o=>hlk (w.alloc o) ((Ext.refl _).alloc o)
 have hf:FileAt w x:=h.files (name,x) (zaY hxE)
 have f0:w.cell? ⟨x.fb,0,none⟩=some x.v:=by rw [zaa hf.head];rfl
 obtain ⟨xa,xc,hxv⟩:=hf.row.shape
 rw [hxv] at f0
 have n0:∀o,(w.alloc o).cell? ⟨d,0,none⟩=some (.map (some mb)):=fun o=>by rw [((Ext.refl w).alloc o).cell (p:=⟨d,0,none⟩) (zab h.head)];exact c0
 have n1:∀o,(w.alloc o).cell? ⟨x.fb,0,none⟩=some (.slice xa x.f.bytes.length xc):=fun o=>by rw [((Ext.refl w).alloc o).cell (p:=⟨x.fb,0,none⟩) (zab hf.head)];exact f0
 have Hf:=Lib.hid hf;have Hxv:=Lib.hid hxv
 clear hx hxE hlk hf hxv
 obtain ⟨i0,hi,hz0,hz1,hz2⟩:=info_parts info_u8
 have hemp:Row (w.alloc (.cells #[] 5)) 5 1 (.slice (some ⟨w.heap.size,0,none⟩) 0 0) 0 [] :=
  ⟨rfl,.inr ⟨w.heap.size,0,#[],rfl,Nat.zero_le _,heap_alloc_new w _,Nat.le_refl _,by unfold maxLen;omega,rfl,rfl⟩⟩
 obtain ⟨v',w3,happ,hrow3,hchg3,hloc⟩:=zdI (P:=Tryz.prog) (w.alloc (.cells #[] 5)) 51 51 5 i0 (.int .u8 0) 1 1 Tryz.underlying51 hi hz0 hz1 hz2 rfl (by decide) hemp ((Hf.out.row.src (zaH _)).ext ((Ext.refl _).alloc _)) (by unfold maxLen;omega) (by omega)
 rw [Hxv.out] at happ
 simp only [Nat.zero_add,yaP] at hrow3
 have hfin:ReadPost w x.f.bytes (.returned (.tuple #[v',.int .i64 0])) w3:=by
  refine ⟨v',rfl,hrow3,fun g hg=>?_,Chg.ext (S:=fun _=>False) ((Chg.of_ext ((Ext.refl w).alloc _)).trans hchg3 (fun i hi e=>by simp [Value.ownBlock] at e;omega)) (fun _ _=>id)⟩
  rcases hloc with e|e<;>rw [e] at hg<;>simp [Value.ownBlock] at hg<;>omega
 have Hfin:=Lib.hid hfin
 clear hfin hrow3 hchg3 hloc hemp hsm hz hi hz0 hz1 hz2
 go_enter Tryz.func14,Tryz.ntmps14
 go_wp2_with (first
  | (go_at_call 40;refine (zdk c0).mono ?_;rintro e w' ⟨rfl,rfl⟩)
  | (at_builtin;refine zbq rfl _ _ _ rfl _ _ _ w3 rfl rfl happ ?_))
 go_ret2
 exact Hfin.out
end
end Go.Proofs.YtlmfhjipbjkcbaaGreatDoor
