/- x -/
import Derived.Test.YtlmfhjipbjkcbaaGreatDoorLwc
import Derived.Lib.SlicesCompact
set_option maxHeartbeats 16000000
set_option maxRecDepth 100000
set_option linter.unusedSimpArgs false
set_option linter.unusedVariables false
namespace Go.Proofs.YtlmfhjipbjkcbaaGreatDoor
section
open Go.RowKit Go.Sort Go.Lib
theorem nameS_bl (c:UInt8) (n:Nat):bl (nameS c n)=c::digs 12 n:=rfl
theorem nameS_inj {c:UInt8}{i j:Nat}(hi:i<1000000000) (hj:j<1000000000) (h:nameS c i=nameS c j):i=j:=by
 have h1:=congrArg bl h
 rw [nameS_bl,nameS_bl] at h1
 have h2:=(List.cons.inj h1).2
 have h3:=numD_digs 12 i 0
 rw [h2,numD_digs 12 j 0] at h3
 have h4:=yaC h3
 rw [Nat.mod_eq_of_lt (by omega),Nat.mod_eq_of_lt (by omega)] at h4
 omega
theorem nameS_ok (c:UInt8) (n:Nat):nameB (nameS c n)=true:=by
 unfold nameB;rw [zdH];decide
theorem nameS_fM (n:Nat):nameS 115 n≠fM:=fun e=>by
 have h:=congrArg ByteArray.size e
 rw [zdH] at h
 simp [fM,ByteArray.size] at h
theorem nameS_fN (n:Nat):nameS 115 n≠fN:=fun e=>by
 have h:=congrArg ByteArray.size e
 rw [zdH] at h
 simp [fN,ByteArray.size] at h
theorem pre_r (n:Nat):Lib.hasPrefix (bl (nameS 115 n)) (bl fR)=false:=by
 rw [nameS_bl]
 show [114].isPrefixOf (115::digs 12 n)=false
 simp [List.isPrefixOf]
theorem pre_m:Lib.hasPrefix (bl fM) (bl fS)=false∧Lib.hasPrefix (bl fM) (bl fR)=false:=by
 constructor<;>rfl
theorem mem_list {S:DiskS}{p n:ByteArray}:n∈S.list p↔(aget S.files n).isSome=true∧Lib.hasPrefix (bl n) (bl p)=true:=by
 unfold DiskS.list
 rw [(zdC _).mem_iff]
 unfold DiskS.names
 rw [yaw,←zcm]
theorem write_ok {S:DiskS}{n:ByteArray}{b:List UInt8}(hn:nameB n=true) (hl:S.left<0) (hg:aget S.files n=none) (hroom:S.used+b.length≤S.room) (hfew:S.files.length<512) (hb:b.length≤1048576) :
 ∃S',zcE S n b=(0,S')∧OpOk S S' (updG (getS S) n (some ⟨b,b.length,true⟩)) b.length 1:=by
 obtain ⟨S1,e1,o1⟩:=append_new hn (by omega) hg hroom hfew hb
 have l1:S1.left=S.left:=by rw [o1.left,zdf hl]
 have g1:aget S1.files n=some ⟨b,0,false⟩:=by rw [o1.get];unfold updG;rw [if_pos rfl]
 obtain ⟨S2,e2,o2⟩:=sync_ok hn (by omega) g1
 refine ⟨S2,?_,⟨fun k=>?_,by rw [o2.room,o1.room],by rw [o2.left,l1],by have:=o1.used;have:=o2.used;omega,by have:=o1.len;have:=o2.len;omega⟩⟩
 ·unfold zcE
  rw [hg]
  unfold thenS
  simp only [Option.isSome_none,Bool.false_eq_true,if_false,if_true,e1,e2]
 ·rw [o2.get]
  unfold updG
  by_cases e:k=n
  ·rw [if_pos e,if_pos e]
  ·rw [if_neg e,if_neg e]
   show aget S1.files k=_
   rw [o1.get]
   unfold updG
   rw [if_neg e]
theorem nm_fN:nameB fN=true:=by decide
theorem nm_fM:nameB fM=true:=by decide
theorem save_ok {S:DiskS}{c:Nat}{s:Sta}(inv:DInv S c) (hl:S.left<0) (hg:aget S.files fN=none) (hr:staR s=true) (hm:s.km.ok) (hroom:S.used+60100≤S.room) (hfew:S.files.length<512) :
 ∃S',saveS S s=(0,S')∧OpOk S S' (updG (getS S) fM (some ⟨sealL 7 (staP s),(sealL 7 (staP s)).length,true⟩)) 60100 1:=by
 have hsl:(sealL 7 (staP s)).length≤60100:=by
  have:=staP_len hr hm
  rw [zaF];omega
 obtain ⟨S1,e1,o1⟩:=append_new (b:=sealL 7 (staP s)) nm_fN (by omega) hg (by omega) hfew (by omega)
 have i1:DInv S1 (c+1):=by have h:=inv.append fN (sealL 7 (staP s));rw [e1] at h;exact h
 have l1:S1.left=S.left:=by rw [o1.left,zdf hl]
 have g1:aget S1.files fN=some ⟨sealL 7 (staP s),0,false⟩:=by rw [o1.get];unfold updG;rw [if_pos rfl]
 obtain ⟨S2,e2,o2⟩:=sync_ok nm_fN (by omega) g1
 have i2:DInv S2 (c+2):=by have h:=i1.sync fN;rw [e2] at h;exact h
 have l2:S2.left=S.left:=by rw [o2.left,zdf (by omega),l1]
 have g2:aget S2.files fN=some ⟨sealL 7 (staP s),(sealL 7 (staP s)).length,true⟩:=by rw [o2.get];unfold updG;rw [if_pos rfl]
 obtain ⟨S3,e3,o3⟩:=rename_ok i2.ok.names nm_fN nm_fM fN_ne (by omega) g2
 refine ⟨S3,?_,⟨fun k=>?_,by rw [o3.room,o2.room,o1.room],by rw [o3.left,zdf (by omega),l2,zdf hl],by have:=o1.used;have:=o2.used;have:=o3.used;omega,by have:=o1.len;have:=o2.len;have:=o3.len;omega⟩⟩
 ·unfold saveS saveA
  rw [if_pos hr,hg]
  unfold thenS
  simp only [Option.isSome_none,Bool.false_eq_true,if_false,if_true,e1,e2,e3]
 ·rw [o3.get]
  unfold updG
  by_cases e:k=fM
  ·rw [if_pos e,if_pos e]
  ·rw [if_neg e,if_neg e]
   by_cases e':k=fN
   ·rw [if_pos e',e'];exact hg.symm
   ·rw [if_neg e']
    show aget S2.files k=_
    rw [o2.get]
    unfold updG
    rw [if_neg e']
    show aget S1.files k=_
    rw [o1.get]
    unfold updG
    rw [if_neg e']
theorem le_sum_mem:∀{l:List Nat}{x:Nat},x∈l→x≤l.sum
 | y::l,x,h=>by
  rw [yaE]
  rcases yao.1 h with e|e
  ·omega
  ·have:=le_sum_mem e;omega
theorem span_items {Q:List Prt}(h:PrtsOk Q):-1152921504606846976≤loS (zav Q)∧loS (zav Q)≤hiS (zav Q)∧hiS (zav Q)≤1152921504606846976∧0<cntL (zav Q)∧cntL (zav Q)≤1024:=by
 have hm:=minOf_fold (zav Q)
 have hs:=h.seg
 obtain ⟨x,hx⟩:∃x,x∈zav Q:=List.exists_mem_of_length_pos hs.pos
 have h1:=hm.l1 x hx trivial
 have h2:=hm.h1 x hx trivial
 have hxo:=hs.ok x hx
 have e1:=hxo.l1
 have hlo:-1152921504606846976≤loS (zav Q):=by
  rcases hm.l2 with e|⟨y,hy,e⟩
  ·omega
  ·have:=(hs.ok y hy).l0;omega
 have hhi:hiS (zav Q)≤1152921504606846976:=by
  rcases hm.h2 with e|⟨y,hy,e⟩
  ·omega
  ·have:=(hs.ok y hy).l2;omega
 have hc:cntL (zav Q)=manyP Q:=by
  unfold cntL zav manyP
  rw [List.map_map];rfl
 refine ⟨hlo,?_,hhi,?_,by rw [hc];exact h.many⟩
 ·omega
 ·have hx0:=hxo.n0
  have:x.n≤cntL (zav Q):=by
   unfold cntL
   exact le_sum_mem (yav hx)
  omega
theorem flR_file {Q:List Prt}(h:PrtsOk Q) (n:Nat):flR (zcj (nameS 115 n) Q)=true:=by
 obtain ⟨h1,h2,h3,h4,h5⟩:=span_items h
 have e:nmB (nameS 115 n)=true:=by unfold nmB;rw [zdH];decide
 have t1:tmB (loS (zav Q))=true:=by unfold tmB;rw [decide_eq_true (by omega),decide_eq_true (by omega)];rfl
 have t2:tmB (hiS (zav Q))=true:=by unfold tmB;rw [decide_eq_true (by omega),decide_eq_true (by omega)];rfl
 have t3:z60 (cntL (zav Q):Int)=true:=by unfold z60 inB;rw [decide_eq_true (by omega),decide_eq_true (by omega)];rfl
 unfold flR zcj
 simp only [e,t1,t2,t3]
 rw [decide_eq_true h2,decide_eq_true (by omega)]
 rfl
abbrev Gs:=List (Nat×List Prt)
def flsOf (G:Gs):List Fl:=G.map fun g=>zcj (nameS 115 g.1) g.2
def km5:Mk:=⟨false,0,5⟩
theorem staR_of {G:Gs}{x r q:Int}(hG:∀g∈G,PrtsOk g.2) (hl:G.length≤512) (hx:0≤x∧x≤1000000) (hr:0≤r∧r≤1000000) (hq:0≤q∧q≤1000000):staR ⟨x,r,q,km5,flsOf G,[]⟩=true:=by
 have h1:(flsOf G).all flR=true:=by
  rw [yaQ]
  intro f hf
  obtain ⟨g,hg,rfl⟩:=yan.1 hf
  exact flR_file (hG g hg) _
 have h2:(flsOf G).length≤512:=by unfold flsOf;rw [yau];exact hl
 have h3:mkR km5=true:=by decide
 have z:∀y:Int,0≤y∧y≤1000000→z60 y=true:=fun y hy=>by unfold z60 inB;rw [decide_eq_true (by omega),decide_eq_true (by omega)];rfl
 unfold staR staB
 simp only [h1,h3,z x hx,z r hr,z q hq]
 rw [decide_eq_true h2]
 rfl
theorem km5_ok:km5.ok:=⟨by decide,by decide,by decide,by decide⟩
def ownSt:Sta:=⟨0,0,0,km5,[],[]⟩
theorem newDisk_invS {room:Int}(h0:0≤room) (h1:room≤1073741824):DInv (zbZ room) 0:=⟨newDisk_ok h0 h1,Int.le_refl _,by simp [zbZ],by simp [zbZ,sumF]⟩
def totG (G:Gs):Nat:=(G.map fun g=>manyP g.2).sum
structure StI (S:DiskS) (s:Sta) (G:Gs) (X c:Nat):Prop where
 st:s=⟨(X:Int),s.r,s.q,km5,flsOf G,[]⟩
 rq:0≤s.r∧s.r≤1000∧s.q=s.r
 num:(G.map Prod.fst).Nodup∧(∀g∈G,g.1<X)∧X≤1000
 ok:∀g∈G,PrtsOk g.2∧∀q∈g.2,∀p∈q.2,-9223372036854775808≤p.v∧p.v≤9223372036854775807
 inv:DInv S c
 left:S.left<0
 room:S.room=16777216
 file:∀g∈G,∃f,aget S.files (nameS 115 g.1)=some f∧f.bytes=segB g.2
 man:(∃f,aget S.files fM=some f∧f.bytes=sealL 7 (staP s))∨(aget S.files fM=none∧s=ownSt)
 keys:∀n,(aget S.files n).isSome=true→n=fM∨∃g∈G,n=nameS 115 g.1
 few:G.length≤30
 tot:totG G≤600
theorem StI.x {S:DiskS}{s:Sta}{G:Gs}{X c:Nat}(h:StI S s G X c):s.x=(X:Int):=by rw [h.st]
theorem StI.fl {S:DiskS}{s:Sta}{G:Gs}{X c:Nat}(h:StI S s G X c):s.fl=flsOf G:=by rw [h.st]
theorem StI.ti {S:DiskS}{s:Sta}{G:Gs}{X c:Nat}(h:StI S s G X c):s.ti=[]:=by rw [h.st]
theorem StI.km {S:DiskS}{s:Sta}{G:Gs}{X c:Nat}(h:StI S s G X c):s.km=km5:=by rw [h.st]
theorem StI.r {S:DiskS}{s:Sta}{G:Gs}{X c:Nat}(h:StI S s G X c):staR s=true:=by
 have h1:=h.rq
 have h2:=h.num.2.2
 have h3:=h.few
 rw [h.st]
 exact staR_of (fun g hg=>(h.ok g hg).1) (by omega) (by omega) (by omega) (by omega)
theorem StI.kmok {S:DiskS}{s:Sta}{G:Gs}{X c:Nat}(h:StI S s G X c):s.km.ok:=by rw [h.km];exact km5_ok
theorem StI.seal {S:DiskS}{s:Sta}{G:Gs}{X c:Nat}(h:StI S s G X c):(sealL 7 (staP s)).length≤60100:=by
 have:=staP_len h.r h.kmok
 rw [zaF];omega
theorem StI.len {S:DiskS}{s:Sta}{G:Gs}{X c:Nat}(h:StI S s G X c):S.files.length≤31:=by
 have h1:=nodup_le h.inv.ok.names (b:=fM::G.map fun g=>nameS 115 g.1) (fun n hn=>by
  rcases h.keys n (zcm.2 hn) with e|⟨g,hg,e⟩
  ·rw [e];simp
  ·rw [e];exact yaB _ (yav (f:=fun g:Nat×List Prt=>nameS 115 g.1) hg))
 have:=h.few
 simp at h1
 omega
theorem sum_le_mul {l:List Nat}{k:Nat}(h:∀x∈l,x≤k):l.sum≤l.length*k:=by
 induction l with
 | nil=>simp
 | cons x l ih =>
  have h1:=ih (fun y hy=>h y (by simp [hy]))
  have h2:=h x (by simp)
  rw [yaE,List.length_cons,Nat.succ_mul];omega
theorem StI.used {S:DiskS}{s:Sta}{G:Gs}{X c:Nat}(h:StI S s G X c):S.used≤5177000:=by
 rw [h.inv.sum]
 have h1:sumF S.files≤S.files.length*167000:=by
  unfold sumF
  have:=sum_le_mul (l:=S.files.map fun p=>p.2.bytes.length) (k:=167000) (fun x hx=>by
   obtain ⟨p,hp,rfl⟩:=yan.1 hx
   have hg:=aget_of_mem h.inv.ok.names (k:=p.1) (v:=p.2) hp
   rcases h.keys p.1 (by rw [hg];rfl) with e|⟨g,hgG,e⟩
   ·rcases h.man with ⟨f,hf,hb⟩|⟨hn,_⟩
    ·rw [←e,hg] at hf
     cases hf
     rw [hb]
     have:=h.seal;omega
    ·rw [←e,hg] at hn;cases hn
   ·obtain ⟨f,hf,hb⟩:=h.file g hgG
    rw [←e,hg] at hf
    cases hf
    rw [hb]
    exact segB_len (h.ok g hgG).1)
  rwa [yau] at this
 have h2:=h.len
 have h3:S.files.length*167000≤31*167000:=Nat.mul_le_mul_right _ h2
 omega
theorem StI.noN {S:DiskS}{s:Sta}{G:Gs}{X c:Nat}(h:StI S s G X c):aget S.files fN=none:=by
 cases hg:aget S.files fN with
 | none=>rfl
 | some f =>
  rcases h.keys fN (by rw [hg];rfl) with e|⟨g,_,e⟩
  ·exact absurd e fN_ne
  ·exact absurd e.symm (nameS_fN _)
theorem StI.noX {S:DiskS}{s:Sta}{G:Gs}{X c k:Nat}(h:StI S s G X c) (hk:X≤k) (hk2:k<1000000):aget S.files (nameS 115 k)=none:=by
 cases hg:aget S.files (nameS 115 k) with
 | none=>rfl
 | some f =>
  rcases h.keys _ (by rw [hg];rfl) with e|⟨g,hgG,e⟩
  ·exact absurd e (nameS_fM _)
  ·have h1:=h.num.2.1 g hgG
   have h2:=h.num.2.2
   have:=nameS_inj (by omega) (by omega) e
   omega
theorem StI.load {S:DiskS}{s:Sta}{G:Gs}{X c:Nat}(h:StI S s G X c):(aget S.files fM).isSome=true→loadS S=(s,true,0):=by
 intro hs
 rcases h.man with ⟨f,hf,hb⟩|⟨hn,_⟩
 ·unfold loadS
  rw [hf]
  show loadO (staRd f.bytes)=_
  rw [hb,staRd_seal h.r h.kmok (by have:=staP_len h.r h.kmok;omega)]
  rfl
 ·rw [hn] at hs;simp at hs
theorem names_flsOf (G:Gs) (x r q:Int) (m:Mk):zcI ⟨x,r,q,m,flsOf G,[]⟩=G.map fun g=>nameS 115 g.1:=by
 unfold zcI madeN flsOf
 simp [zcj,Function.comp_def]
theorem StI.names {S:DiskS}{s:Sta}{G:Gs}{X c:Nat}(h:StI S s G X c):zcI s=G.map fun g=>nameS 115 g.1:=by rw [h.st];exact names_flsOf G _ _ _ _
theorem StI.listR {S:DiskS}{s:Sta}{G:Gs}{X c:Nat}(h:StI S s G X c):S.list fR=[]:=by
 cases hl:S.list fR with
 | nil=>rfl
 | cons f L =>
  have hm:f∈S.list fR:=by rw [hl];simp
  obtain ⟨h1,h2⟩:=mem_list.1 hm
  rcases h.keys f h1 with e|⟨g,_,e⟩
  ·rw [e,pre_m.2] at h2;cases h2
  ·rw [e,pre_r] at h2;cases h2
theorem StI.listS {S:DiskS}{s:Sta}{G:Gs}{X c:Nat}(h:StI S s G X c) {f:ByteArray}(hf:f∈S.list fS):∃g∈G,f=nameS 115 g.1:=by
 obtain ⟨h1,h2⟩:=mem_list.1 hf
 rcases h.keys f h1 with e|h
 ·rw [e,pre_m.1] at h2;cases h2
 ·exact h
theorem zdu {N:List ByteArray}:∀{L:List ByteArray}(S:DiskS),(∀f∈L,f∈N)→zcT N L S=(0,S)
 | [],S,_=>rfl
 | f::L,S,h=>by rw [zcT,if_pos (h f (by simp)),zdu S (fun g hg=>h g (by simp [hg]))]
theorem StI.tidy {S:DiskS}{s:Sta}{G:Gs}{X c:Nat}(h:StI S s G X c):tidyS S s=(0,S):=by
 unfold tidyS
 refine zdu S (fun f hf=>?_)
 rw [h.names]
 unfold tidyL at hf
 rw [h.listR,yaK] at hf
 obtain ⟨g,hg,rfl⟩:=h.listS hf
 exact yav (f:=fun g:Nat×List Prt=>nameS 115 g.1) hg
theorem StI.rest {S:DiskS}{s:Sta}{G:Gs}{X c:Nat}(h:StI S s G X c):restK S s=(0,s):=by
 unfold restK
 rw [if_pos]
 rw [yaQ]
 intro n hn
 rw [h.names] at hn
 obtain ⟨g,hg,rfl⟩:=yan.1 hn
 obtain ⟨f,hf,_⟩:=h.file g hg
 rw [hf];rfl
theorem alike_own {G:Gs}{x r q:Int}:alikeB ownSt ⟨x,r,q,km5,flsOf G,[]⟩=true:=rfl
theorem StI.open {S:DiskS}{s:Sta}{G:Gs}{X c:Nat}(h:StI S s G X c):stoK S ownSt (alikeB ownSt)=(0,s):=by
 unfold stoK
 rcases h.man with ⟨f,hf,_⟩|⟨hn,hs⟩
 ·have hl:=h.load (by rw [hf];rfl)
  rw [hl]
  simp only [ne_eq,not_true,if_false,if_true]
  rw [if_pos (by rw [h.st];exact alike_own)]
  exact h.rest
 ·have hl:loadS S=(staZ,false,0):=by unfold loadS;rw [hn]
  rw [hl]
  simp only [ne_eq,not_true,if_false]
  rw [if_neg (by simp),←hs]
  exact h.rest
theorem start_I:StI (zbZ 16777216) ownSt [] 0 0 where
 st:=rfl
 rq:=⟨by decide,by decide,rfl⟩
 num:=⟨by simp,by simp,by omega⟩
 ok:=by simp
 inv:=newDisk_invS (by decide) (by decide)
 left:=by show (-1:Int)<0;decide
 room:=rfl
 file:=by simp
 man:=.inr ⟨rfl,rfl⟩
 keys:=fun n hn=>by simp [zbZ,aget] at hn
 few:=by simp
 tot:=by simp [totG]
theorem flsOf_snoc (G:Gs) (n:Nat) (Q:List Prt):flsOf (G++[(n,Q)])=flsOf G++[zcj (nameS 115 n) Q]:=by simp [flsOf]
theorem totG_snoc (G:Gs) (n:Nat) (Q:List Prt):totG (G++[(n,Q)])=totG G+manyP Q:=by simp [totG]
theorem StI.flush_eq {S:DiskS}{s:Sta}{G:Gs}{X c:Nat}(h:StI S s G X c) (i:Int) (Q:List Prt):flushSt s X i i km5 Q=⟨((X+1:Nat):Int),i,i,km5,flsOf (G++[(X,Q)]),[]⟩:=by
 unfold flushSt
 rw [flsOf_snoc,h.fl,h.ti]
 simp
theorem put_file {S:DiskS}{s:Sta}{G:Gs}{X c:Nat}(h:StI S s G X c) {Q:List Prt}(hQ:PrtsOk Q) (hX:X<1000) {s':Sta}(hr:staR s'=true) (hm:s'.km.ok) :
 ∃S1 S2,zcE S (nameS 115 X) (segB Q)=(0,S1)∧saveS S1 s'=(0,S2)∧DInv S2 (c+7)∧S2.left<0∧S2.room=16777216 ∧
  ∀k,aget S2.files k=if k=fM then some ⟨sealL 7 (staP s'),(sealL 7 (staP s')).length,true⟩ else if k=nameS 115 X then some ⟨segB Q,(segB Q).length,true⟩ else aget S.files k:=by
 have hu:=h.used
 have hl:=h.len
 have hb:=segB_len hQ
 have hrm:=h.room
 have hlf:=h.left
 obtain ⟨S1,e1,o1⟩:=write_ok (nameS_ok 115 X) h.left (h.noX (Nat.le_refl _) (by omega)) (b:=segB Q) (by omega) (by omega) (by omega)
 have i1:DInv S1 (c+3):=by have h:=h.inv.write (nameS 115 X) (segB Q);rw [e1] at h;exact h
 have l1:S1.left=S.left:=by rw [o1.left,zdf hlf]
 have n1:aget S1.files fN=none:=by
  rw [o1.get];unfold updG
  rw [if_neg (fun e=>nameS_fN X e.symm)]
  exact h.noN
 obtain ⟨S2,e2,o2⟩:=save_ok i1 (by omega) n1 hr hm (by have:=o1.used;have:=o1.room;omega) (by have:=o1.len;omega)
 have i2:DInv S2 (c+7):=by have h:=i1.save s';rw [e2] at h;exact h
 refine ⟨S1,S2,e1,e2,i2,by rw [o2.left,zdf (by omega)];omega,by rw [o2.room,o1.room];exact hrm,fun k=>?_⟩
 rw [o2.get]
 unfold updG
 by_cases e:k=fM
 ·rw [if_pos e,if_pos e]
 ·rw [if_neg e,if_neg e]
  show aget S1.files k=_
  rw [o1.get]
  unfold updG
  by_cases e':k=nameS 115 X
  ·rw [if_pos e']
  ·rw [if_neg e']
theorem step_flush {S:DiskS}{s:Sta}{G:Gs}{X c:Nat}(h:StI S s G X c) {Q:List Prt}(hQ:PrtsOk Q) (hv:∀q∈Q,∀p∈q.2,-9223372036854775808≤p.v∧p.v≤9223372036854775807) {i:Int}(hi:s.r≤i∧i≤1000) (hG:G.length<30) (hX:X<1000) (ht:totG G+manyP Q≤600) :
 ∃S1 S2,zcE S (nameS 115 X) (segB Q)=(0,S1)∧saveS S1 (flushSt s X i i km5 Q)=(0,S2)∧StI S2 (flushSt s X i i km5 Q) (G++[(X,Q)]) (X+1) (c+7):=by
 have h0:=h.rq
 have hok:∀g∈G++[(X,Q)],PrtsOk g.2∧∀q∈g.2,∀p∈q.2,-9223372036854775808≤p.v∧p.v≤9223372036854775807:=fun g hg=>by
  rcases yag.1 hg with e|e
  ·exact h.ok g e
  ·obtain rfl:=yaj.1 e
   exact ⟨hQ,hv⟩
 have hr:staR (flushSt s X i i km5 Q)=true:=by
  rw [h.flush_eq]
  exact staR_of (fun g hg=>(hok g hg).1) (by simp;omega) (by omega) (by omega) (by omega)
 obtain ⟨S1,S2,e1,e2,i2,l2,r2,g2⟩:=put_file h hQ hX hr (by rw [h.flush_eq];exact km5_ok)
 have hne:∀g∈G,nameS 115 g.1≠nameS 115 X:=fun g hg e=>by
  have h1:=h.num.2.1 g hg
  have h2:=h.num.2.2
  have:=nameS_inj (by omega) (by omega) e
  omega
 refine ⟨S1,S2,e1,e2,?_⟩
 refine { st:=h.flush_eq i Q,rq:=⟨by show 0≤i;omega,hi.2,rfl⟩,num:=⟨?_,fun g hg=>?_,by omega⟩,ok:=hok,inv:=i2,left:=l2,room:=r2,file:=fun g hg=>?_,man:=.inl ⟨_,by rw [g2,if_pos rfl],rfl⟩,keys:=fun k hk=>?_,few:=by simp;omega,tot:=by rw [totG_snoc];exact ht }
 ·rw [yat,List.nodup_append]
  refine ⟨h.num.1,by simp,fun a ha b hb e=>?_⟩
  obtain ⟨g,hg,rfl⟩:=yan.1 ha
  have:b=X:=by simpa using hb
  have:=h.num.2.1 g hg
  omega
 ·rcases yag.1 hg with e|e
  ·have:=h.num.2.1 g e;omega
  ·obtain rfl:=yaj.1 e
   exact Nat.lt_succ_self X
 ·rcases yag.1 hg with e|e
  ·rw [g2,if_neg (nameS_fM _),if_neg (hne g e)]
   exact h.file g e
  ·obtain rfl:=yaj.1 e
   exact ⟨_,by rw [g2,if_neg (nameS_fM _),if_pos rfl],rfl⟩
 ·rw [g2] at hk
  by_cases e:k=fM
  ·exact .inl e
  ·rw [if_neg e] at hk
   by_cases e':k=nameS 115 X
   ·exact .inr ⟨(X,Q),by simp,e'⟩
   ·rw [if_neg e'] at hk
    rcases h.keys k hk with h1|⟨g,hg,h1⟩
    ·exact .inl h1
    ·exact .inr ⟨g,by simp [hg],h1⟩
def ofN:List Prt→ByteArray→List Pt
 | [],_=>[]
 | q::Q,n=>if q.1=n then q.2 else ofN Q n
theorem ofN_out:∀{Q:List Prt}{n:ByteArray},n∉Q.map Prod.fst→ofN Q n=[]
 | [],_,_=>rfl
 | q::Q,n,h=>by
  rw [ofN,if_neg (fun e=>h (by simp [e])),ofN_out (fun e=>h (by simp at e ⊢;exact .inr e))]
theorem ofN_at:∀{Q:List Prt}{n:ByteArray},n∈Q.map Prod.fst→∃(i:Nat) (q:Prt),Q[i]?=some q∧q.1=n∧ofN Q n=q.2
 | [],n,h=>by simp at h
 | q::Q,n,h=>by
  by_cases e:q.1=n
  ·exact ⟨0,q,rfl,e,by rw [ofN,if_pos e]⟩
  ·obtain ⟨i,r,h1,h2,h3⟩:=ofN_at (Q:=Q) (n:=n) (by
    rw [yaF,yao] at h
    exact h.resolve_left (fun x=>e x.symm))
   exact ⟨i+1,r,by simpa using h1,h2,by rw [ofN,if_neg e,h3]⟩
def VOk (l:List Pt):Prop:=∀p∈l,-9223372036854775808≤p.v∧p.v≤9223372036854775807
theorem hasP_of {Q:List Prt}(h:PrtsOk Q) (hv:∀q∈Q,VOk q.2) (n:ByteArray):HasP (zav Q) n (ofN Q n):=by
 rcases Classical.em (n∈Q.map Prod.fst) with hn|hn
 ·obtain ⟨i,q,h1,h2,h3⟩:=ofN_at hn
  have hm:=yaf h1
  rw [h3]
  exact .inr ⟨i,zcg q,by unfold zav;rw [yap,h1];rfl,h2,⟨rfl,rfl,rfl,rfl,h.col q hm,hv q hm⟩⟩
 ·exact .inl ⟨by rw [namesI_of];exact hn,ofN_out hn⟩
theorem sum_ite {N:List ByteArray}(h:N.Nodup) (m:ByteArray) (c:Nat):(N.map fun n=>if m=n then c else 0).sum≤c:=by
 induction N with
 | nil=>simp
 | cons n N ih =>
  obtain ⟨h1,h2⟩:=yaP.1 h
  rw [yaF,yaE]
  by_cases e:m=n
  ·rw [if_pos e]
   have:(N.map fun n=>if m=n then c else 0).sum=0:=by
    have:∀(M:List ByteArray),m∉M→(M.map fun n=>if m=n then c else 0).sum=0:=by
     intro M
     induction M with
     | nil=>simp
     | cons x M ih =>
      intro hx
      rw [yaF,yaE,if_neg (fun e=>hx (by simp [e])),ih (fun e=>hx (by simp [e]))]
    exact this N (by rw [e];exact h1)
   omega
  ·rw [if_neg e]
   have:=ih h2
   omega
theorem sum_add (N:List ByteArray) (f g:ByteArray→Nat):(N.map fun n=>f n+g n).sum=(N.map f).sum+(N.map g).sum:=by
 induction N with
 | nil=>rfl
 | cons n N ih=>simp only [yaF,yaE,ih];omega
theorem sum_le {N:List ByteArray}{f g:ByteArray→Nat}(h:∀n∈N,f n≤g n):(N.map f).sum≤(N.map g).sum:=by
 induction N with
 | nil=>simp
 | cons n N ih =>
  have h1:=h n (by simp)
  have h2:=ih (fun m hm=>h m (by simp [hm]))
  simp only [yaF,yaE];omega
theorem ofN_sum {N:List ByteArray}(h:N.Nodup):∀(Q:List Prt),(N.map fun n=>(ofN Q n).length).sum≤manyP Q
 | []=>by
  have:(N.map fun n=>(ofN [] n).length)=N.map fun _=>0:=rfl
  rw [this]
  clear h this
  induction N with
  | nil=>simp
  | cons n N ih=>simp only [yaF,yaE];omega
 | q::Q=>by
  have e:manyP (q::Q)=q.2.length+manyP Q:=by simp [manyP]
  have h1:=ofN_sum h Q
  have h2:=sum_ite h q.1 q.2.length
  have h3:(N.map fun n=>(ofN (q::Q) n).length).sum≤(N.map fun n=>(if q.1=n then q.2.length else 0)+(ofN Q n).length).sum:=sum_le (fun n _=>by
   rw [ofN]
   split<;>omega)
  rw [sum_add] at h3
  omega
def holdG (G:Gs) (n:ByteArray):List (List Pt):=G.map fun g=>ofN g.2 n
theorem holdG_sum {N:List ByteArray}(h:N.Nodup):∀(G:Gs),(N.map fun n=>((holdG G n).map List.length).sum).sum≤totG G
 | []=>by
  have:(N.map fun n=>((holdG [] n).map List.length).sum)=N.map fun _=>0:=rfl
  rw [this]
  clear h this
  induction N with
  | nil=>simp
  | cons n N ih=>simp only [yaF,yaE];omega
 | g::G=>by
  have e:totG (g::G)=manyP g.2+totG G:=by simp [totG]
  have h1:=holdG_sum h G
  have h2:=ofN_sum h g.2
  have h3:(N.map fun n=>((holdG (g::G) n).map List.length).sum)=N.map fun n=>(ofN g.2 n).length+((holdG G n).map List.length).sum:=by
   refine List.map_congr_left fun n _=>?_
   simp [holdG]
  rw [h3,sum_add]
  omega
theorem holdG_one (G:Gs) (n:ByteArray):((holdG G n).map List.length).sum≤totG G:=by
 have:=holdG_sum (N:=[n]) (by simp) G
 simpa using this
theorem holdG_at {G:Gs}{n:ByteArray}{l:List Pt}(h:l∈holdG G n):∃g∈G,l=ofN g.2 n:=by
 obtain ⟨g,hg,rfl⟩:=yan.1 h
 exact ⟨g,hg,rfl⟩
def OkG (G:Gs):Prop:=∀g∈G,PrtsOk g.2∧∀q∈g.2,VOk q.2
theorem holdG_rises {G:Gs}(h:OkG G) (n:ByteArray):∀l∈holdG G n,Rises l:=fun l hl=>by
 obtain ⟨g,hg,rfl⟩:=holdG_at hl
 exact (hasP_of (h g hg).1 (h g hg).2 n).rises
theorem StI.okG {S:DiskS}{s:Sta}{G:Gs}{X c:Nat}(h:StI S s G X c):OkG G:=h.ok
theorem StI.onDisk {S:DiskS}{s:Sta}{G:Gs}{X c:Nat}(h:StI S s G X c) {k:Nat}{F:Fl}(hF:s.fl[k]?=some F):∃g,G[k]?=some g∧F=zcj (nameS 115 g.1) g.2∧g∈G∧OnDisk S F (zav g.2):=by
 rw [h.fl] at hF
 unfold flsOf at hF
 rw [yap] at hF
 cases hg:G[k]? with
 | none=>rw [hg] at hF;cases hF
 | some g =>
  rw [hg] at hF
  have e:F=zcj (nameS 115 g.1) g.2:=(yaC hF).symm
  have hm:=yaf hg
  subst e
  exact ⟨g,rfl,rfl,hm,⟨h.file g hm,(h.ok g hm).1.seg,rfl,rfl,rfl⟩⟩
theorem StI.flLen {S:DiskS}{s:Sta}{G:Gs}{X c:Nat}(h:StI S s G X c):s.fl.length=G.length:=by rw [h.fl];simp [flsOf]
theorem StI.holdP {S:DiskS}{s:Sta}{G:Gs}{X c:Nat}(h:StI S s G X c) (n:ByteArray):HoldP S s.fl n (holdG G n):=by
 refine ⟨by rw [h.flLen];simp [holdG],fun k F l hF hl=>?_⟩
 obtain ⟨g,hg,_,hm,ho⟩:=h.onDisk hF
 unfold holdG at hl
 rw [yap,hg] at hl
 have e:l=ofN g.2 n:=(yaC hl).symm
 subst e
 exact ⟨_,ho,hasP_of (h.ok g hm).1 (h.ok g hm).2 n⟩
theorem StI.holdFew {S:DiskS}{s:Sta}{G:Gs}{X c:Nat}(h:StI S s G X c) (n:ByteArray):(holdG G n).length+((holdG G n).map List.length).sum<4000:=by
 have h1:=holdG_one G n
 have h2:=h.tot
 have h3:=h.few
 have h4:(holdG G n).length=G.length:=by simp [holdG]
 omega
theorem modH_snoc (F:List PaM) (q:PaM) (n:ByteArray):modH (F++[q]) n=modH F n++[if q.nm=n then q.l else []]:=by simp [modH]
theorem holdG_snoc (G:Gs) (X:Nat) (Q:List Prt) (n:ByteArray):holdG (G++[(X,Q)]) n=holdG G n++[ofN Q n]:=by simp [holdG]
theorem modH_sum (F:List PaM) (n:ByteArray):((modH F n).map List.length).sum≤(F.map fun q=>q.l.length).sum:=by
 induction F with
 | nil=>simp [modH]
 | cons q F ih =>
  unfold modH at ih ⊢
  simp only [yaF,yaE]
  split
  ·omega
  ·simp only [List.length_nil];omega
theorem modH_rises {F:List PaM}(h:∀q∈F,Rises q.l) (n:ByteArray):∀l∈modH F n,Rises l:=fun l hl=>by
 obtain ⟨q,hq,rfl⟩:=yan.1 hl
 split
 ·exact h q hq
 ·exact Rises.nil
structure ModI (G:Gs) (F:List PaM):Prop where
 eqv:∀n,EqvL (holdG G n) (modH F n)
 col:∀q∈F,colV q.l=true
 few:F.length≤25
 sum:(F.map fun q=>q.l.length).sum≤600
theorem ModI.rises {G:Gs}{F:List PaM}(h:ModI G F):∀q∈F,Rises q.l:=fun q hq=>colV_rises (h.col q hq)
theorem ModI.start:ModI [] []:=⟨fun _=>EqvL.refl _,by simp,by simp,by simp⟩
theorem ModI.add {G:Gs}{F:List PaM}(h:ModI G F) (hG:OkG G) (X:Nat) {q:PaM}(hc:colV q.l=true) (h1:F.length<25) (h2:(F.map fun q=>q.l.length).sum+q.l.length≤600):ModI (G++[(X,[(q.nm,q.l)])]) (F++[q]):=by
 refine ⟨fun n=>?_,fun r hr=>?_,by simp;omega,by simp;omega⟩
 ·rw [holdG_snoc,modH_snoc]
  have e:ofN [(q.nm,q.l)] n=if q.nm=n then q.l else []:=by rw [ofN,ofN]
  rw [e]
  refine (h.eqv n).append (holdG_rises hG n) (modH_rises h.rises n) (fun l hl=>?_)
  rw [yaj.1 hl]
  split
  ·exact colV_rises hc
  ·exact Rises.nil
 ·rcases yag.1 hr with hr|hr
  ·exact h.col r hr
  ·rw [yaj.1 hr];exact hc
theorem ModI.few2 {G:Gs}{F:List PaM}(h:ModI G F) (n:ByteArray):F.length+((modH F n).map List.length).sum<4000:=by
 have h1:=h.few
 have h2:=h.sum
 have h3:=modH_sum F n
 omega
def blksV (v:StoV):List Nat:=(if v.fn=0 then [] else (v.fa.map (·.block)).toList)++(if v.tn=0 then [] else (v.ta.map (·.block)).toList)
theorem mem_blksV {v:StoV}{g:Nat}:g∈blksV v↔(v.fn≠0∧v.fa.map (·.block)=some g)∨(v.tn≠0∧v.ta.map (·.block)=some g):=by
 unfold blksV
 rw [yag]
 by_cases h1:v.fn=0<;>by_cases h2:v.tn=0<;>simp [h1,h2,Option.mem_toList]
theorem StoV.New.blks {v:StoV}{w:World}(h:v.New w):∀g∈blksV v,w.heap.size≤g:=fun g hg=>(mem_blksV.1 hg).elim (fun e=>h.1 g e.2) (fun e=>h.2 g e.2)
theorem StoAt.blks {w:World}{p d:Nat}{s:Sta}{S:DiskS}{B:List Nat}{v:StoV}(h:StoAt w p d s S B v):∀g∈blksV v,g<w.heap.size:=fun g hg=>(mem_blksV.1 hg).elim (fun e=>(h.off.f e.1 g e.2).2) (fun e=>(h.off.t e.1 g e.2).2)
structure StoI (w0:World) (p d:Nat) (r:Int) (G:Gs) (X c:Nat) (B:List Nat) (w:World):Prop where
 at':∃s S B0 v,StoAt w p d s S B0 v∧StI S s G X c∧s.r=r∧(∀b∈B0,b∈B)∧∀g∈blksV v,g∈B
 own:∀b∈B,w0.heap.size≤b
 lt:∀b∈B,b<w.heap.size
 pn:w0.heap.size≤p
 ext:Ext w0 w
 et:HasET w0
def StepTo (w0:World) (p d:Nat) (r:Int) (G:Gs) (X c:Nat) (B:List Nat) (w w':World):Prop :=
 ∃B',StoI w0 p d r G X c B' w'∧Chg (fun b=>b=p∨b∈B) w w'∧∀b∈B',b∈B∨w.heap.size≤b
theorem StoI.grow {w0 w w':World}{p d:Nat}{r r':Int}{G G':Gs}{X X' c c':Nat}{B B0 B':List Nat}(h:StoI w0 p d r G X c B w) {s:Sta}{S:DiskS}{v:StoV}(k:StoAt w' p d s S B' v) (ki:StI S s G' X' c') (kr:s.r=r') (hB0:∀b∈B0,b∈B) (hc:Chg (fun b=>b=p∨b∈B0) w w') (hn:∀b∈B',b∈B0∨w.heap.size≤b) (hv:∀g∈blksV v,g∈B∨w.heap.size≤g):StepTo w0 p d r' G' X' c' B w w':=by
 have hn':∀b∈B'++blksV v,b∈B∨w.heap.size≤b:=fun b hb=>by
  rcases yag.1 hb with e|e
  ·exact (hn b e).imp (hB0 b) id
  ·exact hv b e
 refine ⟨B'++blksV v,⟨⟨s,S,B',v,k,ki,kr,fun b hb=>yar _ hb,fun g hg=>yaM _ hg⟩,fun b hb=>?_,fun b hb=>(yag.1 hb).elim (k.disk.lt b) (k.blks b),h.pn,?_,h.et⟩,hc.mono (fun i _ e=>e.imp id (hB0 i)),hn'⟩
 ·rcases hn' b hb with e|e
  ·exact h.own b e
  ·have:=h.ext.size;omega
 ·refine (((Chg.of_ext (S:=fun b=>b=p∨b∈B0) h.ext)).trans hc (fun i hi e=>e)).ext (fun i hi e=>?_)
  rcases e with e|e
  ·have:=h.pn;omega
  ·have:=h.own i (hB0 i e);omega
theorem StoI.et' {w0 w:World}{p d:Nat}{r:Int}{G:Gs}{X c:Nat}{B:List Nat}(h:StoI w0 p d r G X c B w):HasET w:=h.et.ext h.ext
theorem StoI.gB {w0 w:World}{p d:Nat}{r:Int}{G:Gs}{X c:Nat}{B B0:List Nat}(h:StoI w0 p d r G X c B w) (hB:∀b∈B0,b∈B):0∉B0:=fun e=>by have:=h.own _ (hB _ e);have:=h.et.lt;omega
theorem StoI.okG' {w0 w:World}{p d:Nat}{r:Int}{G:Gs}{X c:Nat}{B:List Nat}(h:StoI w0 p d r G X c B w):OkG G:=by
 obtain ⟨s,S,B0,v,h1,h2,h3⟩:=h.at'
 exact h2.okG
theorem StoI.next {w0 w w':World}{p d:Nat}{r:Int}{G:Gs}{X c:Nat}{B:List Nat}(h:StoI w0 p d r G X c B w) (hx:Ext w w'):StoI w0 p d r G X c B w':=by
 obtain ⟨s,S,B0,v,h1,h2⟩:=h.at'
 exact ⟨⟨s,S,B0,v,h1.ext hx,h2⟩,h.own,fun b hb=>yal (h.lt b hb) hx.size,h.pn,h.ext.trans hx,h.et⟩
theorem StoI.beside {w0 w w':World}{p d:Nat}{r:Int}{G:Gs}{X c:Nat}{B:List Nat}{T:Nat→Prop}(h:StoI w0 p d r G X c B w) (hc:Chg T w w') (hp:¬T p) (hB:∀b∈B,¬T b) (h0:∀b,T b→w0.heap.size≤b):StoI w0 p d r G X c B w':=by
 obtain ⟨s,S,B0,v,h1,h2,h3,h4,h5⟩:=h.at'
 refine ⟨⟨s,S,B0,v,h1.apart hc (fun b hb=>hB b (h4 b hb)) hp (fun hn b hb=>hB b (h5 b (mem_blksV.2 (.inl ⟨hn,hb⟩)))) (fun hn b hb=>hB b (h5 b (mem_blksV.2 (.inr ⟨hn,hb⟩)))),h2,h3,h4,h5⟩,h.own,fun b hb=>yal (h.lt b hb) hc.size,h.pn,?_,h.et⟩
 exact ((Chg.of_ext (S:=T) h.ext).trans hc (fun i hi e=>e)).ext (fun i hi e=>by have:=h0 i e;omega)
theorem StoAt.lens {w:World}{p d:Nat}{s:Sta}{S:DiskS}{B:List Nat}{v:StoV}(h:StoAt w p d s S B v):s.fl.length=v.fn∧s.ti.length=v.tn:=⟨zbv h.st.fl,zbi h.st.ti⟩
theorem one_ok {nm:ByteArray}{l:List Pt}(hn:zaW (bl nm)=true) (hc:colV l=true) (hl:l.length≤600):PrtsOk [(nm,l)] :=
 ⟨fun q hq=>by rw [yaj.1 hq];exact hn,fun q hq=>by rw [yaj.1 hq];exact hc,by simp,by simp,by simp [manyP];omega⟩
theorem fresh5 {s:Sta}{S:DiskS}{G:Gs}{X c:Nat}(h:StI S s G X c):Fresh s.km km5:=by
 rw [h.km];exact ⟨rfl,rfl,by decide,km5_ok⟩
theorem flush_good {w0 w:World}{p d:Nat}{r:Int}{G:Gs}{X c:Nat}{B:List Nat}(h:StoI w0 p d r G X c B w) (i:Nat) (hr:r≤(i:Int)) (hi:i≤1000) (hX:X<1000) (hG:G.length<30) (hc:c≤500000)
 (a:Option Addr) (ca:Nat) (q:PaM) (hs:Src w 2 (.slice a 1 ca) 1 (pams [q])) (hq:q.Ok w) (hn:zaW (bl q.nm)=true) (hcol:colV q.l=true) (hv:VOk q.l) (ht:totG G+q.l.length≤600) :
 Calls Tryz.prog 11 #[.pointer (some ⟨p,0,none⟩),.slice a 1 ca,.int .i64 (i:Int),.int .i64 (i:Int),.agg #[.bool false,.int .i64 0,.int .i64 5]] w fun e w'=>e=.returned (.int .i64 0)∧StepTo w0 p d (i:Int) (G++[(X,[(q.nm,q.l)])]) (X+1) (c+7) B w w':=by
 obtain ⟨s,S,B0,v,h1,h2,h3,h4,h5⟩:=h.at'
 have hQ:=one_ok hn hcol (by omega)
 have hrq:=h2.rq
 have hfl:=h1.lens
 have e0:s.fl.length=G.length:=h2.flLen
 have e1:s.ti.length=0:=by rw [h2.ti];rfl
 have hz:s.q≤(i:Int):=by have:=hrq.2.2;omega
 have hQe:zaG [q]=[(q.nm,q.l)]:=rfl
 obtain ⟨S1,S2,g1,g2,g3⟩:=step_flush h2 hQ (fun x hx=>by rw [yaj.1 hx];exact hv) (i:=(i:Int)) ⟨by omega,by omega⟩ hG hX (by simp [manyP];omega)
 have hF:=stoFlush_any (k:=c) (n:=X) (by omega) h2.inv h1 h2.x (by omega) ⟨by omega,by omega⟩ (i:Int) (i:Int) (by omega) (by omega) hz (by omega) km5 (fresh5 h2) a 1 ca [q] hs (fun x hx=>by rw [yaj.1 hx];exact hq) (by rw [hQe];exact hQ) h.et' (h.gB h4)
 rw [hQe] at hF
 refine hF.mono ?_
 intro e w' hw
 unfold WriteTo at hw
 rw [g1] at hw
 simp only [ne_eq,not_true,if_false] at hw
 rw [g2] at hw
 simp only [if_true] at hw
 obtain ⟨rfl,v',hv1,hv2,hv3,B',k1,k2,k3⟩:=hw
 exact ⟨rfl,h.grow k1 g3 rfl h4 k2 k3 (fun g hg=>.inr (hv3.blks g hg))⟩
theorem flush_bad {w0 w:World}{p d:Nat}{r:Int}{G:Gs}{X c:Nat}{B:List Nat}(h:StoI w0 p d r G X c B w) (i:Nat) (hr:r≤(i:Int)) (hi:i≤1000) (hX:X<1000) (hG:G.length<30) (hc:c≤500000)
 (a:Option Addr) (ca:Nat) (q:PaM) (hs:Src w 2 (.slice a 1 ca) 1 (pams [q])) (hq:q.Ok w) (hn:zaW (bl q.nm)=true) (hcol:colV q.l=false) (hql:q.n≤1024) :
 Calls Tryz.prog 11 #[.pointer (some ⟨p,0,none⟩),.slice a 1 ca,.int .i64 (i:Int),.int .i64 (i:Int),.agg #[.bool false,.int .i64 0,.int .i64 5]] w fun e w'=>e=.returned (.int .i64 2)∧StepTo w0 p d r G X c B w w':=by
 obtain ⟨s,S,B0,v,h1,h2,h3,h4,h5⟩:=h.at'
 have hrq:=h2.rq
 have hfl:=h1.lens
 have e0:s.fl.length=G.length:=h2.flLen
 have e1:s.ti.length=0:=by rw [h2.ti];rfl
 have hz:s.q≤(i:Int):=by have:=hrq.2.2;omega
 refine (stoFlush_bad (k:=c) (n:=X) (by omega) h2.inv h1 h2.x (by omega) ⟨by omega,by omega⟩ (i:Int) (i:Int) (by omega) (by omega) hz (by omega) km5 (fresh5 h2) a ca q hs hq hn hcol hql h.et').mono ?_
 rintro e w' ⟨rfl,B',k1,k2,k3⟩
 exact ⟨rfl,h.grow k1 h2 h3 h4 (k2.mono (fun i _ e=>.inr e)) k3 (fun g hg=>.inl (h5 g hg))⟩
theorem fits_own {S:DiskS}{s:Sta}{G:Gs}{X c:Nat}(h:StI S s G X c) (t:Sta) (ht:t=ownSt∨t=(loadS S).1):t.fl.length≤1000000∧t.ti.length≤1000000:=by
 rcases ht with rfl|rfl
 ·exact ⟨by decide,by decide⟩
 ·rcases h.man with ⟨f,hf,_⟩|⟨hn,_⟩
  ·rw [h.load (by rw [hf];rfl)]
   have:=h.few
   exact ⟨by rw [h.flLen];omega,by rw [h.ti];simp⟩
  ·have e:(loadS S).1=staZ:=by unfold loadS;rw [hn]
   rw [e];exact ⟨by decide,by decide⟩
theorem open_good {w1:World}{d:Nat}{S:DiskS}{s:Sta}{G:Gs}{X c:Nat}{B:List Nat}(hd:zbu w1 d S B) (h:StI S s G X c) (hc:c≤500000) (hg:HasET w1) :
 Calls Tryz.prog 10 #[.pointer (some ⟨d,0,none⟩),.int .i64 5,.slice none 0 0] w1 fun e w'=>∃p,e=.returned (.tuple #[.pointer (some ⟨p,0,none⟩),.int .i64 0])∧StoMade w1 d s S B p w':=by
 refine (stoOpen_any (c:=c) h.inv (by omega) hd 5 (by decide) none 0 0 ownSt (alikeB ownSt) hg (fun W hW=>stoFresh_none W 5 (by decide)) (fun W t v v0 hW hs ho hl=>stoAlike_any W t ownSt v v0 hs ho hl (by decide)) (fits_own h)).mono ?_
 intro e w' ho
 unfold OpenSto at ho
 rw [h.open] at ho
 simp only [not_true,ne_eq,if_false] at ho
 rw [h.tidy] at ho
 exact ho
theorem open_new {w0 w1:World}{d:Nat}{B:List Nat}(hd:zbu w1 d (zbZ 16777216) B) (hx:Ext w0 w1) (hB:∀b∈B,w0.heap.size≤b) (hg:HasET w0) :
 Calls Tryz.prog 10 #[.pointer (some ⟨d,0,none⟩),.int .i64 5,.slice none 0 0] w1 fun e w'=>∃p B',e=.returned (.tuple #[.pointer (some ⟨p,0,none⟩),.int .i64 0])∧StoI w0 p d 0 [] 0 0 B' w':=by
 refine (open_good hd start_I (by omega) (hg.ext hx)).mono ?_
 rintro e w' ⟨p,rfl,v,B',k1,kv,k2,k3,k4⟩
 refine ⟨p,B'++blksV v,rfl,⟨⟨_,_,B',v,k1,start_I,rfl,fun b hb=>yar _ hb,fun g hg=>yaM _ hg⟩,fun b hb=>?_,fun b hb=>(yag.1 hb).elim (k1.disk.lt b) (k1.blks b),by have:=hx.size;omega,?_,hg⟩⟩
 ·rcases yag.1 hb with hb|hb
  ·rcases k3 b hb with e|e
   ·exact hB b e
   ·have:=hx.size;omega
  ·have:=kv.blks b hb
   have:=hx.size;omega
 ·exact ((Chg.of_ext (S:=(·∈B)) hx).trans k2 (fun i hi e=>e)).ext (fun i hi e=>by have:=hB i e;omega)
theorem same_of {G:Gs}{F:List PaM}(hG:OkG G) (hM:ModI G F) (f t:Int) (i:Nat):SameI F f t i (holdG G (nmL i)):=fun o1 o2 h1 h2 =>
 (hM.eqv (nmL i)).told (holdG_rises hG _) (modH_rises hM.rises _) f t h1 h2
structure MoOff (mb:Nat) (a:Option Addr) (p:Nat) (B:List Nat):Prop where
 box:mb≠p∧mb∉B
 row:∀g,a.map (·.block)=some g→g≠p∧g∉B
theorem MoAt.chg {w w':World}{mb p:Nat}{F:List PaM}{a:Option Addr}{n c:Nat}{B:List Nat}(h:MoAt w mb F a n c) (ho:MoOff mb a p B) (hc:Chg (fun b=>b=p∨b∈B) w w') (hP:∀q∈F,q.n≠0→∀g,q.a.map (·.block)=some g→g≠p∧g∉B):MoAt w' mb F a n c:=by
 refine ⟨(hc.block mb (zab h.box) (fun e=>e.elim ho.box.1 ho.box.2)).trans h.box,h.row.chg hc (fun g hg e=>?_),fun q hq=>⟨⟨zbM (h.ok q hq).1.src hc (fun hn g hg e=>?_),(h.ok q hq).1.cap⟩,(h.ok q hq).2⟩,h.ne⟩
 ·rw [zaw] at hg
  have:=ho.row g hg
  exact e.elim this.1 this.2
 ·have:=hP q hq hn g hg
  exact e.elim this.1 this.2
theorem MoOff.to {mb:Nat}{a:Option Addr}{p:Nat}{B B':List Nat}{w:World}(h:MoOff mb a p B) (hn:∀b∈B',b∈B∨w.heap.size≤b) (hmb:mb<w.heap.size) (ha:∀g,a.map (·.block)=some g→g<w.heap.size):MoOff mb a p B':=by
 refine ⟨⟨h.box.1,fun e=>?_⟩,fun g hg=>⟨(h.row g hg).1,fun e=>?_⟩⟩
 ·rcases hn _ e with e|e
  ·exact h.box.2 e
  ·omega
 ·rcases hn _ e with e|e
  ·exact (h.row g hg).2 e
  ·have:=ha g hg;omega
theorem elem_mfl:ElemOk Tryz.prog 33 48 2 40 :=
 ⟨Tryz.underlying33,by
   obtain ⟨i0,hi,hz0,hz1,hz2⟩:=info_parts (show (Tryz.prog.info? 48).map (fun i=>(i.zero,i.size,i.bytes))=some (some (.agg #[.string ⟨#[]⟩,.slice none 0 0]),2,40) from by kernel_rfl)
   exact ⟨i0,_,hi,hz0,hz1,hz2,rfl⟩,by decide⟩
theorem mfl_slice_info:(Tryz.prog.info? 33).map (·.size)=some 1:=by kernel_rfl
def ownB (a:Option Addr) (b:Nat):Bool:=decide (a.map (·.block)=some b)
theorem src_pam {W:World}{b:Nat}{q:PaM}{t:TypeId}{fr:Nat×Nat}(h:W.heap[b]?=some (.cells #[.string q.nm,.slice q.a q.n q.c] t fr)):Src W 2 (.slice (some ⟨b,0,none⟩) 1 1) 1 (pams [q]):=by
 refine .inr ⟨_,_,rfl,rfl,fun j u hj=>?_,pams_one _⟩
 rw [Go.WideShapes.add_plain,Nat.zero_add,zaa h]
 simpa [pams,PaM.cells] using hj
theorem nmL_valid (c:Nat):zaW (bl (nmL c))=true:=by
 unfold nmL
 split
 ·decide
 ·split<;>decide
def AcM.part (p:AcM):PaM:=⟨nmL p.nm,p.pa,p.pn,p.pc,p.l⟩
theorem AcM.Ok.part {w:World}{p:AcM}(h:p.Ok w):p.part.Ok w:=⟨h.src,h.cap⟩
theorem pts_len3 (l:List Pt):(pts l).length=l.length*3:=by
 induction l with
 | nil=>rfl
 | cons p l ih=>simp [pts,Pt.cells] at ih ⊢;omega
theorem AcM.Ok.pn {w:World}{p:AcM}(h:p.Ok w):p.l.length=p.pn:=by
 rcases h.src with ⟨_,e1,e2⟩|⟨_,_,_,e2,_⟩
 ·have h1:=pts_len3 p.l;rw [e2] at h1;simp at h1;omega
 ·rw [pts_len3] at e2;omega
theorem AcM.Ok.blk {w:World}{p:AcM}(h:p.Ok w) (hn:p.pn≠0):∀g,p.pa.map (·.block)=some g→g<w.heap.size:=fun g hg=>by
 rcases h.src with ⟨_,e1,_⟩|⟨ad,_,e1,e2,e3,_⟩
 ·exact absurd e1 hn
 ·simp at e1
  rw [e1.1] at hg
  have hg':ad.block=g:=by simpa using hg
  have h0:0<(pts p.l).length:=by omega
  have:=e3 0 _ (yac h0)
  have h2:=World.block_lt_of_cell? _ _ this
  rw [←hg'];exact h2
structure LawI (w0:World) (p d mb N j:Nat) (G:Gs) (F:List PaM) (X c:Nat) (B:List Nat) (ma:Option Addr) (mn mc:Nat) (w:World):Prop where
 sto:∃r,StoI w0 p d r G X c B w∧r≤(j:Int)
 mo:MoAt w mb F ma mn mc
 off:MoOff mb ma p B
 new:w0.heap.size≤mb∧∀g,ma.map (·.block)=some g→w0.heap.size≤g
 pts:∀q∈F,q.n≠0→∀g,q.a.map (·.block)=some g→g<w0.heap.size
 mod:ModI G F
 sum:(F.map fun q=>q.l.length).sum≤N∧totG G≤N
 len:F.length≤j∧G.length≤j∧X≤j∧c≤2000*j
theorem LawI.ext {w0 w w':World}{p d mb N j:Nat}{G:Gs}{F:List PaM}{X c:Nat}{B:List Nat}{ma:Option Addr}{mn mc:Nat}(h:LawI w0 p d mb N j G F X c B ma mn mc w) (hx:Ext w w'):LawI w0 p d mb N j G F X c B ma mn mc w':=by
 obtain ⟨r,h1,h2⟩:=h.sto
 exact ⟨⟨r,h1.next hx,h2⟩,h.mo.ext hx,h.off,h.new,h.pts,h.mod,h.sum,h.len⟩
theorem LawI.world {w0 w:World}{p d mb N j:Nat}{G:Gs}{F:List PaM}{X c:Nat}{B:List Nat}{ma:Option Addr}{mn mc:Nat}(h:LawI w0 p d mb N j G F X c B ma mn mc w):Ext w0 w:=by
 obtain ⟨r,h1,h2⟩:=h.sto
 exact h1.ext
theorem LawI.step {w0 w w':World}{p d mb N j:Nat}{G:Gs}{F:List PaM}{X c:Nat}{B:List Nat}{ma:Option Addr}{mn mc:Nat}(h:LawI w0 p d mb N j G F X c B ma mn mc w) {N' j' X' c':Nat}{G':Gs}{r':Int}(hs:StepTo w0 p d r' G' X' c' B w w') (hr:r'≤(j':Int)) (hM:ModI G' F) (hN:N≤N') (hT:totG G'≤N') (hj:j≤j') (hG:G'.length≤j') (hX:X'≤j') (hc:c'≤2000*j') :
 ∃B',LawI w0 p d mb N' j' G' F X' c' B' ma mn mc w':=by
 obtain ⟨B',k1,k2,k3⟩:=hs
 obtain ⟨r,h1,h2⟩:=h.sto
 have hl:=h.len
 have hs:=h.sum
 refine ⟨B',⟨r',k1,hr⟩,h.mo.chg h.off k2 (fun q hq hn g hg=>?_),h.off.to k3 (zab h.mo.box) (fun g hg=>h.mo.row.lt (by rw [zaw];exact hg)),h.new,h.pts,hM,⟨by omega,hT⟩,⟨by omega,hG,hX,hc⟩⟩
 have h3:=h.pts q hq hn g hg
 exact ⟨fun e=>by have:=h1.pn;omega,fun e=>by have:=h1.own g e;omega⟩
theorem LawI.more {w0 w:World}{p d mb N N' j j':Nat}{G:Gs}{F:List PaM}{X c:Nat}{B:List Nat}{ma:Option Addr}{mn mc:Nat}(h:LawI w0 p d mb N j G F X c B ma mn mc w) (hN:N≤N') (hj:j≤j'):LawI w0 p d mb N' j' G F X c B ma mn mc w:=by
 obtain ⟨r,h1,h2⟩:=h.sto
 have hl:=h.len
 have hs:=h.sum
 exact ⟨⟨r,h1,by omega⟩,h.mo,h.off,h.new,h.pts,h.mod,⟨by omega,by omega⟩,⟨by omega,by omega,by omega,by omega⟩⟩
theorem LawI.mid {w0 w w':World}{p d mb N j:Nat}{G:Gs}{F:List PaM}{X c:Nat}{B:List Nat}{ma:Option Addr}{mn mc:Nat}(h:LawI w0 p d mb N j G F X c B ma mn mc w) {X' c':Nat}{G':Gs}{r':Int}(hs:StepTo w0 p d r' G' X' c' B w w'):MoAt w' mb F ma mn mc∧Ext w0 w':=by
 obtain ⟨B',k1,k2,k3⟩:=hs
 obtain ⟨r,h1,h2⟩:=h.sto
 refine ⟨h.mo.chg h.off k2 (fun q hq hn g hg=>?_),k1.ext⟩
 have h3:=h.pts q hq hn g hg
 exact ⟨fun e=>by have:=h1.pn;omega,fun e=>by have:=h1.own g e;omega⟩
theorem LawI.mn {w0 w:World}{p d mb N j:Nat}{G:Gs}{F:List PaM}{X c:Nat}{B:List Nat}{ma:Option Addr}{mn mc:Nat}(h:LawI w0 p d mb N j G F X c B ma mn mc w):F.length=mn:=zcH (h.mo.row.src (pams_one _))
def SameG (G:Gs) (F:List PaM):Prop:=G.map Prod.snd=F.map fun q=>[(q.nm,q.l)]
theorem SameG.len {G:Gs}{F:List PaM}(h:SameG G F):G.length=F.length:=by
 have:=congrArg List.length h
 simpa using this
theorem SameG.put {G:Gs}{F:List PaM}(h:SameG G F) (X:Nat) (q:PaM):SameG (G++[(X,[(q.nm,q.l)])]) (F++[q]):=by
 unfold SameG at *
 rw [yat,yat,h];rfl
theorem LawI.start {w0 w1:World}{p d mb:Nat}{B:List Nat}(h:StoI w0 p d 0 [] 0 0 B w1) (hmb:w1.heap.size=mb) {w2:World}(hx:Ext w1 w2) (hb:w2.heap[mb]?=some (.cells #[.slice none 0 0] 35 (0,0))) (hp:p<w1.heap.size):LawI w0 p d mb 0 0 [] [] 0 0 B none 0 0 w2:=by
 refine ⟨⟨0,h.next hx,by omega⟩,⟨hb,Row.nil _ _ _,by simp,by simp⟩,⟨⟨by omega,fun e=>by have:=h.lt mb e;omega⟩,by simp⟩,⟨by have:=h.ext.size;omega,by simp⟩,by simp,.start,⟨by simp,by simp [totG]⟩,by simp⟩
theorem LawI.put {w0 w w1 w2 W w4 w5:World}{p d mb N j:Nat}{G:Gs}{F:List PaM}{X c:Nat}{B:List Nat}{ma:Option Addr}{mn mc:Nat}(h:LawI w0 p d mb N j G F X c B ma mn mc w) (hx:Ext w w1) {q:PaM}(hcol:colV q.l=true)
 (hs:StepTo w0 p d (j:Int) (G++[(X,[(q.nm,q.l)])]) (X+1) (c+7) B w1 w2) (hF:F.length<25) (hN:N+q.l.length≤600) (hq:q.Ok w2) (hqn:q.n<4398046511104) (hq0:q.n≠0→∀g,q.a.map (·.block)=some g→g<w0.heap.size)
 (hW:Ext w2 W) {ma':Option Addr}{mc':Nat}(ha:Appended W 48 2 (.slice ma mn mc) (mn+1) (pams F++pams [q]) (.slice ma' (mn+1) mc') w4) (hc:Chg (·=mb) w4 w5) (hb:w5.heap[mb]?=some (.cells #[.slice ma' (mn+1) mc'] 35 (0,0))) :
 ∃B',LawI w0 p d mb (N+q.l.length) (j+1) (G++[(X,[(q.nm,q.l)])]) (F++[q]) (X+1) (c+7) B' ma' (mn+1) mc' w5:=by
 have hl:=h.len
 have hsum:=h.sum
 obtain ⟨r,h1,h2⟩:=h.sto
 have hM:=h.mod.add h1.okG' X (q:=q) hcol (by omega) (by omega)
 have hT:totG (G++[(X,[(q.nm,q.l)])])≤N+q.l.length:=by rw [totG_snoc];simp [manyP];omega
 obtain ⟨B',k1,k2,k3⟩:=hs
 have hmb:mb<w.heap.size:=zab h.mo.box
 have hmo2:MoAt w2 mb F ma mn mc:=(h.mo.ext hx).chg h.off k2 (fun q hq hn g hg=>by
  have h3:=h.pts q hq hn g hg
  exact ⟨fun e=>by have:=h1.pn;omega,fun e=>by have:=h1.own g e;omega⟩)
 have hoff2:MoOff mb ma p B':=h.off.to k3 (by have:=hx.size;omega) (fun g hg=>by have:=h.mo.row.lt (g:=g) (by rw [zaw];exact hg);have:=hx.size;omega)
 have hsz2:w2.heap.size≤W.heap.size:=hW.size
 have hsz4:W.heap.size≤w4.heap.size:=ha.chg.size
 have hmb2:mb<w2.heap.size:=by have:=hx.size;have:=k2.size;omega
 have hma':∀g,ma'.map (·.block)=some g→ma.map (·.block)=some g∨g=W.heap.size:=fun g hg=>by
  have hl:=ha.loc
  rw [zaw,zaw,hg] at hl
  rcases hl with e|e
  ·exact .inl e.symm
  ·exact .inr (yaC e)
 have hne':ma'.map (·.block)≠some mb:=fun e=>by
  rcases hma' mb e with e|e
  ·exact hmo2.ne e
  ·omega
 have hcT:Chg (fun b=>b=mb∨ma.map (·.block)=some b) w2 w5:=(Chg.of_ext (S:=fun b=>b=mb∨ma.map (·.block)=some b) hW).trans ((ha.chg.mono (fun i _ e=>.inr (by rw [zaw] at e;exact e))).trans (hc.mono (fun i _ e=>.inl e)) (fun _ _ e=>e)) (fun _ _ e=>e)
 have hT:totG (G++[(X,[(q.nm,q.l)])])≤N+q.l.length:=hT
 have hstoW:StoI w0 p d (j:Int) (G++[(X,[(q.nm,q.l)])]) (X+1) (c+7) B' w5:=k1.beside hcT (fun e=>e.elim (fun e=>hoff2.box.1 e.symm) (fun e=>(hoff2.row p e).1 rfl)) (fun b hb e=>e.elim (fun e=>hoff2.box.2 (e▸hb)) (fun e=>(hoff2.row b e).2 hb)) (fun b e=>e.elim (fun e=>by have:=h.new.1;omega) (fun e=>h.new.2 b e))
 have hPt:∀q∈F,∀(hn:q.n≠0) g,q.a.map (·.block)=some g→g≠mb∧ma.map (·.block)≠some g:=fun q hq hn g hg=>by
  have h3:=h.pts q hq hn g hg
  exact ⟨fun e=>by have:=h.new.1;omega,fun e=>by have:=h.new.2 g e;omega⟩
 refine ⟨B',⟨_,hstoW,by omega⟩,⟨hb,?_,fun x hx=>?_,hne'⟩,⟨hoff2.box,fun g hg=>?_⟩,⟨h.new.1,fun g hg=>?_⟩,fun x hx=>?_,hM,⟨by simp;omega,hT⟩,⟨by simp;omega,by simp;omega,by omega,by omega⟩⟩
 ·rw [pams_append]
  exact ha.row.chg hc (fun g hg e=>by rw [zaw] at hg;subst e;exact hne' hg)
 ·rcases yag.1 hx with hx|hx
  ·have h3:=hmo2.ok x hx
   exact ⟨⟨zbM h3.1.src hcT (fun hn g hg e=>by have h4:=hPt x hx hn g hg;exact e.elim h4.1 h4.2),h3.1.cap⟩,h3.2⟩
  ·rw [yaj.1 hx]
   exact ⟨⟨zbM hq.src hcT (fun hn g hg e=>by
    have h3:=hq0 hn g hg
    exact e.elim (fun e=>by have:=h.new.1;omega) (fun e=>by have:=h.new.2 g e;omega)),hq.cap⟩,hqn⟩
 ·rcases hma' g hg with e|e
  ·exact hoff2.row g e
  ·have hp2:p<w2.heap.size:=by
    obtain ⟨s,S,B0,v,q1,_⟩:=k1.at'
    exact zab q1.box
   exact ⟨by omega,fun e'=>by have:=k1.lt g e';omega⟩
 ·rcases hma' g hg with e|e
  ·exact h.new.2 g e
  ·have:=k1.ext.size;omega
 ·rcases yag.1 hx with hx|hx
  ·exact h.pts x hx
  ·rw [yaj.1 hx];exact hq0
abbrev Frs:=List (UInt8×List UInt8)
def zbe (L:Frs):List UInt8:=L.flatMap fun p=>sealL p.1 p.2
def offF (L:Frs) (j:Nat):Nat:=(zbe (L.take j)).length
theorem sealsL_at {L:Frs}{j:Nat}{p:UInt8×List UInt8}(h:L[j]?=some p):zbe L=zbe (L.take j)++(sealL p.1 p.2++zbe (L.drop (j+1))):=by
 obtain ⟨hj,e⟩:=yad.1 h
 have e1:zbe L=zbe (L.take j++L.drop j):=by rw [yaN]
 rw [e1,yay hj,e]
 simp [zbe]
theorem offF_succ {L:Frs}{j:Nat}{p:UInt8×List UInt8}(h:L[j]?=some p):offF L (j+1)=offF L j+9+p.2.length:=by
 unfold offF
 rw [yam,h]
 simp [zbe,zaF]
 omega
theorem offF_all {L:Frs}:offF L L.length=(zbe L).length:=by unfold offF;rw [List.take_length]
theorem offF_zero {L:Frs}:offF L 0=0:=rfl
theorem offF_le {L:Frs}{j:Nat}{p:UInt8×List UInt8}(h:L[j]?=some p):offF L j+9+p.2.length≤(zbe L).length:=by
 rw [sealsL_at h,yae,yae,zaF]
 show offF L j+_+_≤offF L j+_
 omega
theorem seal_head (A C:List UInt8) (k:UInt8) {l:List UInt8}(hl:l.length≤1048576) :
 ∃x y z:UInt8,(A++(sealL k l++C))[A.length+1]?=some x∧(A++(sealL k l++C))[A.length+2]?=some y∧(A++(sealL k l++C))[A.length+3]?=some z∧x.toNat+256*y.toNat+65536*z.toNat=l.length:=by
 refine ⟨UInt8.ofNat (l.length%256),UInt8.ofNat (l.length/256%256),UInt8.ofNat (l.length/65536%256),?_,?_,?_,?_⟩
 ·rw [yax (by omega),Nat.add_sub_cancel_left];rfl
 ·rw [yax (by omega),Nat.add_sub_cancel_left];rfl
 ·rw [yax (by omega),Nat.add_sub_cancel_left];rfl
 ·simp only [UInt8.toNat_ofNat']
  omega
theorem frame_head {L:Frs}{j:Nat}{p:UInt8×List UInt8}(h:L[j]?=some p) (hl:p.2.length≤1048576) :
 ∃x y z:UInt8,(zbe L)[offF L j+1]?=some x∧(zbe L)[offF L j+2]?=some y∧(zbe L)[offF L j+3]?=some z∧x.toNat+256*y.toNat+65536*z.toNat=p.2.length:=by
 rw [sealsL_at h]
 exact seal_head _ _ _ hl
theorem flip_eq {S:DiskS}{n:ByteArray}{f:FileS}{p b:Nat}(h:aget S.files n=some f) (hp:p<8*f.bytes.length):S.flip n (p:Int) b=(0,{ S with files:=aput S.files n { f with bytes:=flipL b p f.bytes } }):=by
 unfold DiskS.flip
 rw [h]
 simp only
 rw [if_neg (by omega),Int.toNat_natCast]
def BadB (B:List UInt8):Prop:=B.length≤1048576∧((∃C M,B=C++(M++sealL 6 (le4 M.length))∧(openR M).2.2≠0)∨(13≤B.length∧(openR (B.drop (B.length-13))).2.2≠0))
def BadF (S:DiskS) (F:Fl) (s:ByteArray):Prop:=(∃f,aget S.files F.nm=some f∧BadB f.bytes)∨∃(L:List SegI) (i:Nat) (x:SegI),OnDisk S F L∧L[i]?=some x∧x.name=s∧(openR x.blk).2.2≠0
def GoodF (S:DiskS) (F:Fl) (s:ByteArray) (l:List Pt):Prop:=∃L,OnDisk S F L∧HasP L s l
def BadAt (S:DiskS) (fl:List Fl) (s:ByteArray) (H:List (List Pt)):Prop:=H.length=fl.length∧∃(k:Nat) (F:Fl),fl[k]?=some F∧BadF S F s∧∀(i:Nat) (F:Fl) (l:List Pt),i<k→fl[i]?=some F→H[i]?=some l→GoodF S F s l
def FlIn (fl:List Fl):Prop:=∀F∈fl,-1152921504606846976≤F.a∧F.a≤1152921504606846976∧-1152921504606846976≤F.b
def Verd (S:DiskS) (s:Sta) (G:Gs) (z:Prop):Prop :=
 (z∧stoK S ownSt (alikeB ownSt)=(24,staZ)) ∨
 (stoK S ownSt (alikeB ownSt)=(0,s)∧tidyS S s=(0,S)∧∀n,HoldP S s.fl n (holdG G n)∨(z∧BadAt S s.fl n (holdG G n)))
theorem StI.verd {S:DiskS}{s:Sta}{G:Gs}{X c:Nat}(h:StI S s G X c) (z:Prop):Verd S s G z:=.inr ⟨h.open,h.tidy,fun n=>.inl (h.holdP n)⟩
theorem StI.flIn {S:DiskS}{s:Sta}{G:Gs}{X c:Nat}(h:StI S s G X c):FlIn s.fl:=fun F hF=>by
 rw [h.fl] at hF
 obtain ⟨g,hg,rfl⟩:=yan.1 hF
 obtain ⟨h1,h2,h3,_,_⟩:=span_items (h.ok g hg).1
 exact ⟨h1,by show loS (zav g.2)≤_;omega,by show _≤hiS (zav g.2);omega⟩
theorem StI.same {S S':DiskS}{s:Sta}{G:Gs}{X c:Nat}(h:StI S s G X c) (inv:DInv S' c) (hl:S'.left=S.left) (hr:S'.room=S.room) (hg:∀k,(aget S'.files k).map FileS.bytes=(aget S.files k).map FileS.bytes):StI S' s G X c:=by
 have key:∀{k:ByteArray} {b:List UInt8},(∃f,aget S.files k=some f∧f.bytes=b)→∃f,aget S'.files k=some f∧f.bytes=b:=by
  rintro k b ⟨f,hf,rfl⟩
  have:=hg k
  rw [hf] at this
  cases hk:aget S'.files k with
  | none=>rw [hk] at this;cases this
  | some f'=>rw [hk] at this;exact ⟨f',rfl,yaC this⟩
 refine { st:=h.st,rq:=h.rq,num:=h.num,ok:=h.ok,inv:=inv,left:=by rw [hl];exact h.left,room:=by rw [hr];exact h.room,file:=fun g hm=>key (h.file g hm),man:=?_,keys:=fun n hn=>h.keys n ?_,few:=h.few,tot:=h.tot }
 ·rcases h.man with h1|⟨h1,h2⟩
  ·exact .inl (key h1)
  ·refine .inr ⟨?_,h2⟩
   have:=hg fM
   rw [h1] at this
   cases hk:aget S'.files fM with
   | none=>rfl
   | some f'=>rw [hk] at this;cases this
 ·have:=hg n
  cases hk:aget S.files n with
  | some f=>rfl
  | none =>
   rw [hk] at this
   cases hk':aget S'.files n with
   | none=>rw [hk'] at hn;exact hn
   | some f=>rw [hk'] at this;cases this
theorem StI.open' {S S':DiskS}{s:Sta}{G:Gs}{X c:Nat}(h:StI S s G X c) (hM:aget S'.files fM=aget S.files fM) (hs:∀k,(aget S'.files k).isSome=(aget S.files k).isSome):stoK S' ownSt (alikeB ownSt)=(0,s)∧tidyS S' s=(0,S'):=by
 have e1:loadS S'=loadS S:=by unfold loadS;rw [hM]
 have e2:∀t,restK S' t=restK S t:=fun t=>by unfold restK;simp only [hs]
 refine ⟨?_,?_⟩
 ·rw [←h.open]
  unfold stoK
  rw [e1,e2,e2]
 ·unfold tidyS
  refine zdu S' (fun f hf=>?_)
  rw [h.names]
  have hl:∀p,f∈S'.list p→f∈S.list p:=fun p hm=>by
   obtain ⟨h1,h2⟩:=mem_list.1 hm
   exact mem_list.2 ⟨by rw [←hs];exact h1,h2⟩
  unfold tidyL at hf
  rcases yag.1 hf with hf|hf
  ·have:=hl _ hf
   rw [h.listR] at this
   cases this
  ·obtain ⟨g,hg,rfl⟩:=h.listS (hl _ hf)
   exact yav (f:=fun g:Nat×List Prt=>nameS 115 g.1) hg
theorem loadS_few (S:DiskS):∀t:Sta,(t=ownSt∨t=(loadS S).1)→t.fl.length≤1000000∧t.ti.length≤1000000:=by
 rintro t (rfl|rfl)
 ·exact ⟨by decide,by decide⟩
 unfold loadS
 cases aget S.files fM with
 | none=>exact ⟨by decide,by decide⟩
 | some f =>
  show (loadO (staRd f.bytes)).1.fl.length≤_∧(loadO (staRd f.bytes)).1.ti.length≤_
  have h:=staRd_fits (l:=f.bytes) rfl
  cases hr:staRd f.bytes with
  | none=>exact ⟨by decide,by decide⟩
  | some s =>
   rw [hr] at h
   have h:s.fl.length≤512∧s.ti.length≤4:=h
   show s.fl.length≤_∧s.ti.length≤_
   omega
theorem load_bad {S:DiskS}{f:FileS}(hM:aget S.files fM=some f) (hb:(openR f.bytes).2.2≠0):stoK S ownSt (alikeB ownSt)=(24,staZ):=by
 have e:loadS S=(staZ,false,24):=by
  unfold loadS
  rw [hM]
  show loadO (staRd f.bytes)=_
  unfold staRd
  rw [if_pos (.inl hb)]
  rfl
 unfold stoK
 rw [e]
 rfl
def segF (q:Prt):Frs:=[(3,colIn q.2),(5,footL (zav [q])),(6,le4 (sealL 5 (footL (zav [q]))).length)]
theorem segF_eq (q:Prt):segB [q]=zbe (segF q):=by
 simp [segB,fileL,bodyL,zav,zcg,zbe,segF,endL,zaL]
theorem segF_ok {q:Prt}(h:PrtsOk [q]):∀r∈segF q,r.2.length≤1048576:=by
 have h1:=h.seg.foot_len
 have h2:=(colIn_len (l:=q.2) (zbY (h.col q (by simp))).2).2.2.2
 have h3:=(zbY (h.col q (by simp))).2
 intro r hr
 rcases yao.1 hr with e|hr
 ·rw [e];show (colIn q.2).length≤_;omega
 rcases yao.1 hr with e|hr
 ·rw [e];show (footL (zav [q])).length≤_;omega
 ·rw [yaj.1 hr];show 4≤_;omega
theorem seg_turned {S:DiskS}{nm:ByteArray}{f:FileS}{q:Prt}(hQ:PrtsOk [q]) (hv:∀p∈[q],VOk p.2) (hf:aget S.files nm=some f) {j:Nat}{r:UInt8×List UInt8}(hj:(segF q)[j]?=some r) {M:List UInt8}(hM:M.length=r.2.length+9) (ho:(openR M).2.2≠0)
 (hb:f.bytes=zbe ((segF q).take j)++(M++zbe ((segF q).drop (j+1)))) (n:ByteArray):GoodF S (zcj nm [q]) n (ofN [q] n)∨BadF S (zcj nm [q]) n:=by
 have hlen:=segB_len hQ
 rw [segF_eq,sealsL_at hj,yae,yae,zaF] at hlen
 have hbl:f.bytes.length≤167000:=by rw [hb,yae,yae,hM];omega
 rcases j with _|_|_|j
 ·have er:r=(3,colIn q.2):=(yaC hj).symm
  subst er
  have hMl:M.length=(zaL q.2).length:=by rw [hM];unfold zaL;rw [zaF]
  have hs:=hQ.seg
  have hx:OnDisk S (zcj nm [q]) [{ zcg q with blk:=M }]:=by
   refine ⟨⟨f,hf,?_⟩,⟨fun x hx=>?_,by simp,by simp,by simp [zay],?_⟩,rfl,rfl,rfl⟩
   ·rw [hb]
    have e1:footL [{ zcg q with blk:=M }]=footL (zav [q]):=by
     simp [footL,zay,zaZ,zav,itemP,bkP,hMl,zcg]
    unfold fileL endL
    rw [e1]
    simp [zbe,segF,bodyL]
   ·rw [yaj.1 hx]
    have h0:=hs.ok (zcg q) (by simp [zav])
    exact { valid:=h0.valid,b0:=by show 0<M.length;rw [hMl];exact h0.b0,b1:=by show M.length≤_;rw [hMl];exact h0.b1,l0:=h0.l0,l1:=h0.l1,l2:=h0.l2,n0:=h0.n0,n1:=h0.n1 }
   ·have:=hs.size
    simp [bodyL,zav,zcg] at this ⊢
    omega
  by_cases hn:q.1=n
  ·exact .inr (.inr ⟨_,0,_,hx,rfl,hn,ho⟩)
  ·exact .inl ⟨_,hx,.inl ⟨by simp [zay,zcg];exact fun e=>hn e.symm,by simp [ofN,hn]⟩⟩
 ·have er:r=(5,footL (zav [q])):=(yaC hj).symm
  subst er
  refine .inr (.inl ⟨f,hf,by omega,.inl ⟨zbe ((segF q).take 1),M,?_,ho⟩⟩)
  rw [hb]
  simp [zbe,segF,hM,zaF]
 ·have er:r=(6,le4 (sealL 5 (footL (zav [q]))).length):=(yaC hj).symm
  subst er
  have hM13:M.length=13:=by rw [hM];rfl
  have hb2:f.bytes=zbe ((segF q).take 2)++M:=by rw [hb];simp [zbe,segF]
  refine .inr (.inl ⟨f,hf,by omega,.inr ⟨by rw [hb2,yae];omega,?_⟩⟩)
  have e:f.bytes.length-13=(zbe ((segF q).take 2)).length:=by rw [hb2,yae];omega
  rw [e,hb2,List.drop_left]
  exact ho
 ·simp [segF] at hj
theorem turn_frame {k:UInt8}{l:List UInt8}{b q:Nat}(hq:q≤8*(l.length+9)) (hb:∃i,i<32∧q+i<8*(l.length+9)∧b.testBit i=true):(openR (flipL b q (sealL k l))).2.2≠0:=by
 obtain ⟨i,h1,h2,h3⟩:=hb
 refine openR_turned (by rw [zaF];exact hq) ⟨i,?_,h3⟩
 rw [zaF]
 omega
theorem StI.turned {S:DiskS}{s:Sta}{G:Gs}{X c:Nat}(h:StI S s G X c) (h1:∀g∈G,∃q,g.2=[q]) {n:ByteArray}{f:FileS}(hf:aget S.files n=some f) :
 ∃L:Frs,(∀r∈L,r.2.length≤1048576)∧f.bytes=zbe L∧0<L.length∧L.length≤3∧∀(j:Nat) (r:UInt8×List UInt8) (p b:Nat),L[j]?=some r→8*offF L j≤p→p<8*offF L (j+1)→(∀i,i<32→b.testBit i=true→p+i<8*offF L (j+1))→b<4294967296→(S.flip n (p:Int) b).1=0∧Verd (S.flip n (p:Int) b).2 s G (b≠0)∧DInv (S.flip n (p:Int) b).2 c:=by
 have core:∀(L:Frs),f.bytes=zbe L→(∀(S':DiskS) (j:Nat) (r:UInt8×List UInt8) (M:List UInt8),L[j]?=some r→M.length=r.2.length+9→(openR M).2.2≠0→DInv S' c→(∀k,aget S'.files k=if k=n then some { f with bytes:=zbe (L.take j)++(M++zbe (L.drop (j+1))) } else aget S.files k)→∀z:Prop,z→Verd S' s G z) →
  ∀(j:Nat) (r:UInt8×List UInt8) (p b:Nat),L[j]?=some r→8*offF L j≤p→p<8*offF L (j+1)→(∀i,i<32→b.testBit i=true→p+i<8*offF L (j+1))→b<4294967296→(S.flip n (p:Int) b).1=0∧Verd (S.flip n (p:Int) b).2 s G (b≠0)∧DInv (S.flip n (p:Int) b).2 c:=by
  intro L hL hbad j r p b hj hp1 hp2 hbits hb32
  have hle:=offF_le hj
  have hsu:=offF_succ hj
  have inv:=h.inv.flip n (p:Int) b
  have he:=flip_eq (b:=b) hf (show p<8*f.bytes.length by rw [hL];omega)
  rw [he] at inv ⊢
  refine ⟨rfl,?_,inv⟩
  have hget:∀k,aget (aput S.files n { f with bytes:=flipL b p f.bytes }) k=if k=n then some { f with bytes:=flipL b p f.bytes } else aget S.files k:=fun k=>by
   by_cases e:k=n
   ·rw [if_pos e,e,zbN]
   ·rw [if_neg e,zbI _ _ e]
  by_cases hb0:b=0
  ·have hs:flipL b p f.bytes=f.bytes:=flip_same (by rintro ⟨i,_,h⟩;rw [hb0] at h;simp at h)
   refine (h.same inv rfl rfl (fun k=>?_)).verd _
   show (aget (aput S.files n { f with bytes:=flipL b p f.bytes }) k).map _=_
   rw [hget]
   by_cases e:k=n
   ·rw [if_pos e,e,hf,hs]
   ·rw [if_neg e]
  ·obtain ⟨i,hi⟩:=Nat.exists_testBit_of_ne_zero hb0
   have hi32:i<32:=by
    rcases Nat.lt_or_ge i 32 with h|h
    ·exact h
    ·have:b<2 ^ i:=yal hb32 (yaL (by omega) h:2 ^ 32≤2 ^ i)
     rw [Nat.testBit_lt_two_pow this] at hi
     cases hi
   have hx:=hbits i hi32 hi
   have hA:(zbe (L.take j)).length=offF L j:=rfl
   have hmid:flipL b p f.bytes=zbe (L.take j)++(flipL b (p-8*offF L j) (sealL r.1 r.2)++zbe (L.drop (j+1))):=by
    rw [hL,sealsL_at hj]
    exact flipL_mid hp1 (fun i hi hbi=>by have:=hbits i hi hbi;rw [zaF,hA];omega)
   refine hbad _ j r (flipL b (p-8*offF L j) (sealL r.1 r.2)) hj (by rw [flipL_len,zaF]) (turn_frame (by omega) ⟨i,hi32,by omega,hi⟩) inv (fun k=>?_) _ hb0
   show aget (aput S.files n { f with bytes:=flipL b p f.bytes }) k=_
   rw [hget,hmid]
 rcases h.keys n (by rw [hf];rfl) with e|⟨g,hg,e⟩
 ·subst e
  have hfb:f.bytes=sealL 7 (staP s):=by
   rcases h.man with ⟨f',hf',hb⟩|⟨hn,_⟩
   ·rw [hf] at hf';cases hf';exact hb
   ·rw [hf] at hn;cases hn
  have hL:f.bytes=zbe [(7,staP s)]:=by rw [hfb];simp [zbe]
  have hsl:=staP_len h.r h.kmok
  refine ⟨[(7,staP s)],fun r hr=>by rw [yaj.1 hr];show (staP s).length≤_;omega,hL,by simp,by simp,core _ hL (fun S' j r M hj hM ho inv hget z hz=>.inl ⟨hz,?_⟩)⟩
  have hk:=hget fM
  rw [if_pos rfl] at hk
  refine load_bad hk ?_
  rcases j with _|j
  ·simpa [zbe] using ho
  ·simp at hj
 ·subst e
  obtain ⟨q,hq⟩:=h1 g hg
  have hok:=h.ok g hg
  rw [hq] at hok
  have hfb:f.bytes=segB [q]:=by
   obtain ⟨f',hf',hb⟩:=h.file g hg
   rw [hf] at hf';cases hf';rw [hb,hq]
  have hL:f.bytes=zbe (segF q):=by rw [hfb,segF_eq]
  refine ⟨segF q,segF_ok hok.1,hL,by simp [segF],by simp [segF],core _ hL (fun S' j r M hj hM ho inv hget z hz=>.inr ?_)⟩
  have hopen:=h.open' (S':=S') (by rw [hget,if_neg (fun e=>nameS_fM g.1 e.symm)]) (fun k=>by
   rw [hget]
   by_cases e:k=nameS 115 g.1
   ·rw [if_pos e,e,hf];rfl
   ·rw [if_neg e])
  refine ⟨hopen.1,hopen.2,fun nm=>?_⟩
  have hHl:(holdG G nm).length=s.fl.length:=by rw [h.flLen];simp [holdG]
  have other:∀(i:Nat) (F:Fl) (l:List Pt),s.fl[i]?=some F→(holdG G nm)[i]?=some l→F.nm≠nameS 115 g.1→GoodF S' F nm l:=by
   intro i F l hF hl hne
   obtain ⟨L,ho,hp⟩:=(h.holdP nm).2 i F l hF hl
   obtain ⟨f',hf',hb'⟩:=ho.file
   exact ⟨L,⟨⟨f',by rw [hget,if_neg hne];exact hf',hb'⟩,ho.ok,ho.a,ho.b,ho.k⟩,hp⟩
  have this':∀(i:Nat) (F:Fl),s.fl[i]?=some F→F.nm=nameS 115 g.1→F=zcj (nameS 115 g.1) [q]∧∀l,(holdG G nm)[i]?=some l→l=ofN [q] nm:=by
   intro i F hF hne
   obtain ⟨g',hg',eF,hm',_⟩:=h.onDisk hF
   have e2:nameS 115 g'.1=nameS 115 g.1:=by rw [eF] at hne;exact hne
   have k1:=h.num.2.1 g' hm'
   have k2:=h.num.2.1 g hg
   have k3:=h.num.2.2
   have e3:g'.1=g.1:=nameS_inj (by omega) (by omega) e2
   have e4:g'=g:=by
    have hnd:=h.num.1
    obtain ⟨a,ha,ea⟩:=yaD.1 hm'
    obtain ⟨b,hb,eb⟩:=yaD.1 hg
    have:a=b:=(List.getElem_inj (h₀:=by simpa using ha) (h₁:=by simpa using hb) hnd).1 (by rw [List.getElem_map,List.getElem_map,ea,eb,e3])
    subst this
    rw [←ea,←eb]
   subst e4
   refine ⟨by rw [eF,hq],fun l hl=>?_⟩
   unfold holdG at hl
   rw [yap,hg'] at hl
   rw [←hq]
   exact (yaC hl).symm
  rcases seg_turned hok.1 hok.2 (nm:=nameS 115 g.1) (by rw [hget,if_pos rfl]) hj hM ho rfl nm with hgood|hbad
  ·refine .inl ⟨hHl,fun i F l hF hl=>?_⟩
   by_cases e:F.nm=nameS 115 g.1
   ·obtain ⟨e1,e2⟩:=this' i F hF e
    rw [e1,e2 l hl]
    exact hgood
   ·exact other i F l hF hl e
  ·refine .inr ⟨hz,hHl,?_⟩
   have hmem:zcj (nameS 115 g.1) g.2∈s.fl:=by rw [h.fl];exact yav (f:=fun g:Nat×List Prt=>zcj (nameS 115 g.1) g.2) hg
   obtain ⟨k,hk,ek⟩:=yaD.1 hmem
   have hk':s.fl[k]?=some (zcj (nameS 115 g.1) [q]):=by rw [yac hk,ek,hq]
   refine ⟨k,_,hk',hbad,fun i F l hi hF hl=>other i F l hF hl (fun e=>?_)⟩
   obtain ⟨g1,hg1,eF,_,_⟩:=h.onDisk hF
   obtain ⟨g2,hg2,eF2,_,_⟩:=h.onDisk hk'
   have m1:=yaf hg1
   have m2:=yaf hg2
   have e2:nameS 115 g1.1=nameS 115 g2.1:=by
    have a1:F.nm=nameS 115 g1.1:=by rw [eF];rfl
    have a2:nameS 115 g.1=nameS 115 g2.1:=by
     have:=congrArg Fl.nm eF2
     exact this
    rw [←a1,←a2,e]
   have k1:=h.num.2.1 g1 m1
   have k2:=h.num.2.1 g2 m2
   have k3:=h.num.2.2
   have e3:g1.1=g2.1:=nameS_inj (by omega) (by omega) e2
   have:(G.map Prod.fst)[i]?=(G.map Prod.fst)[k]?:=by rw [yap,yap,hg1,hg2];simp [e3]
   have hil:i<(G.map Prod.fst).length:=by simp;exact (yad.1 hg1).1
   have:=(List.getElem?_inj hil h.num.1).1 this
   omega
theorem foot_bad (w:World) (a:Option Addr) (n c:Nat) {B:List UInt8}(hs:Src w 1 (.slice a n c) n (u8s B)) (hnc:n≤c) (hb:BadB B) :
 Calls Tryz.prog 121 #[.slice a n c] w (FootBad w):=by
 have hn:=zax hs
 obtain ⟨h0,⟨C,M,e,ho⟩|⟨h13,ho⟩⟩:=hb
 ·rw [e] at hs
  exact foot_badF w a n c C M hs hnc ho (by omega)
 ·exact foot_badE w a n c B hs hnc (by omega) (by rw [show n-13=B.length-13 by omega];exact ho) (by omega)
theorem stoRead_bad {w:World}{p d:Nat}{s:Sta}{S:DiskS}{B:List Nat}{v:StoV}(ok:S.Ok) (h:StoAt w p d s S B v) (F:Fl) {f:FileS}(hf:aget S.files F.nm=some f) (hb:BadB f.bytes) (hg:HasET w) :
 Calls Tryz.prog 43 #[.pointer (some ⟨p,0,none⟩),.agg #[.string F.nm,.int .i64 F.a,.int .i64 F.b,.int .i64 F.k]] w fun e w'=>e=.returned (.tuple #[.pointer none,.int .i64 24])∧Ext w w':=by
 have HRD:=hid (fun W (hW:Ext w W)=>zbw ok (h.ext hW).disk F.nm f hf)
 have HBB:=hid hb
 have HG:=hid hg
 have c0:w.cell? ⟨p,0,none⟩=some (.pointer (some ⟨d,0,none⟩)):=by have:=zaa h.box 0;simpa using this
 have HPL:=hid (zab h.box)
 obtain ⟨nm,fa,fb,fk⟩:=F
 simp only at HRD ⊢
 clear hf hb hg h ok
 go_enter Tryz.func43,Tryz.ntmps43
 go_upto_region 1 with fail
 generalize hW:World.alloc _ _=W
 obtain ⟨g,hgg⟩:∃g,g=w.heap.size:=⟨_,rfl⟩
 have HXW:Hid (Ext w W):=hid (by rw [←hW];exact (Ext.refl w).alloc _)
 have HB:Hid (W.heap[g]?=some (.cells #[.string nm,.int .i64 fa,.int .i64 fb,.int .i64 fk] 110 (0,0))):=hid (by rw [←hW,hgg];exact heap_alloc_new w _)
 rw [←hgg]
 have y0:=zaf (T:=fun _=>false) ((HXW.out.cell (p:=⟨p,0,none⟩) HPL.out).trans c0) rfl
 have y1:=zaf (T:=fun _=>false) (by have:=zaa HB.out 0;simpa using this:W.cell? ⟨g,0,none⟩=some (.string nm)) rfl
 clear hW hgg c0
 refine zam 11 (fun w'=>∃z:Turned,w'=turned W (fun _=>false) z.d z.f z.os) (.reads [0,1,2,3,4,5] (.one 6 (.reads [7,8,9,10] (.one 11 .done)))) (by kernel_rfl) (by kernel_rfl) (fun _ _ dd _ _ hh=>by cases dd<;>exact hh) ?_ ?_
 ·exact zae (Ext.drewN W 1)
 refine zak ?_
 simp only [zac,yab,yaa]
 repeat (go_big_quiet_step (fail))
 refine wpQuiet_nil ?_
 clear y0 y1
 change zaA _ _ _ _ _ _ _ _ (W.drewN 1)
 have HXd:Hid (Ext W (W.drewN 1)):=hid (Ext.drewN W 1)
 generalize W.drewN 1=Wd at HXd ⊢
 refine zad ?_
 simp only [zac,yab,yaa]
 go_wp2_with fail
 refine (HRD.out Wd (HXW.out.trans HXd.out)).mono ?_
 rintro e w3 ⟨v3,rfl,hrow,hown,hx3⟩
 obtain ⟨ra,rc,rfl⟩:=hrow.shape
 have HROW:=hid hrow
 have HX3:=hid (HXd.out.trans hx3)
 clear hrow hown hx3
 obtain ⟨bn,hbn⟩:∃bn,bn=f.bytes.length:=⟨_,rfl⟩
 rw [←hbn] at HROW ⊢
 clear hbn
 go_wp2_with fail
 refine zan (zae HX3.out) (zak ?_)
 simp only [zac,yab,yaa]
 repeat (go_big_quiet_step (fail))
 refine wpQuiet_nil ?_
 change zaA _ _ _ _ _ _ _ _ w3
 refine zad ?_
 simp only [zac,yab,yaa]
 go_wp2_with fail
 refine zat (zau ?_)
 go_wp2_with fail
 refine (segOpen_bad w3 ra bn rc (foot_bad w3 ra bn rc (HROW.out.src (zaC _)) (zbQ HROW.out) HBB.out) (HG.out.ext (HXW.out.trans HX3.out))).mono ?_
 rintro e w4 ⟨rfl,hx4⟩
 have HX4:=hid (HX3.out.trans hx4)
 clear hx4
 go_wp2_with fail
 go_ret2
 exact ⟨rfl,HXW.out.trans HX4.out⟩
theorem stoPoints_bad {w:World}{p d:Nat}{s:Sta}{S:DiskS}{B:List Nat}{v:StoV}(ok:S.Ok) (h:StoAt w p d s S B v) (nm:ByteArray) (H:List (List Pt)) (hH:BadAt S s.fl nm H) (hin:FlIn s.fl) (hN:H.length+(H.map List.length).sum<4000) (hg:HasET w) :
 Calls Tryz.prog 16 #[.pointer (some ⟨p,0,none⟩),.string nm,.int .i64 (-4611686018427387904),.int .i64 4611686018427387904] w fun e w'=>e=.returned (.tuple #[.slice none 0 0,.int .i64 24])∧Ext w w':=by
 obtain ⟨fa,fn,fc,ta,tn,tc⟩:=v
 have HH:=hid h
 have HG:=hid hg
 obtain ⟨hHl0,k0,F0,hF0,hbad,hgood⟩:=hH
 have HBAD:=hid (And.intro hF0 hbad)
 have HGOOD:=hid hgood
 have HIN:=hid hin
 have HN:=hid hN
 have HOK:=hid ok
 have hfl:s.fl.length=fn:=zbv h.st.fl
 have hHl:H.length=fn:=by rw [hHl0,hfl]
 have HHL:=hid hHl
 have hvn:fn<4000:=by omega
 have hk0:k0<fn:=by have:=(yad.1 hF0).1;omega
 have HFS:Hid (Src w 4 (.slice fa fn fc) fn (fls s.fl)):=hid h.st.fl
 have c7:w.cell? ⟨p,7,none⟩=some (.slice fa fn fc):=by have:=zaa h.box 7;simpa using this
 clear h hg hHl0 hF0 hbad hgood hin hN ok hfl hHl
 go_enter Tryz.func16,Tryz.ntmps16
 go_wp2_with fail
 refine (zdW HH.out).mono ?_
 rintro e w1 ⟨rfl,rfl⟩
 go_wp2_with fail
 clear c7
 go_loopw [8,9,10,24] (fun s8 s9 s10 s24 wr=>∃(k vn vc:Nat) (va:Option Addr),s8=.slice none 0 0∧s9=.int .i64 0∧s10=.slice va vn vc∧s24=.int .i64 (k:Int)∧k≤k0∧vn≤k∧Hid (∃ls,PtsI w (-4611686018427387904) 4611686018427387904 H k ls va vn vc wr)) (fun _ _ _ z _=>fn-(RowKit.intOf z).toNat)
 case atStart=>exact ⟨0,0,0,none,rfl,rfl,rfl,rfl,by omega,by omega,hid ⟨[],⟨Row.nil _ _ _,by simp,by simp,by simp,by simp,Ext.refl _,rfl,⟨rfl,by omega⟩,by simp [totS]⟩⟩⟩
 case round =>
  obtain ⟨k,vn,vc,va,rfl,rfl,rfl,rfl,hk,hvk,HI⟩:=hrel
  have hlt:k<fn:=by omega
  obtain ⟨ls,hI⟩:=HI.out
  have HPI:=hid hI
  obtain ⟨fb,fo,F,rfl,hF,f0,f1,f2,f3⟩:=fls_src (HFS.out.ext hI.ext) hlt
  obtain ⟨l,hl⟩:∃l,H[k]?=some l:=⟨_,yac (by have:=HHL.out;omega)⟩
  have HLK:=hid hl
  have HFK:=hid hF
  obtain ⟨z1,z2,z3⟩:=HIN.out F (yaf hF)
  obtain ⟨fnm,ga,gb,gk⟩:=F
  simp only at f0 f1 f2 f3 z1 z2 z3
  have h1:¬gb < -4611686018427387904:=by omega
  have h2:¬4611686018427387904≤ga:=by omega
  clear hF hl hI z1 z2 z3
  go_upto_region 7 with fail
  generalize hW:World.alloc _ _=W
  obtain ⟨bx,hbx⟩:∃bx,bx=wr.heap.size:=⟨_,rfl⟩
  have HXW:Hid (Ext wr W):=hid (by rw [←hW];exact (Ext.refl wr).alloc _)
  have HB:Hid (W.heap[bx]?=some (.cells #[.string fnm,.int .i64 ga,.int .i64 gb,.int .i64 gk] 110 (0,0))):=hid (by rw [←hW,hbx];exact heap_alloc_new wr _)
  rw [←hbx]
  clear hW hbx f0 f1 f2 f3
  have y1:=zaa HB.out 1
  have y2:=zaa HB.out 2
  simp at y1 y2
  by_cases hkk:k=k0
  ·obtain ⟨hF0,hbad⟩:=HBAD.out
   have hFe:F0=⟨fnm,ga,gb,gk⟩:=by
    have h3:=HFK.out
    rw [hkk] at h3
    rw [hF0] at h3
    exact yaC h3
   rw [hFe] at hbad
   rcases hbad with ⟨f,hf,hbb⟩|⟨L,i,x,hod,hx,rfl,hob⟩
   ·have HBB:=hid (And.intro hf hbb)
    clear hF0 hFe hf hbb HBAD
    go_wp2_with (refine zas rfl _ _ rfl _ _ _ _ _ rfl HB.out Tryz.underlying110 rfl zcB ?_)
    refine (stoRead_bad HOK.out (HH.out.ext (HPI.out.ext.trans HXW.out)) ⟨fnm,ga,gb,gk⟩ HBB.out.1 HBB.out.2 (HG.out.ext (HPI.out.ext.trans HXW.out))).mono ?_
    rintro e w2 ⟨rfl,hx2⟩
    have HX2:=hid (HXW.out.trans hx2)
    clear hx2 y1 y2
    go_wp2_with fail
    go_ret2
    exact ⟨rfl,HPI.out.ext.trans HX2.out⟩
   ·have HOD:=hid hod
    have HXX:=hid (And.intro hx hob)
    clear hF0 hFe hod hx hob HBAD
    go_wp2_with (refine zas rfl _ _ rfl _ _ _ _ _ rfl HB.out Tryz.underlying110 rfl zcB ?_)
    refine (stoRead_any HOK.out (HH.out.ext (HPI.out.ext.trans HXW.out)) ⟨fnm,ga,gb,gk⟩ L HOD.out (HG.out.ext (HPI.out.ext.trans HXW.out))).mono ?_
    rintro e w2 ⟨q,rfl,hsg,hx2⟩
    have HSG:=hid hsg
    have HX2:=hid (HXW.out.trans hx2)
    clear hsg hx2 y1 y2
    go_wp2_with fail
    refine (segPoints_bad HSG.out HOD.out.ok.nodup (-4611686018427387904) 4611686018427387904 HXX.out.1 (by have h3:=HOD.out.ok.ok x (yaf HXX.out.1);have:=h3.l0;have:=h3.l1;have:=h3.l2;omega) HXX.out.2 (by have:=HOD.out.ok.size;omega)).mono ?_
    rintro e w3 ⟨rfl,hx3⟩
    have HX3:=hid (HX2.out.trans hx3)
    clear hx3
    go_wp2_with fail
    go_ret2
    exact ⟨rfl,HPI.out.ext.trans HX3.out⟩
  ·obtain ⟨L,hod,hhp⟩:=HGOOD.out k _ l (by omega) HFK.out HLK.out
   have HOD:=hid hod
   have HHAS:=hid hhp
   clear hod hhp
   go_wp2_with (refine zas rfl _ _ rfl _ _ _ _ _ rfl HB.out Tryz.underlying110 rfl zcB ?_)
   refine (stoRead_any HOK.out (HH.out.ext (HPI.out.ext.trans HXW.out)) ⟨fnm,ga,gb,gk⟩ L HOD.out (HG.out.ext (HPI.out.ext.trans HXW.out))).mono ?_
   rintro e w2 ⟨q,rfl,hsg,hx2⟩
   have HSG:=hid hsg
   have HX2:=hid (HXW.out.trans hx2)
   clear hsg hx2 y1 y2
   go_wp2_with fail
   refine (segPts_any HSG.out HOD.out.ok nm l HHAS.out (-4611686018427387904) 4611686018427387904 (HG.out.ext (HPI.out.ext.trans HX2.out))).mono ?_
   rintro e w3 ⟨v3,rfl,hc⟩
   obtain ⟨ca,cc,rfl⟩:=hc.row.shape
   have HC:=hid hc
   have HNC:=hid (zbQ hc.row)
   obtain ⟨cn,hcn⟩:∃cn,cn=(cutL (-4611686018427387904) 4611686018427387904 l).length:=⟨_,rfl⟩
   rw [←hcn]
   have HCN:=hid hcn
   clear hc hcn
   have HROW:=hid (HPI.out.row.ext (HX2.out.trans HC.out.ext))
   go_wp2_with (at_builtin;go_must (refine zah (n:=vn) (m:=1) (v:=.slice va vn vc) elem_lsl rfl _ _ rfl rfl rfl (HROW.out.alloc _) (src_lsl (x:=⟨ca,cn,cc,cutL (-4611686018427387904) 4611686018427387904 l⟩) (heap_alloc_new _ _)) (by unfold maxLen;omega) (by omega) ?_;intro v4 w4 happ);obtain ⟨va',vc',rfl⟩:=happ.row.shape;have HA:=hid happ;clear happ)
   go_roundw
   case rel=>exact ⟨k+1,vn+1,vc',va',rfl,rfl,rfl,by go_num,by omega,by omega,hid ⟨_,HPI.out.add HLK.out HX2.out HC.out HNC.out ((Ext.refl w3).alloc _) (by have h:=HA.out;rw [HCN.out] at h;exact h)⟩⟩
   case measure=>simp [RowKit.intOf];omega
end
section
open Go.RowKit Go.Sort Go.Lib
theorem storeBits_any (w:World) (a:Option Addr) (n c:Nat) (P:List AcM) (hs:Src w 5 (.slice a n c) n (acms P)) (hok:∀p∈P,p.Ok w) (hn:n<4398046511104) (at':Int) (by':Nat) (hat:-9223372036854775808≤at'∧at'≤9223372036854775807) (hby:by'<4294967296) (hg:HasET w) :
 Calls Tryz.prog 3 #[.slice a n c,.int .i64 at',.int .u32 (by':Int)] w fun e w'=>e=.returned (.bool true)∧Ext w w':=by
 have HS:=hid hs
 have HOK:=hid hok
 have HG:=hid hg
 have HPL:=hid (acms_src_len hs)
 have HAT:=hid hat
 have HBY:=hid hby
 clear hs hok hg hat hby
 go_enter Tryz.func3,Tryz.ntmps3
 go_wp2_with fail
 refine (lawFew_any w a n c P HS.out HOK.out hn).mono ?_
 rintro e w1 ⟨rfl,rfl⟩
 by_cases hfew:n+manyA P<600
 case neg =>
  rw [decide_eq_false hfew]
  go_wp2_with fail
  go_ret
  exact ⟨rfl,Ext.refl _⟩
 rw [decide_eq_true hfew]
 have HFEW:=hid hfew
 have hn6:n<600:=by omega
 clear hfew
 go_wp2_with fail
 refine (disk_new (by omega) (by omega) w).mono ?_
 rintro e w2 ⟨rfl,hd,hx⟩
 obtain ⟨d,hde⟩:∃d,d=w.heap.size+1:=⟨_,rfl⟩
 have hB:∀b∈[w.heap.size+1,w.heap.size],w.heap.size≤b:=fun b hb=>by simp at hb;omega
 have HO:=hid (open_new hd hx hB HG.out)
 rw [←hde] at HO ⊢
 clear hd hx hB hde
 go_wp2_with fail
 refine HO.out.mono ?_
 rintro e w3 ⟨p,B,rfl,hsto⟩
 have HSTO:=hid hsto
 clear hsto HO
 go_upto_region 10 with fail
 generalize hW:World.alloc _ _=w4
 obtain ⟨mb,hmb⟩:∃b,b=w3.heap.size:=⟨_,rfl⟩
 rw [←hmb]
 have hpl:p<w3.heap.size:=by
  obtain ⟨s,S,B0,v,q1,_⟩:=HSTO.out.at'
  exact zab q1.box
 have HL0:Hid (LawI w p d mb 0 0 [] [] 0 0 B none 0 0 w4):=hid (LawI.start HSTO.out hmb.symm (by rw [←hW];exact (Ext.refl w3).alloc _) (by rw [←hW,hmb];exact heap_alloc_new w3 _) hpl)
 clear hW hmb hpl HSTO
 go_upto_block 0 with fail
 go_cut [11] (fun s11 wc=>Hid (∃G F X cc B ma mn mc,LawI w p d mb 599 10 G F X cc B ma mn mc wc∧SameG G F))
 case first =>
  go_wp2_with fail
  go_loopw [11] (fun s11 wr=>∃j:Nat,s11=.int .i64 (j:Int)∧j≤n∧j≤10∧Hid (∃G F X cc B ma mn mc,LawI w p d mb (manyA (P.take j)) j G F X cc B ma mn mc wr∧SameG G F)) (fun z _=>10-(RowKit.intOf z).toNat)
  case atStart=>exact ⟨0,rfl,by omega,by omega,hid ⟨_,_,_,_,_,_,_,_,(show LawI w p d mb (manyA (P.take 0)) 0 [] [] 0 0 B none 0 0 w4 from by simpa [manyA] using HL0.out),rfl⟩⟩
  case round =>
   obtain ⟨j,rfl,hj,hj10,HI⟩:=hrel
   by_cases hlt:j<n
   ·by_cases h10:j<10
    ·obtain ⟨G,F,X,cc,B,ma,mn,mc,hL,hsm⟩:=HI.out
     have HSM:=hid hsm
     have HL:=hid hL
     obtain ⟨b,off,q,rfl,hq,c0,d1,d2,c3,c4⟩:=acms_src HS.out hlt
     have c1:=zbU hL.world d1
     have c2:=zbU hL.world d2
     have HC1:=hid d1
     have HC2:=hid d2
     have hbl:b<w.heap.size:=World.block_lt_of_cell? _ _ d1
     have HQ:=hid (HOK.out q (yaf hq))
     have HMA:=hid (manyA_take hq)
     have HML:=hid (manyA_le P (j+1))
     obtain ⟨r,hst,hrj⟩:=hL.sto
     have hlen:=hL.len
     have hsum:=hL.sum
     have HFB:∀(W2:World) (Ws:World) (bk:Nat),Ext wr W2→Ext W2 Ws→Ws.heap[bk]?=some (.cells #[.string (nmL q.nm),.slice q.pa q.pn q.pc] 43 (0,0))→Calls Tryz.prog 11 #[.pointer (some ⟨p,0,none⟩),.slice (some ⟨bk,0,none⟩) 1 1,.int .i64 (j:Int),.int .i64 (j:Int),.agg #[.bool false,.int .i64 0,.int .i64 5]] Ws fun e w'=>(colV q.l=true∧e=.returned (.int .i64 0)∧StepTo w p d (j:Int) (G++[(X,[(nmL q.nm,q.l)])]) (X+1) (cc+7) B Ws w')∨(colV q.l=false∧e=.returned (.int .i64 2)∧StepTo w p d r G X cc B Ws w'):=by
      intro W2 Ws bk hx1 hx2 hb
      have hx:=hL.world.trans (hx1.trans hx2)
      have hqo:=(HOK.out q (yaf hq)).ext hx
      have hle:q.l.length≤600:=by have:=hqo.pn;have:=HMA.out;have:=HML.out;have:=HFEW.out;omega
      have hT:totG G+q.l.length≤600:=by have:=hqo.pn;have:=HMA.out;have:=HML.out;have:=HFEW.out;omega
      by_cases hc:colV q.l=true
      ·exact (flush_good (hst.next (hx1.trans hx2)) j hrj (by omega) (by omega) (by omega) (by omega) (some ⟨bk,0,none⟩) 1 q.part (src_pam hb) hqo.part (nmL_valid _) hc hqo.v hT).mono (fun e w' h=>.inl ⟨hc,h⟩)
      ·have hc':colV q.l=false:=by simpa using hc
       exact (flush_bad (hst.next (hx1.trans hx2)) j hrj (by omega) (by omega) (by omega) (by omega) (some ⟨bk,0,none⟩) 1 q.part (src_pam hb) hqo.part (nmL_valid _) hc' (by have:=hqo.pn;show q.pn≤1024;omega)).mono (fun e w' h=>.inr ⟨hc',h⟩)
     have HFL:=hid HFB
     have HRJ:=hid hrj
     have HQM:=hid (yaf hq)
     clear hL hsm hq HI c0 c3 c4 d1 d2 hst hrj hlen hsum HFB
     have y1:=zaf (T:=fun _=>false) c1 rfl
     have y2:=zaf (T:=fun _=>false) c2 rfl
     clear c1 c2
     go_upto_region 13 with fail
     refine zam 17 (fun w'=>∃z:Turned,w'=turned wr (fun _=>false) z.d z.f z.os) (.reads [0,1,2,3,4,5,7,8,9,10,11,14,15,16] (.one 6 (.one 12 (.one 13 (.one 17 (.one 18 .done)))))) (by kernel_rfl) (by kernel_rfl) (fun _ _ dd _ _ hh=>by cases dd<;>exact hh) ?_ ?_
     ·exact zae (Ext.drewN wr 1)
     refine zak ?_
     simp only [zac,yab,yaa]
     repeat (go_big_quiet_step (fail))
     refine wpQuiet_nil ?_
     clear y1 y2
     change zaA _ _ _ _ _ _ _ _ (wr.drewN 1)
     have HXd:Hid (Ext wr (wr.drewN 1)):=hid (Ext.drewN wr 1)
     generalize wr.drewN 1=Wd at HXd ⊢
     refine zad ?_
     simp only [zac,yab,yaa]
     go_wp2_with fail
     refine (zea Wd q.nm HQ.out.nm).mono ?_
     rintro e w5 ⟨rfl,hx5⟩
     have HX5:=hid (HXd.out.trans hx5)
     clear hx5 HXd
     go_wp2_with fail
     refine zan (zae HX5.out) (zad ?_)
     simp only [zac,yab,yaa]
     go_wp2_with fail
     refine zan (zae HX5.out) (zad ?_)
     simp only [zac,yab,yaa]
     go_wp2_with fail
     generalize hW6:World.alloc _ _=w6
     obtain ⟨bk,hbk⟩:∃k,k=w5.heap.size:=⟨_,rfl⟩
     rw [←hbk]
     have HX6:Hid (Ext w5 w6):=hid (by rw [←hW6];exact (Ext.refl w5).alloc _)
     have HBK:Hid (w6.heap[bk]?=some (.cells #[.string (nmL q.nm),.slice q.pa q.pn q.pc] 43 (0,0))):=hid (by rw [←hW6,hbk];exact heap_alloc_new w5 _)
     clear hW6 hbk
     refine zan (zae (HX5.out.trans HX6.out)) (zad ?_)
     simp only [zac,yab,yaa]
     go_wp2_with fail
     refine (HFL.out w5 w6 bk HX5.out HX6.out HBK.out).mono ?_
     rintro e w7 (⟨hcv,rfl,hst⟩|⟨hcv,rfl,hst⟩)
     ·have HST:=hid hst
      have HCV:=hid hcv
      clear hst hcv HFL HBK
      go_wp2_with fail
      refine zat (zad ?_)
      simp only [zac,yab,yaa]
      go_wp2_with fail
      refine zat (zau ?_)
      have HL6:=hid (HL.out.ext (HX5.out.trans HX6.out))
      obtain ⟨hmo,hx7⟩:=HL6.out.mid HST.out
      have HMO:=hid hmo
      have HX7:=hid hx7
      have hmn:mn≤10:=by have:=HL.out.mn;have:=HL.out.len;omega
      have hnewb:ownB ma b=false:=decide_eq_false (fun e=>by have:=HL.out.new.2 b e;omega)
      have m0:=zaf (T:=ownB ma) (by have:=zaa hmo.box 0;simpa using this:w7.cell? ⟨mb,0,none⟩=some (.slice ma mn mc)) (decide_eq_false hmo.ne)
      have y1:=zaf (T:=ownB ma) (zbU hx7 HC1.out) hnewb
      have y2:=zaf (T:=ownB ma) (zbU hx7 HC2.out) hnewb
      have HX5a:=HX5
      have HX6a:=HX6
      clear hmo hx7 hnewb HX5 HX6
      go_upto_region 14 with fail
      refine zam 21 (fun w'=>∃z:Turned,w'=turned w7 (ownB ma) z.d z.f z.os) (.reads [0,1,2,3,4,5,6,7,8,9,11,12,13,14,15] (.one 10 (.one 16 (.one 17 (.one 18 (.one 19 (.one 20 (.one 21 .done)))))))) (by kernel_rfl) (by kernel_rfl) (fun _ _ dd _ _ hh=>by cases dd<;>exact hh) ?_ ?_
      ·exact zae (Ext.drewN w7 1)
      refine zak ?_
      simp only [zac,yab,yaa]
      repeat (go_big_quiet_step (fail))
      refine wpQuiet_nil ?_
      clear y1 y2 m0
      change zaA _ _ _ _ _ _ _ _ (w7.drewN 1)
      have HXd:Hid (Ext w7 (w7.drewN 1)):=hid (Ext.drewN w7 1)
      generalize w7.drewN 1=Wd at HXd ⊢
      refine zad ?_
      simp only [zac,yab,yaa]
      go_wp2_with fail
      refine (zea Wd q.nm HQ.out.nm).mono ?_
      rintro e w8 ⟨rfl,hx8⟩
      have HX8:=hid (HXd.out.trans hx8)
      clear hx8 HXd
      go_wp2_with fail
      refine zan (zae HX8.out) (zad ?_)
      simp only [zac,yab,yaa]
      go_wp2_with fail
      refine zan (zae HX8.out) (zad ?_)
      simp only [zac,yab,yaa]
      go_wp2_with fail
      generalize hW9:World.alloc _ _=w9
      obtain ⟨fk,hfk⟩:∃k,k=w8.heap.size:=⟨_,rfl⟩
      rw [←hfk]
      have HX9:Hid (Ext w7 w9):=hid (HX8.out.trans (by rw [←hW9];exact (Ext.refl w8).alloc _))
      have HFK:Hid (w9.heap[fk]?=some (.cells #[.string q.part.nm,.slice q.part.a q.part.n q.part.c] 48 (0,0))):=hid (by rw [←hW9,hfk];exact heap_alloc_new w8 _)
      clear hW9 hfk
      refine zan (zae HX9.out) (zad ?_)
      simp only [zac,yab,yaa]
      have HMO9:=hid (HMO.out.ext HX9.out)
      go_wp2_with (at_builtin;go_must (refine zah (n:=mn) (m:=1) (v:=.slice ma mn mc) elem_mfl rfl _ _ rfl rfl rfl HMO9.out.row (src_pam (q:=q.part) HFK.out) (by unfold maxLen;omega) (by omega) ?_;intro v4 w10 happ);obtain ⟨va',vc',rfl⟩:=happ.row.shape;have HA:=hid happ;clear happ)
      have HMB:Hid (w10.heap[mb]?=some (.cells #[.slice ma mn mc] 35 (0,0))):=hid ((HA.out.chg.block mb (zab HMO9.out.box) (fun e=>HMO9.out.ne (by rw [zaw] at e;exact e))).trans HMO9.out.box)
      have HCH:Hid (Chg (fun k=>ownB ma k=true) w7 w10):=hid ((Chg.of_ext (S:=fun k=>ownB ma k=true) HX9.out).trans (HA.out.chg.mono (fun i _ e=>by rw [zaw] at e;exact decide_eq_true e)) (fun _ _ e=>e))
      refine zan (zar HCH.out) (zad ?_)
      simp only [zac,yab,yaa]
      go_wp2_with fail
      refine zan (zar HCH.out) (zad ?_)
      simp only [zac,yab,yaa]
      go_wp2_with fail
      refine zan (zar HCH.out) (zad ?_)
      simp only [zac,yab,yaa]
      go_wp2_with (refine zap rfl _ _ _ rfl mb 0 _ #[.slice va' (mn+1) vc'] _ _ rfl rfl rfl rfl HMB.out (by simp) rfl mfl_slice_info ?_;rintro w11 hbV hcV _he;have HBV:=hid hbV;have HCV2:=hid hcV;clear hbV hcV _he)
      refine zat (zau ?_)
      go_wp2_with fail
      go_roundw
      case rel =>
       refine ⟨j+1,by go_num,by omega,by omega,hid ?_⟩
       have hqo:=HQ.out.ext HX7.out
       have hlen:=HL.out.len
       obtain ⟨B2,h2⟩:=HL.out.put (HX5a.out.trans HX6a.out) (q:=q.part) HCV.out HST.out (by omega) (by have:=hqo.pn;have:=HMA.out;have:=HML.out;have:=HFEW.out;show _+q.l.length≤600;omega) hqo.part (by have:=hqo.pn;have:=HMA.out;have:=HML.out;have:=HFEW.out;show q.pn<_;omega) (fun hn g hg=>HQ.out.blk hn g hg) HX9.out HA.out HCV2.out HBV.out
       have e:manyA (P.take (j+1))=manyA (P.take j)+q.part.l.length:=by rw [HMA.out];have:=HQ.out.pn;show _=_+q.l.length;omega
       rw [←e] at h2
       exact ⟨_,_,_,_,_,_,_,_,h2,HSM.out.put X q.part⟩
      case measure=>simp [RowKit.intOf];omega
     ·have HST:=hid hst
      have HCV:=hid hcv
      clear hst hcv HFL HBK
      go_wp2_with fail
      refine zat (zad ?_)
      simp only [zac,yab,yaa]
      go_wp2_with fail
      refine zat (zau ?_)
      go_wp2_with fail
      go_roundw
      case rel =>
       refine ⟨j+1,by go_num,by omega,by omega,hid ?_⟩
       have hl:=HL.out.len
       have hsum:=HL.out.sum
       have hrj0:=HRJ.out
       obtain ⟨B2,h2⟩:=(HL.out.ext (HX5.out.trans HX6.out)).step HST.out (N':=manyA (P.take (j+1))) (j':=j+1) (by omega) HL.out.mod (by rw [HMA.out];omega) (by rw [HMA.out];omega) (by omega) (by omega) (by omega) (by omega)
       exact ⟨_,_,_,_,_,_,_,_,h2,HSM.out⟩
      case measure=>simp [RowKit.intOf];omega
    ·obtain rfl:j=10:=by omega
     obtain ⟨G,F,X,cc,B,ma,mn,mc,hL,hsm⟩:=HI.out
     have HD:Hid (∃G F X cc B ma mn mc,LawI w p d mb 599 10 G F X cc B ma mn mc wr∧SameG G F):=hid ⟨_,_,_,_,_,_,_,_,hL.more (by have:=manyA_le P 10;have:=HFEW.out;omega) (by omega),hsm⟩
     clear hL hsm HI
     go_wp2_with fail
     go_meet
     exact HD
   ·obtain rfl:j=n:=by omega
    obtain ⟨G,F,X,cc,B,ma,mn,mc,hL,hsm⟩:=HI.out
    have HD:Hid (∃G F X cc B ma mn mc,LawI w p d mb 599 10 G F X cc B ma mn mc wr∧SameG G F):=hid ⟨_,_,_,_,_,_,_,_,hL.more (by have:=manyA_le P j;have:=HFEW.out;omega) (by omega),hsm⟩
    clear hL hsm HI
    go_wp2_with fail
    go_meet
    exact HD
 case rest =>
  obtain ⟨G,F,X,cc,B,ma,mn,mc,hL,hsm⟩:=hcut.out
  have HL:=hid hL
  have HSM:=hid hsm
  have hmn:mn≤10:=by have:=hL.mn;have:=hL.len;omega
  have hGF:G.length=mn:=by have:=hsm.len;have:=hL.mn;omega
  have HONE:Hid (∀g∈G,∃q,g.2=[q]):=hid (fun g hg=>by
   have h1:g.2∈G.map Prod.snd:=yav hg
   rw [hsm] at h1
   obtain ⟨q,_,e⟩:=yan.1 h1
   exact ⟨_,e.symm⟩)
  obtain ⟨r,hst,hrj⟩:=hL.sto
  obtain ⟨s,S,B0,v,h1,h2,h3,h4,h5⟩:=hst.at'
  have HST:=hid hst
  have H1:=hid h1
  have H2:=hid h2
  have H4:=hid h4
  have m0:=zaa HL.out.mo.box 0
  simp at m0
  clear hL hsm hcut hst h1 h2 h3 h4 h5
  go_wp2_with fail
  refine (disk_list H2.out.inv.ok H1.out.disk ⟨#[]⟩).mono ?_
  rintro e w5 ⟨v5,rfl,hto⟩
  obtain ⟨la,lc,rfl⟩:=hto.row.shape
  have HX5:=hid hto.ext
  have HSRC:=hid hto.row.strs_src
  have HLS:Hid (∀k f,(S.list ⟨#[]⟩)[k]?=some f→(aget S.files f).isSome=true):=hid (fun k f hk=>(mem_list.1 (yaf hk)).1)
  have HL0:Hid ((S.list ⟨#[]⟩).length=0→mn=0):=hid (fun h0=>by
   rcases Nat.eq_zero_or_pos mn with e|e
   ·exact e
   ·obtain ⟨g,hg⟩:=List.exists_mem_of_length_pos (show 0<G.length by omega)
    obtain ⟨f,hf,_⟩:=H2.out.file g hg
    have:nameS 115 g.1∈S.list ⟨#[]⟩:=mem_list.2 ⟨by rw [hf];rfl,by simp [bl,Lib.hasPrefix]⟩
    have:=List.length_pos_of_mem this
    omega)
  have HLL:Hid ((S.list ⟨#[]⟩).length≤31):=hid (by
   have h1:(S.list ⟨#[]⟩).length≤S.files.length:=by unfold DiskS.list;rw [zdo];unfold DiskS.names;exact Nat.le_trans (List.length_filter_le _ _) (by simp)
   have:=H2.out.len
   omega)
  have m0:=zbU HX5.out m0
  generalize S.list ⟨#[]⟩=LS at *
  obtain ⟨n5,hn5⟩:∃n5,n5=LS.length:=⟨_,rfl⟩
  rw [←hn5] at HSRC HL0 HLL ⊢
  clear hto hn5
  rcases Nat.eq_zero_or_pos n5 with h50|h5p
  ·have hm0:=HL0.out h50
   subst hm0
   subst h50
   go_wp2_with fail
   go_ret
   exact ⟨rfl,HL.out.world.trans HX5.out⟩
  have hn0i:((n5:Int)==0)=false:=yak.2 (by omega)
  have hl31:=HLL.out
  clear m0
  obtain ⟨r1,r2,r3,r4⟩:=bits_range at' n5 h5p
  obtain ⟨k,hk⟩:∃k:Nat,(at'.tmod (n5:Int)+(n5:Int))%(n5:Int)=(k:Int):=⟨_,(Int.toNat_of_nonneg r1).symm⟩
  have hkn:k<n5:=by omega
  have hat:=HAT.out
  obtain ⟨fb,fo,nm,rfl,hnm,cf⟩:=strs_src HSRC.out hkn
  obtain ⟨f,hf⟩:=Option.isSome_iff_exists.1 (HLS.out k nm hnm)
  have HF:=hid hf
  clear hnm hf
  go_wp2_with fail
  clear cf r1 r2 r3 r4 hat hk
  refine (zbw H2.out.inv.ok (H1.out.disk.ext HX5.out) nm f HF.out).mono ?_
  rintro e w6 ⟨v6,rfl,hrow,hown,hx6⟩
  obtain ⟨ra,rc,rfl⟩:=hrow.shape
  obtain ⟨Lf,hf1,hf2,hf3,hf4,hf5⟩:=H2.out.turned HONE.out HF.out
  obtain ⟨bn,hbn⟩:∃bn,bn=f.bytes.length:=⟨_,rfl⟩
  have HROW:=hid (hrow.src (zaC _))
  rw [←hbn] at HROW ⊢
  have HX6:=hid (HX5.out.trans hx6)
  have HF1:=hid hf1
  have HF2:=hid hf2
  have HF5:=hid hf5
  have HBL:Hid (bn=offF Lf Lf.length):=hid (by rw [hbn,hf2,offF_all])
  have hbs:bn≤1048576:=by rw [hbn];exact H2.out.inv.ok.small _ (zaY HF.out)
  have hbp:0<bn:=by
   rw [HBL.out]
   have h0:Lf[0]?=some Lf[0]:=yac hf3
   have h1:=offF_le h0
   rw [←offF_all] at h1
   omega
  clear hrow hown hx6 hf1 hf2 hf3 hf4 hf5 hbn
  obtain ⟨x0,hx0,hx1⟩:∃x0:Nat,bits .and .i64 (at'/8) 65535=(x0:Int)∧x0<65536:=⟨(at'/8%65536).toNat,by rw [i64_and65535];omega,by omega⟩
  have hnz:(8*(bn:Int)==0)=false:=yak.2 (by omega)
  have hat:=HAT.out
  go_upto_region 22 with fail
  obtain ⟨p0,hp0,hpb⟩:∃p0:Nat,(x0:Int)%(8*(bn:Int))=(p0:Int)∧p0<8*bn:=⟨x0%(8*bn),by push_cast;rfl,Nat.mod_lt _ (by omega)⟩
  rw [hp0]
  clear hx0 hx1 hp0 hnz hat
  go_upto_block 2 with fail
  go_cut [18] (fun s18 wc2=>∃(j e:Nat),s18=.int .i64 (e:Int)∧Hid (Ext w6 wc2)∧e≤bn∧Hid (e=offF Lf (j+1)∧j<Lf.length∧8*offF Lf j≤p0∧p0<8*e))
  case first =>
   go_wp2_with fail
   go_loopw [18] (fun s18 wz=>∃j e:Nat,s18=.int .i64 (e:Int)∧Hid (Ext w6 wz)∧e≤bn∧Hid (e=offF Lf j∧j≤Lf.length∧(j=0∨8*offF Lf (j-1)≤p0))) (fun z _=>2000000-(RowKit.intOf z).toNat)
   case atStart=>exact ⟨0,0,rfl,hid (Ext.refl _),by omega,hid ⟨rfl,by omega,.inl rfl⟩⟩
   case round =>
    obtain ⟨j,e,rfl,HXR,he,HJ⟩:=hrel
    by_cases hle:8*e≤p0
    ·obtain ⟨h1,h2,h3⟩:=HJ.out
     have hjl:j<Lf.length:=by
      rcases Nat.lt_or_ge j Lf.length with h|h
      ·exact h
      ·have h4:j=Lf.length:=by omega
       have:=HBL.out
       rw [h4] at h1
       omega
     obtain ⟨fr,hfr⟩:∃fr,Lf[j]?=some fr:=⟨_,yac hjl⟩
     have hfl:=HF1.out fr (yaf hfr)
     obtain ⟨x,y,z,k1,k2,k3,k4⟩:=frame_head hfr hfl
     rw [←HF2.out,←h1] at k1 k2 k3
     have hsu:=offF_succ hfr
     have hbl2:=offF_le hfr
     rw [←HF2.out] at hbl2
     have hbf:f.bytes.length=bn:=zax HROW.out
     obtain ⟨b0,o0,xx,rfl,kk1,c1⟩:=zec (HROW.out.ext HXR.out) (k:=e+1) (by omega)
     obtain ⟨b2,o2,yy,e2,kk2,c2⟩:=zec (HROW.out.ext HXR.out) (k:=e+2) (by omega)
     obtain ⟨b3,o3,zz,e3,kk3,c3⟩:=zec (HROW.out.ext HXR.out) (k:=e+3) (by omega)
     cases e2
     cases e3
     rw [k1] at kk1
     rw [k2] at kk2
     rw [k3] at kk3
     cases kk1
     cases kk2
     cases kk3
     obtain ⟨fl,hfle⟩:∃fl,fl=fr.2.length:=⟨_,rfl⟩
     rw [←hfle] at hfl hsu hbl2 k4
     have HNX:Hid (e+9+fl=offF Lf (j+1)∧j+1≤Lf.length∧(j+1=0∨8*offF Lf (j+1-1)≤p0)):=hid ⟨by omega,hjl,.inr (by rw [Nat.add_sub_cancel,←h1];exact hle)⟩
     have hen:e+9+fl≤bn:=by omega
     have hx8:=x.toNat_lt
     have hy8:=y.toNat_lt
     have hz8:=z.toNat_lt
     obtain ⟨e1,he1⟩:∃q,q=e+1:=⟨_,rfl⟩
     obtain ⟨e2,he2⟩:∃q,q=e+2:=⟨_,rfl⟩
     obtain ⟨e3,he3⟩:∃q,q=e+3:=⟨_,rfl⟩
     rw [←he1] at c1
     rw [←he2] at c2
     rw [←he3] at c3
     have hw1:IntKind.i64.wrap ((e:Int)+1)=(e1:Int):=by rw [IntWalk.i64_in _ (by omega)];omega
     have hw2:IntKind.i64.wrap ((e:Int)+2)=(e2:Int):=by rw [IntWalk.i64_in _ (by omega)];omega
     have hw3:IntKind.i64.wrap ((e:Int)+3)=(e3:Int):=by rw [IntWalk.i64_in _ (by omega)];omega
     have hb1:e1<bn:=by omega
     have hb2:e2<bn:=by omega
     have hb3:e3<bn:=by omega
     have HK4:=hid k4
     clear h1 h2 h3 hjl hfr k1 k2 k3 k4 hsu hbl2 hbf hfle he1 he2 he3 HJ
     go_upto_region 24 with fail
     go_big_quiet (fail)
     clear c1 c2 c3 hw1 hw2 hw3 hb1 hb2 hb3
     go_wp2_with fail
     go_roundw
     case rel =>
      have hk4:=HK4.out
      exact ⟨j+1,e+9+fl,by congr 1;omega,hid (HXR.out.trans (Ext.drewN _ _)),hen,HNX⟩
     case measure=>simp [RowKit.intOf];omega
    ·have HQ:Hid (e=offF Lf (j-1+1)∧j-1<Lf.length∧8*offF Lf (j-1)≤p0∧p0<8*e):=hid (by
      obtain ⟨h1,h2,h3⟩:=HJ.out
      rcases h3 with h3|h3
      ·subst h3
       rw [offF_zero] at h1
       omega
      ·have hj0:j≠0:=fun e0=>by subst e0;rw [offF_zero] at h1;omega
       rw [Nat.sub_add_cancel (by omega)]
       exact ⟨h1,by omega,h3,by omega⟩)
     have hgt:¬(e:Int)*8≤(p0:Int):=by omega
     clear hle
     go_wp2_with fail
     go_meet
     exact ⟨j-1,e,rfl,HXR,he,HQ⟩
  case rest =>
   obtain ⟨j,e,rfl,HXR,he,HJ⟩:=hcut
   have hp1:=HJ.out.2.2.2
   have HPB:=hid hpb
   go_upto_if 168 with fail
   go_cut [2] (fun s2 wx=>∃b2:Nat,s2=.int .u32 (b2:Int)∧Hid (Ext w6 wx)∧b2<4294967296∧Hid (∀i,i<32→b2.testBit i=true→p0+i<8*e))
   case first =>
    rcases Nat.lt_or_ge (8*e-p0) 32 with hl|hl
    ·obtain ⟨left,hleft⟩:∃left:Nat,8*e=p0+left:=⟨8*e-p0,by omega⟩
     have hl0:0<left:=by omega
     have hl32:left<32:=by omega
     have hcl:8*(e:Int)-(p0:Int)<32:=by omega
     have HB2:Hid (by'%2 ^ left<4294967296∧∀i,i<32→(by'%2 ^ left).testBit i=true→p0+i<8*e):=hid ⟨Nat.lt_of_le_of_lt (Nat.mod_le _ _) HBY.out,fun i _ h=>by have:=mask_bits h;omega⟩
     go_wp2_with fail
     rw [u32_mask by' left HBY.out hl32]
     go_meet
     exact ⟨_,rfl,HXR,HB2.out.1,hid HB2.out.2⟩
    ·have hcl:¬8*(e:Int)-(p0:Int)<32:=by omega
     have HB2:Hid (∀i,i<32→by'.testBit i=true→p0+i<8*e):=hid (fun i h _=>by omega)
     have hby:=HBY.out
     go_wp2_with fail
     go_meet
     exact ⟨by',rfl,HXR,hby,HB2⟩
   case rest =>
    obtain ⟨b2,rfl,HX7,hb2,HB2⟩:=hcut
    have HXX:=hid (HX6.out.trans HX7.out)
    obtain ⟨fr,hfr⟩:∃fr,Lf[j]?=some fr:=⟨_,yac HJ.out.2.1⟩
    have hFL:=HF5.out j fr p0 b2 hfr HJ.out.2.2.1 (by rw [←HJ.out.1];exact HJ.out.2.2.2) (fun i h1 h2=>by rw [←HJ.out.1];exact HB2.out i h1 h2) hb2
    have HV:=hid hFL.2
    have HF0:=hid hFL.1
    have HB32:=hid hb2
    clear hFL hb2 HF5 hfr
    go_wp2_with fail
    refine (disk_flip H2.out.inv.ok (H1.out.disk.ext HXX.out) nm (p0:Int) b2 HB32.out).mono ?_
    rintro e8 w8 ⟨rfl,hto⟩
    rw [HF0.out]
    generalize (S.flip nm (p0:Int) b2).2=S8 at HV hto
    obtain ⟨B8,hd8,hc8,hf8⟩:=hto
    have hown:∀i,i∈B0→w.heap.size≤i:=fun i e=>HST.out.own i (H4.out i e)
    have hmb:mb<wc.heap.size:=yal (zab HL.out.mo.box) HXX.out.size
    have HM8:Hid (MoAt w8 mb F ma mn mc):=hid ((HL.out.mo.ext HXX.out).chg HL.out.off (hc8.mono (fun i _ e=>.inr (H4.out i e))) (fun q hq hn g hg=>by
     have h3:=HL.out.pts q hq hn g hg
     exact ⟨fun e=>by have:=HST.out.pn;omega,fun e=>by have:=HST.out.own g e;omega⟩))
    have HO8:Hid (MoOff mb ma p B8):=hid (HL.out.off.to (fun b hb=>(hf8 b hb).imp (H4.out b) id) hmb (fun g hg=>yal (HL.out.mo.row.lt (by rw [zaw];exact hg)) HXX.out.size))
    have HW8:Hid (Ext w w8):=hid (((Chg.of_ext (S:=(·∈B0)) (HL.out.world.trans HXX.out)).trans hc8 (fun _ _ e=>e)).ext (fun i hi e=>by have:=hown i e;omega))
    have HN8:Hid (∀b∈B8,w.heap.size≤b):=hid (fun b hb=>by
     rcases hf8 b hb with e|e
     ·exact hown b e
     ·have:=(HL.out.world.trans HXX.out).size;omega)
    have HD8:=hid hd8
    have hcc:cc≤800000:=by have:=HL.out.len;omega
    clear hd8 hc8 hf8 hown hmb HX7 HXX HX6 HX5 HSRC HLS HL0 HLL HROW HF2 HBL HJ HB2 HF HF1 HF0
    go_wp2_with fail
    refine (stoOpen_any HV.out.2 hcc HD8.out 5 (by decide) none 0 0 ownSt (alikeB ownSt) (HG.out.ext HW8.out) (fun W hW=>stoFresh_none W 5 (by decide)) (fun W t v v0 hW hs ho hl=>stoAlike_any W t ownSt v v0 hs ho hl (by decide)) (loadS_few S8)).mono ?_
    intro e w9 ho
    rcases HV.out.1 with ⟨hz,hk⟩|⟨hk,ht,hv⟩
    ·unfold OpenSto at ho
     rw [hk] at ho
     simp only [ne_eq,show ¬(24:Int)=0 from by decide,not_false_eq_true,if_true] at ho
     obtain ⟨rfl,hx9⟩:=ho
     have HX9:=hid (HW8.out.trans hx9)
     have hbz:((b2:Int) != 0)=true:=bne_iff_ne.2 (by omega)
     clear hk hx9 hz
     go_wp2_with fail
     go_ret
     exact ⟨rfl,HX9.out⟩
    ·unfold OpenSto at ho
     rw [hk] at ho
     simp only [not_true,ne_eq,if_false] at ho
     rw [ht] at ho
     obtain ⟨p9,rfl,v9,B9,hat9,-,hc9,hf9,-⟩:=ho
     have HS9:=hid hat9
     have HVV:=hid hv
     have HM9:Hid (MoAt w9 mb F ma mn mc):=hid (HM8.out.chg HO8.out (hc9.mono (fun i _ e=>.inr e)) (fun q hq hn g hg=>by
      have h3:=HL.out.pts q hq hn g hg
      exact ⟨fun e=>by have:=HST.out.pn;omega,fun e=>by have:=HN8.out g e;omega⟩))
     have HW9:Hid (Ext w w9):=hid (((Chg.of_ext (S:=(·∈B8)) HW8.out).trans hc9 (fun _ _ e=>e)).ext (fun i hi e=>by have:=HN8.out i e;omega))
     have HG9:Hid (HasET w9):=hid (HG.out.ext HW9.out)
     clear hk ht hv hat9 hc9 hf9 HM8 HO8 HW8 HN8 HD8
     go_wp2_with fail
     go_loopw [21] (fun s21 wr=>∃j:Nat,s21=.int .i64 (j:Int)∧j≤3∧Hid (Ext w9 wr)) (fun z _=>3-(RowKit.intOf z).toNat)
     case atStart=>exact ⟨0,rfl,by omega,hid (Ext.refl _)⟩
     case round =>
      obtain ⟨j,rfl,hj,HI⟩:=hrel
      by_cases hlt:j<3
      ·have hcv:(j:Int)%256=(j:Int):=by omega
       go_wp2_with fail
       refine (zea wr j (by omega)).mono ?_
       rintro e wa ⟨rfl,hxa⟩
       have HXA:=hid (HI.out.trans hxa)
       clear hxa
       go_wp2_with fail
       rcases HVV.out (nmL j) with hgood|⟨hz,hbad⟩
       ·have HGD:=hid hgood
        clear hgood
        refine (stoPoints_any HV.out.2.ok (HS9.out.ext HXA.out) (nmL j) (holdG G (nmL j)) HGD.out (-4611686018427387904) 4611686018427387904 (H2.out.holdFew _) (HG9.out.ext HXA.out)).mono ?_
        rintro e wb ⟨v2,o1,rfl,hc1,hm1⟩
        obtain ⟨a1,c1,rfl⟩:=hc1.row.shape
        obtain ⟨n1,hn1⟩:∃n1,n1=o1.length:=⟨_,rfl⟩
        have hs1:=hc1.row.src (zcu _)
        rw [←hn1] at hs1 ⊢
        have HS1:=hid hs1
        have HM1:=hid hm1
        have HXB:=hid (HXA.out.trans hc1.ext)
        have HN1:=hid hn1
        clear hc1 hs1 hm1 hn1
        go_wp2_with fail
        refine (zea wb j (by omega)).mono ?_
        rintro e wd ⟨rfl,hxd⟩
        have HXD:=hid hxd
        clear hxd
        go_wp2_with fail
        refine (modelPts_any (HM9.out.ext (HXB.out.trans HXD.out)) (nmL j) (-4611686018427387904) 4611686018427387904 (HL.out.mod.few2 _) HL.out.mod.rises).mono ?_
        rintro e we ⟨v4,o2,rfl,hc2,hm2⟩
        obtain ⟨a2,c2,rfl⟩:=hc2.row.shape
        obtain ⟨n2,hn2⟩:∃n2,n2=o2.length:=⟨_,rfl⟩
        have hs2:=hc2.row.src (zcu _)
        rw [←hn2] at hs2 ⊢
        have HS2:=hid hs2
        have HM2:=hid hm2
        have HXE:=hid (HXD.out.trans hc2.ext)
        have HN2:=hid hn2
        clear hc2 hs2 hm2 hn2
        go_wp2_with fail
        have hl1:n1<4611686018427387904:=by have h1:=merged_le HM1.out;have h2:=H2.out.holdFew (nmL j);have h3:=HN1.out;omega
        have hl2:n2<4611686018427387904:=by have h1:=merged_le HM2.out;have h2:=HL.out.mod.few2 (nmL j);have h3:=HN2.out;omega
        have HEQ:Hid (o1=o2):=hid (same_of H2.out.okG HL.out.mod (-4611686018427387904) 4611686018427387904 j o1 o2 HM1.out HM2.out)
        refine (same_any we a1 a2 n1 c1 n2 c2 o1 o2 (HS1.out.ext HXE.out) HS2.out hl1 hl2).mono ?_
        rintro e wf ⟨rfl,hxf⟩
        rw [decide_eq_true HEQ.out]
        have HXF:=hid (HXB.out.trans (HXE.out.trans hxf))
        clear hxf hl1 hl2
        go_wp2_with fail
        go_roundw
        case rel=>exact ⟨j+1,by go_num,by omega,HXF⟩
        case measure=>simp [RowKit.intOf];omega
       ·have HBD:=hid hbad
        have hbz:((b2:Int)==0)=false:=yak.2 (by omega)
        clear hbad hz
        refine (stoPoints_bad HV.out.2.ok (HS9.out.ext HXA.out) (nmL j) (holdG G (nmL j)) HBD.out H2.out.flIn (H2.out.holdFew _) (HG9.out.ext HXA.out)).mono ?_
        rintro e wb ⟨rfl,hxb⟩
        have HXB:=hid (HXA.out.trans hxb)
        clear hxb
        go_wp2_with fail
        go_roundw
        case rel=>exact ⟨j+1,by go_num,by omega,HXB⟩
        case measure=>simp [RowKit.intOf];omega
      ·obtain rfl:j=3:=by omega
       go_wp2_with fail
       go_ret
       exact ⟨rfl,HW9.out.trans HI.out⟩
theorem storeBits_int (w:World) (a:Option Addr) (n c:Nat) (P:List AcM) (hs:Src w 5 (.slice a n c) n (acms P)) (hok:∀p∈P,p.Ok w) (hn:n<4398046511104) (at' z:Int) (hat:-9223372036854775808≤at'∧at'≤9223372036854775807) (hz:0≤z∧z≤4294967295) (hg:HasET w) :
 Calls Tryz.prog 3 #[.slice a n c,.int .i64 at',.int .u32 z] w fun e w'=>e=.returned (.bool true)∧Ext w w':=by
 have:=storeBits_any w a n c P hs hok hn at' z.toNat hat (by omega) hg
 rwa [Int.toNat_of_nonneg hz.1] at this
end
end Go.Proofs.YtlmfhjipbjkcbaaGreatDoor
