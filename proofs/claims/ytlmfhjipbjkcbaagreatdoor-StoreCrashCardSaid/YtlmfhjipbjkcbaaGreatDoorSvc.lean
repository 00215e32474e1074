/- x -/
import Derived.Test.YtlmfhjipbjkcbaaGreatDoorSvl
import Derived.Test.YtlmfhjipbjkcbaaGreatDoorDip
set_option maxHeartbeats 8000000
set_option maxRecDepth 100000
set_option linter.unusedSimpArgs false
set_option linter.unusedVariables false
namespace Go.Proofs.YtlmfhjipbjkcbaaGreatDoor
section
open Go.RowKit Go.Sort Go.Lib
theorem DInv.then' {r:Int×DiskS}{k:DiskS→Int×DiskS}{n:Nat}(h:DInv r.2 n) (hk:∀S,DInv S n→DInv (k S).2 (n+1)):DInv (thenS r k).2 (n+1):=by
 unfold thenS
 split
 ·exact hk _ h
 ·exact h.mono (by omega)
theorem DInv.save {S:DiskS}{k:Nat}(h:DInv S k) (s:Sta):DInv (saveS S s).2 (k+4):=by
 unfold saveS
 split
 ·have h0:DInv (saveA S).2 (k+1):=by
   unfold saveA
   split
   ·exact h.delete fN
   ·exact h.mono (by omega)
  exact ((h0.then' (fun S hS=>hS.append fN _)).then' (fun S hS=>hS.sync fN)).then' (fun S hS=>hS.rename fN fM)
 ·exact h.mono (by omega)
structure OpOk (S S':DiskS) (G:ByteArray→Option FileS) (du dl:Nat):Prop where
 get:∀n,aget S'.files n=G n
 room:S'.room=S.room
 left:S'.left=downL S.left
 used:S'.used≤S.used+du
 len:S'.files.length≤S.files.length+dl
def updG (G:ByteArray→Option FileS) (n:ByteArray) (o:Option FileS):ByteArray→Option FileS:=fun k=>if k=n then o else G k
abbrev getS (S:DiskS):ByteArray→Option FileS:=fun n=>aget S.files n
theorem doing_ok {S:DiskS}{ns:List ByteArray}{r:Int×DiskS}(hn:ns.all nameB=true) (hl:S.left≠0) (hr:r.1=0):S.doing ns r=(0,r.2.count):=by
 unfold DiskS.doing zcp
 rw [if_neg (by simp [hn]),if_neg hl]
 simp only
 rw [if_pos hr]
theorem aput_len (F:Fs) (k:ByteArray) (f:FileS):(aput F k f).length≤F.length+1:=by
 cases h:aget F k with
 | none=>rw [zcs f h];simp
 | some f0=>rw [zdv h];omega
theorem append_new {S:DiskS}{n:ByteArray}{b:List UInt8}(hn:nameB n=true) (hl:S.left≠0) (hg:aget S.files n=none) (hroom:S.used+b.length≤S.room) (hfew:S.files.length<512) (hb:b.length≤1048576) :
 ∃S',S.append n b=(0,S')∧OpOk S S' (updG (getS S) n (some ⟨b,0,false⟩)) b.length 1:=by
 have hp:S.put n b=(0,{ S with files:=aput S.files n ⟨b,0,false⟩,used:=S.used+b.length }):=by
  unfold DiskS.put
  rw [if_neg (by omega),hg]
  simp only
  rw [if_neg (by omega)]
 refine ⟨{ S with files:=aput S.files n ⟨b,0,false⟩,used:=S.used+b.length }.count,?_,?_⟩
 ·unfold DiskS.append
  rw [hp]
  exact doing_ok (by simp [hn]) hl rfl
 ·refine ⟨fun k=>?_,rfl,rfl,Int.le_refl _,aput_len _ _ _⟩
  show aget (aput S.files n _) k=_
  unfold updG getS
  by_cases e:k=n
  ·subst e;rw [zct,if_pos rfl]
  ·rw [zbY _ _ e,if_neg e]
theorem sync_ok {S:DiskS}{n:ByteArray}{f:FileS}(hn:nameB n=true) (hl:S.left≠0) (hg:aget S.files n=some f) :
 ∃S',S.sync n=(0,S')∧OpOk S S' (updG (getS S) n (some ⟨f.bytes,f.bytes.length,true⟩)) 0 0:=by
 refine ⟨{ S with files:=aput S.files n ⟨f.bytes,f.bytes.length,true⟩ }.count,?_,?_⟩
 ·unfold DiskS.sync DiskS.onFile
  rw [hg]
  simp only
  have hs:S.synced n={ S with files:=aput S.files n ⟨f.bytes,f.bytes.length,true⟩ }:=by unfold DiskS.synced;rw [hg]
  rw [hs]
  exact doing_ok (by simp [hn]) hl rfl
 ·refine ⟨fun k=>?_,rfl,rfl,by show S.used≤_;omega,by show (aput _ _ _).length≤_;rw [zdv hg];omega⟩
  show aget (aput S.files n _) k=_
  unfold updG getS
  by_cases e:k=n
  ·subst e;rw [zct,if_pos rfl]
  ·rw [zbY _ _ e,if_neg e]
theorem delete_ok {S:DiskS}{n:ByteArray}{f:FileS}(hnd:(S.files.map (·.1)).Nodup) (hn:nameB n=true) (hl:S.left≠0) (hg:aget S.files n=some f) :
 ∃S',S.delete n=(0,S')∧OpOk S S' (updG (getS S) n none) 0 0:=by
 have hs:S.drop n={ S with files:=adel S.files n,used:=S.used-f.bytes.length }:=by unfold DiskS.drop;rw [hg]
 refine ⟨{ S with files:=adel S.files n,used:=S.used-f.bytes.length }.count,?_,?_⟩
 ·unfold DiskS.delete DiskS.onFile
  rw [hg,hs]
  exact doing_ok (by simp [hn]) hl rfl
 ·refine ⟨fun k=>?_,rfl,rfl,by show S.used-_≤_;omega,by show (adel _ _).length≤_;have:=adel_len_le S.files n;omega⟩
  show aget (adel S.files n) k=_
  unfold updG getS
  by_cases e:k=n
  ·subst e;rw [zcJ hnd,if_pos rfl]
  ·rw [zbt e,if_neg e]
theorem rename_ok {S:DiskS}{a n:ByteArray}{f:FileS}(hnd:(S.files.map (·.1)).Nodup) (ha:nameB a=true) (hn:nameB n=true) (hne:a≠n) (hl:S.left≠0) (hg:aget S.files a=some f) :
 ∃S',S.rename a n=(0,S')∧OpOk S S' (updG (updG (getS S) a none) n (some f)) 0 0:=by
 have hs:S.renamed a n={ S.drop n with files:=aput (adel (S.drop n).files a) n f }:=by unfold DiskS.renamed;rw [if_neg hne,hg]
 have hsm:=drop_same S n
 refine ⟨{ S.drop n with files:=aput (adel (S.drop n).files a) n f }.count,?_,?_⟩
 ·unfold DiskS.rename DiskS.onFile
  rw [hg,hs]
  exact doing_ok (by simp [hn,ha]) hl rfl
 ·have hnd2:((S.drop n).files.map (·.1)).Nodup:=by
   unfold DiskS.drop
   split
   ·exact hnd
   ·exact hnd.sublist ((zcu S.files n).map _)
  have hdg:∀k,k≠n→aget (S.drop n).files k=aget S.files k:=fun k hk=>by
   unfold DiskS.drop
   split
   ·rfl
   ·exact zbt hk
  have hal:aget (S.drop n).files a=some f:=(hdg a hne).trans hg
  refine ⟨fun k=>?_,hsm.1,by show downL (S.drop n).left=_;rw [hsm.2.1],?_,?_⟩
  ·show aget (aput (adel (S.drop n).files a) n f) k=_
   unfold updG getS
   by_cases e:k=n
   ·subst e;rw [zct,if_pos rfl]
   ·rw [zbY _ _ e,if_neg e]
    by_cases e2:k=a
    ·subst e2;rw [zcJ hnd2,if_pos rfl]
    ·rw [zbt e2,if_neg e2];exact hdg k e
  ·show (S.drop n).used≤_
   unfold DiskS.drop
   split
   ·omega
   ·show S.used-_≤_;omega
  ·show (aput (adel (S.drop n).files a) n f).length≤_
   have h1:=aput_len (adel (S.drop n).files a) n f
   have h2:=adel_len hal
   have h3:(S.drop n).files.length≤S.files.length:=by
    unfold DiskS.drop
    split
    ·omega
    ·exact adel_len_le S.files n
   omega
theorem zco {l:Int}(h:l<0):downL l=l:=by unfold downL;rw [if_neg (by omega)]
end
section
open Go.RowKit Go.Sort Go.Lib
structure SvAt (w:World) (d:Nat) (B:List Nat) (pb eb bb:Nat) (v:Value) (l:List UInt8) (k:Nat) (r:Int×DiskS) (wi:World):Prop where
 disk:∃Bi,zbj wi d r.2 Bi∧(∀b∈Bi,b∈B∨w.heap.size≤b)∧pb∉Bi∧eb∉Bi∧bb∉Bi∧∀g,v.ownBlock=some g→g∉Bi
 chg:Chg (·∈B) w wi
 pbk:wi.heap[pb]?=some (.cells #[.pointer (some ⟨d,0,none⟩)] 25 (0,0))
 ebk:wi.heap[eb]?=some (.cells #[.int .i64 r.1] 26 (0,0))
 bbk:wi.heap[bb]?=some (.cells #[v] 51 (0,0))
 src:Src wi 1 v l.length (u8s l)
 inv:DInv r.2 k
 own:∀g,v.ownBlock=some g→w.heap.size≤g∧g<wi.heap.size∧g≠eb
 new:w.heap.size≤pb∧w.heap.size≤eb∧w.heap.size≤bb∧pb≠eb∧bb≠eb
section
variable {w wi w':World} {d pb eb bb k:Nat} {B:List Nat} {v:Value} {l:List UInt8} {r:Int×DiskS}
theorem SvAt.call {S':DiskS}{Bi:List Nat}(h:SvAt w d B pb eb bb v l k r wi) (hd:zbj wi d r.2 Bi∧(∀b∈Bi,b∈B∨w.heap.size≤b)∧pb∉Bi∧eb∉Bi∧bb∉Bi∧∀g,v.ownBlock=some g→g∉Bi) (ht:zbC wi d Bi S' w') (hi:DInv S' (k+1)):SvAt w d B pb eb bb v l (k+1) (r.1,S') w':=by
 obtain ⟨h1,h2,h3,h4,h5,h6⟩:=hd
 obtain ⟨B',k1,k2,k3⟩:=ht
 have keep:∀{b:Nat} {o:Obj},wi.heap[b]?=some o→b∉Bi→w'.heap[b]?=some o:=fun hb hn=>(k2.block _ (zab hb) hn).trans hb
 have out:∀{b:Nat} {o:Obj},wi.heap[b]?=some o→b∉Bi→b∉B':=fun hb hn hb'=>by
  rcases k3 _ hb' with e|e
  ·exact hn e
  ·have:=zab hb;omega
 refine ⟨⟨B',k1,fun b hb=>?_,out h.pbk h3,out h.ebk h4,out h.bbk h5,fun g hg hb'=>?_⟩,h.chg.trans k2 (fun i hi e=>?_),keep h.pbk h3,keep h.ebk h4,keep h.bbk h5,?_,hi,fun g hg=>?_,h.new⟩
 ·rcases k3 b hb with e|e
  ·exact h2 b e
  ·exact .inr (by have:=h.chg.size;omega)
 ·rcases k3 g hb' with e|e
  ·exact h6 g hg e
  ·have:=(h.own g hg).2.1;omega
 ·rcases h2 i e with e|e
  ·exact e
  ·omega
 ·exact h.src.chg k2 (fun g hg=>h6 g hg)
 ·have h1:=h.own g hg
  have h2:=k2.size
  exact ⟨h1.1,by omega,h1.2.2⟩
theorem SvAt.err (h:SvAt w d B pb eb bb v l k r wi) (z:Int):SvAt w d B pb eb bb v l k (z,r.2) (wi.setCell ⟨eb,0,none⟩ (.int .i64 z)):=by
 obtain ⟨Bi,h1,h2,h3,h4,h5,h6⟩:=h.disk
 have hc:=zaj wi eb 0 (.int .i64 z)
 refine ⟨⟨Bi,h1.chg hc (fun b hb e=>h4 (by rw [←e];exact hb)),h2,h3,h4,h5,h6⟩,h.chg.trans hc (fun i hi e=>?_),?_,?_,?_,h.src.chg hc (fun g hg=>(h.own g hg).2.2),h.inv,fun g hg=>?_,h.new⟩
 ·have:=h.new;omega
 ·exact (hc.block _ (zab h.pbk) h.new.2.2.2.1).trans h.pbk
 ·have:=zaq h.ebk (i:=0) (.int .i64 z)
  simpa using this
 ·exact (hc.block _ (zab h.bbk) h.new.2.2.2.2).trans h.bbk
 ·have:=h.own g hg
  have h2:=hc.size
  exact ⟨this.1,by omega,this.2.2⟩
theorem SvAt.mono {k':Nat}(h:SvAt w d B pb eb bb v l k r wi) (hk:k≤k'):SvAt w d B pb eb bb v l k' r wi :=
 ⟨h.disk,h.chg,h.pbk,h.ebk,h.bbk,h.src,h.inv.mono hk,h.own,h.new⟩
end
theorem save1_any {w:World}{d pb eb bb k:Nat}{B:List Nat}{v:Value}{l:List UInt8}(op:DiskS→Int×DiskS) (K:Nat) (caps:Array Value) (hcf:∀W,(callFunc K caps).run Tryz.prog W=.ok (.enter K caps) W)
 (hK:∀wi S,SvAt w d B pb eb bb v l k (0,S) wi→Calls Tryz.prog K caps wi fun e w'=>e=.returned (.int .i64 (op S).1)∧SvAt w d B pb eb bb v l (k+1) (0,(op S).2) w')
 (r:Int×DiskS) (wi:World) (h:SvAt w d B pb eb bb v l k r wi) :
 Calls Tryz.prog 129 #[.func (.func K) #[] caps,.pointer (some ⟨eb,0,none⟩)] wi fun e w'=>e=.returned (.tuple #[])∧SvAt w d B pb eb bb v l (k+1) (thenS r op) w':=by
 obtain ⟨z,S⟩:=r
 have H:=hid h
 have HK:=hid hK
 have c0:=zaa h.ebk 0
 clear h hK
 simp only at c0
 by_cases hz:z=0
 ·subst hz
  have HT:Hid (thenS (0,S) op=op S):=hid (by unfold thenS;rw [if_pos rfl])
  have HC:=hid (HK.out wi S H.out)
  go_enter Tryz.func129,Tryz.ntmps129
  go_wp2_with fail
  refine HC.out.mono ?_
  rintro e w' ⟨rfl,hs⟩
  have HS:=hid (hs.err (op S).1)
  have e0:=zaa hs.ebk 0
  have z0:=zan hs.ebk 0
  clear hs c0
  go_wp2_with fail
  go_end0
  rw [HT.out]
  exact ⟨rfl,HS.out⟩
 ·have HT:Hid (thenS (z,S) op=(z,S)):=hid (by unfold thenS;rw [if_neg hz])
  have hze:(z==0)=false:=by simp [hz]
  clear hz
  go_enter Tryz.func129,Tryz.ntmps129
  go_wp2_with fail
  go_end0
  rw [HT.out]
  exact ⟨rfl,H.out.mono (by omega)⟩
theorem svc_delete {w wi:World}{d pb eb bb k:Nat}{B:List Nat}{v:Value}{l:List UInt8}{S:DiskS}(hk:k≤1000000) (h:SvAt w d B pb eb bb v l k (0,S) wi) :
 Calls Tryz.prog 130 #[.pointer (some ⟨pb,0,none⟩)] wi fun e w'=>e=.returned (.int .i64 (S.delete fN).1)∧SvAt w d B pb eb bb v l (k+1) (0,(S.delete fN).2) w':=by
 have H:=hid h
 have c0:=zaa h.pbk 0
 obtain ⟨Bi,hd⟩:=h.disk
 have HD:=hid hd
 have hi:DInv S k:=h.inv
 have HC:=hid (disk_delete hi.ok (by have:=hi.ops;omega) hd.1 fN (by decide))
 have HIN:=hid (hi.delete fN)
 generalize S.delete fN=R at *
 clear h hd hi
 go_enter Tryz.func130,Tryz.ntmps130
 go_wp2_with fail
 refine HC.out.mono ?_
 rintro e w' ⟨rfl,ht⟩
 have HS:=hid (H.out.call HD.out ht HIN.out)
 clear ht c0
 go_wp2_with fail
 go_ret
 exact ⟨rfl,HS.out⟩
theorem svc_sync {w wi:World}{d pb eb bb k:Nat}{B:List Nat}{v:Value}{l:List UInt8}{S:DiskS}(hk:k≤1000000) (h:SvAt w d B pb eb bb v l k (0,S) wi) :
 Calls Tryz.prog 132 #[.pointer (some ⟨pb,0,none⟩)] wi fun e w'=>e=.returned (.int .i64 (S.sync fN).1)∧SvAt w d B pb eb bb v l (k+1) (0,(S.sync fN).2) w':=by
 have H:=hid h
 have c0:=zaa h.pbk 0
 obtain ⟨Bi,hd⟩:=h.disk
 have HD:=hid hd
 have hi:DInv S k:=h.inv
 have HC:=hid (disk_sync hi.ok (by have:=hi.ops;omega) hd.1 fN (by decide))
 have HIN:=hid (hi.sync fN)
 generalize S.sync fN=R at *
 clear h hd hi
 go_enter Tryz.func132,Tryz.ntmps132
 go_wp2_with fail
 refine HC.out.mono ?_
 rintro e w' ⟨rfl,ht⟩
 have HS:=hid (H.out.call HD.out ht HIN.out)
 clear ht c0
 go_wp2_with fail
 go_ret
 exact ⟨rfl,HS.out⟩
theorem svc_rename {w wi:World}{d pb eb bb k:Nat}{B:List Nat}{v:Value}{l:List UInt8}{S:DiskS}(hk:k≤1000000) (h:SvAt w d B pb eb bb v l k (0,S) wi) :
 Calls Tryz.prog 133 #[.pointer (some ⟨pb,0,none⟩)] wi fun e w'=>e=.returned (.int .i64 (S.rename fN fM).1)∧SvAt w d B pb eb bb v l (k+1) (0,(S.rename fN fM).2) w':=by
 have H:=hid h
 have c0:=zaa h.pbk 0
 obtain ⟨Bi,hd⟩:=h.disk
 have HD:=hid hd
 have hi:DInv S k:=h.inv
 have HC:=hid (disk_rename hi.ok (by have:=hi.ops;omega) hd.1 fN fM (by decide) (by decide))
 have HIN:=hid (hi.rename fN fM)
 generalize S.rename fN fM=R at *
 clear h hd hi
 go_enter Tryz.func133,Tryz.ntmps133
 go_wp2_with fail
 refine HC.out.mono ?_
 rintro e w' ⟨rfl,ht⟩
 have HS:=hid (H.out.call HD.out ht HIN.out)
 clear ht c0
 go_wp2_with fail
 go_ret
 exact ⟨rfl,HS.out⟩
theorem svc_append {w wi:World}{d pb eb bb k:Nat}{B:List Nat}{a:Option Addr}{c:Nat}{l:List UInt8}{S:DiskS}(hk:k≤1000000) (hl:l.length≤1000000) (h:SvAt w d B pb eb bb (.slice a l.length c) l k (0,S) wi) :
 Calls Tryz.prog 131 #[.pointer (some ⟨pb,0,none⟩),.pointer (some ⟨bb,0,none⟩)] wi fun e w'=>e=.returned (.int .i64 (S.append fN l).1)∧SvAt w d B pb eb bb (.slice a l.length c) l (k+1) (0,(S.append fN l).2) w':=by
 have H:=hid h
 have c0:=zaa h.pbk 0
 have d0:=zaa h.bbk 0
 obtain ⟨Bi,hd⟩:=h.disk
 have HD:=hid hd
 have hi:DInv S k:=h.inv
 have HC:=hid (disk_append hi.ok (by have:=hi.ops;omega) hd.1 fN (by decide) a l.length c l h.src hd.2.2.2.2.2 (by unfold maxLen;omega))
 have HIN:=hid (hi.append fN l)
 generalize S.append fN l=R at *
 clear h hd hi
 go_enter Tryz.func131,Tryz.ntmps131
 go_wp2_with fail
 refine HC.out.mono ?_
 rintro e w' ⟨rfl,ht⟩
 have HS:=hid (H.out.call HD.out ht HIN.out)
 clear ht c0 d0
 go_wp2_with fail
 go_ret
 exact ⟨rfl,HS.out⟩
end
section
open Go.RowKit Go.Sort Go.Lib
def RdTo (W:World) (z:Int) (e:Ending) (w':World):Prop:=∃v,e=.returned (.tuple #[v,.int .i64 z])∧Ext W w'
theorem manSave_any {w:World}{d k:Nat}{S:DiskS}{B:List Nat}(hk:k≤900000) (inv:DInv S k) (h:zbj w d S B) (s:Sta) (fa ta:Option Addr) (fn fc tn tc:Nat) (hs:StIn w s fa fn fc ta tn tc) (hg:HasET w) :
 Calls Tryz.prog 71 #[.pointer (some ⟨d,0,none⟩),.agg (staC s fa fn fc ta tn tc)] w fun e w'=>e=.returned (.int .i64 (saveS S s).1)∧zbC w d B (saveS S s).2 w':=by
 have HD:=hid h
 have HI:=hid inv
 have HBY:=hid (fun W hx=>manBytes_any W s fa ta fn fc tn tc (hs.ext hx) (hg.ext hx))
 have HSV:Hid (saveS S s=if staR s=true then thenS (thenS (thenS (saveA S) (fun S=>S.append fN (sealL 7 (staP s)))) (fun S=>S.sync fN)) (fun S=>S.rename fN fM) else (2,S)):=hid rfl
 obtain ⟨R,hR⟩:∃R,R=saveS S s:=⟨_,rfl⟩
 rw [←hR] at HSV ⊢
 obtain ⟨x,r,q,⟨mb,mt,mg⟩,fl,ti⟩:=s
 have HOK:=hid hs.ok
 clear hs hg inv hR h
 obtain ⟨z,hz,HRD,HA⟩:∃z:Int,(z=0∨z=13)∧Hid (∀W,Ext w W→Calls Tryz.prog 14 #[.pointer (some ⟨d,0,none⟩),.string fN] W (RdTo W z))∧Hid (saveA S=if z=0 then S.delete fN else (0,S)):=by
  cases hn:aget S.files fN with
  | none =>
   refine ⟨13,.inr rfl,hid (fun W hx=>(zcH (HD.out.ext hx) fN hn).mono fun e w' he=>?_),hid ?_⟩
   ·obtain ⟨rfl,rfl⟩:=he
    exact ⟨_,rfl,Ext.refl _⟩
   ·unfold saveA
    rw [hn]
    rfl
  | some f =>
   refine ⟨0,.inl rfl,hid (fun W hx=>(zbW HI.out.ok (HD.out.ext hx) fN f hn).mono fun e w' he=>?_),hid ?_⟩
   ·obtain ⟨v,rfl,hn⟩:=he
    exact ⟨v,rfl,hn.2.2⟩
   ·unfold saveA
    rw [hn]
    rfl
 have hz1:(z==1)=false:=by rcases hz with rfl|rfl<;>rfl
 go_enter Tryz.func71,Tryz.ntmps71
 go_wp2_with fail
 obtain ⟨pb,hpb⟩:∃p,p=w.heap.size:=⟨_,rfl⟩
 obtain ⟨sb,hsb⟩:∃p,p=w.heap.size+1:=⟨_,rfl⟩
 rw [←hsb,←hpb]
 generalize hW:(w.alloc _).alloc _=W
 have HPB:Hid (W.heap[pb]?=some (.cells #[.pointer (some ⟨d,0,none⟩)] 25 (0,0))):=hid (by subst hW;rw [hpb,heap_alloc_old _ _ (by simp)];exact heap_alloc_new w _)
 have HSB:Hid (W.heap[sb]?=some (.cells #[.int .i64 x,.int .i64 r,.int .i64 q,.bool mb,.int .i64 mt,.int .i64 mg,.slice fa fn fc,.slice ta tn tc] 66 (0,0))):=hid (by subst hW;rw [hsb];exact zaF w _ _)
 have HX:Hid (Ext w W):=hid (by subst hW;exact ((Ext.refl w).alloc _).alloc _)
 have HPS:Hid (w.heap.size=pb∧sb=pb+1):=hid (by omega)
 clear hW
 refine (HRD.out W HX.out).mono ?_
 rintro e w1 ⟨v1,rfl,hx⟩
 have HX1:=hid (HX.out.trans hx)
 have HPB1:=hid (hx.keep HPB.out)
 have HSB1:=hid (hx.keep HSB.out)
 clear hx HX HPB HSB HRD
 clear hsb hpb
 have c0:=zaa HSB1.out 0
 have c1:=zaa HSB1.out 1
 have c2:=zaa HSB1.out 2
 have c3:=zaa HSB1.out 3
 have c4:=zaa HSB1.out 4
 have c5:=zaa HSB1.out 5
 have c6:=zaa HSB1.out 6
 have c7:=zaa HSB1.out 7
 go_wp2_with fail
 clear c0 c1 c2 c3 c4 c5 c6 c7 HSB1
 refine (HBY.out w1 HX1.out).mono ?_
 rintro e w2 hby
 clear HBY
 unfold BytesTo at hby
 cases hR:staR ⟨x,r,q,⟨mb,mt,mg⟩,fl,ti⟩ with
 | false =>
  rw [hR,if_neg (by simp)] at hby
  obtain ⟨rfl,hx⟩:=hby
  have HRR:Hid (R=(2,S)):=hid (by rw [HSV.out,hR,if_neg (by simp)])
  have HX2:=hid (HX1.out.trans hx)
  clear hx hR HSV
  go_upto_region 5 with fail
  generalize hW:(w2.alloc _).alloc _=W4
  have HX4:Hid (Ext w W4):=hid (by rw [←hW];exact (HX2.out.alloc _).alloc _)
  have e0:W4.cell? ⟨w2.heap.size+1,0,none⟩=some (.int .i64 2):=by rw [←hW,zaa (zaF w2 _ _)];rfl
  clear hW
  go_wp2_with fail
  go_ret
  rw [HRR.out]
  exact ⟨rfl,zbC.same HD.out HX4.out⟩
 | true =>
  rw [hR,if_pos rfl] at hby
  obtain ⟨a,c,rfl,hm⟩:=hby
  have HRR:=hid (HSV.out.trans (if_pos hR))
  have HM:=hid hm
  have HX1s:=hid HX1.out.size
  have HSL:=hid (seal_few hR HOK.out)
  have HPB2:=hid (hm.ext.keep HPB1.out)
  have HX2:=hid (HX1.out.trans hm.ext)
  clear hm hR HSV HPB1 HX1
  generalize sealL 7 (staP ⟨x,r,q,⟨mb,mt,mg⟩,fl,ti⟩)=bl at *
  go_upto_region 5 with fail
  obtain ⟨bb,hbb⟩:∃p,p=w2.heap.size:=⟨_,rfl⟩
  obtain ⟨eb,heb⟩:∃p,p=w2.heap.size+1:=⟨_,rfl⟩
  rw [←heb,←hbb]
  generalize hW:(w2.alloc _).alloc _=W4
  have hx4:Ext w2 W4:=by rw [←hW];exact ((Ext.refl w2).alloc _).alloc _
  have hbk:W4.heap[bb]?=some (.cells #[.slice a bl.length c] 51 (0,0)):=by rw [←hW,hbb,heap_alloc_old _ _ (by simp)];exact heap_alloc_new w2 _
  have hek:W4.heap[eb]?=some (.cells #[.int .i64 0] 26 (0,0)):=by rw [←hW,heb];exact zaF w2 _ _
  have hsv:SvAt w d B pb eb bb (.slice a bl.length c) bl k (0,S) W4:=by
   have h1:=HPS.out
   have h2:=zab HPB2.out
   have h3:=HX2.out.size
   have hlt:=HD.out.lt
   have hx:=HX2.out.trans hx4
   have hown:∀g,(Value.slice a bl.length c).ownBlock=some g→w.heap.size≤g∧g<w2.heap.size:=fun g hg=>⟨by have:=HM.out.own g hg;have:=HX1s.out;omega,HM.out.row.lt hg⟩
   refine ⟨⟨B,HD.out.ext hx,fun b hb=>.inl hb,fun hb=>by have:=hlt _ hb;omega,fun hb=>by have:=hlt _ hb;omega,fun hb=>by have:=hlt _ hb;omega,fun g hg hb=>by have:=hlt _ hb;have:=hown g hg;omega⟩,Chg.of_ext hx,hx4.keep HPB2.out,hek,hbk,(HM.out.row.src (zaH _)).ext hx4,HI.out,fun g hg=>?_,?_⟩
   ·have:=hown g hg;have:=zab hek;omega
   ·omega
  have HS0:=hid hsv
  have e0:=zaa hek 0
  clear hW hx4 hbk hek hsv hbb heb HM HPB2 HX2
  go_upto_if 28 with fail
  go_cut [4] (fun _ wx=>Hid (SvAt w d B pb eb bb (.slice a bl.length c) bl (k+1) (saveA S) wx))
  case first =>
   rcases hz with rfl|rfl
   ·go_wp2_with fail
    refine (save1_any (fun S=>S.delete fN) 130 #[.pointer (some ⟨pb,0,none⟩)] (fun _=>rfl) (fun wi S h=>svc_delete (by omega) h) (0,S) W4 HS0.out).mono ?_
    rintro e w' ⟨rfl,hs⟩
    have HS1:Hid (SvAt w d B pb eb bb (.slice a bl.length c) bl (k+1) (saveA S) w'):=hid (by rw [HA.out,if_pos (by trivial)];exact hs)
    clear hs e0
    go_wp2_with fail
    go_meet
    case rel=>exact HS1
   ·have HS1:Hid (SvAt w d B pb eb bb (.slice a bl.length c) bl (k+1) (saveA S) W4):=hid (by rw [HA.out,if_neg (by simp)];exact HS0.out.mono (by omega))
    go_wp2_with fail
    go_meet
    case rel=>exact HS1
  case rest =>
   have HS1:=hcut
   clear hcut e0 HS0
   go_wp2_with fail
   refine (save1_any (fun S=>S.append fN bl) 131 #[.pointer (some ⟨pb,0,none⟩),.pointer (some ⟨bb,0,none⟩)] (fun _=>rfl) (fun wi S h=>svc_append (by omega) (by have:=HSL.out;omega) h) _ _ HS1.out).mono ?_
   rintro e w' ⟨rfl,hs⟩
   have HS2:=hid hs
   clear hs
   go_wp2_with fail
   refine (save1_any (fun S=>S.sync fN) 132 #[.pointer (some ⟨pb,0,none⟩)] (fun _=>rfl) (fun wi S h=>svc_sync (by omega) h) _ _ HS2.out).mono ?_
   rintro e w' ⟨rfl,hs⟩
   have HS3:=hid hs
   clear hs
   go_wp2_with fail
   refine (save1_any (fun S=>S.rename fN fM) 133 #[.pointer (some ⟨pb,0,none⟩)] (fun _=>rfl) (fun wi S h=>svc_rename (by omega) h) _ _ HS3.out).mono ?_
   rintro e w' ⟨rfl,hs⟩
   have HS4:=hid hs
   clear hs
   have e0:=zaa HS4.out.ebk 0
   rw [←HRR.out] at e0 HS4
   obtain ⟨Bi,h1,h2,-⟩:=HS4.out.disk
   have HDT:Hid (zbC w d B R.2 w'):=hid ⟨Bi,h1,HS4.out.chg,h2⟩
   clear h1 h2
   go_wp2_with fail
   go_ret
   exact ⟨rfl,HDT.out⟩
end
section
open Go.RowKit Go.Sort Go.Lib
theorem aget_app {β:Type}(a b:List (ByteArray×β)) (k:ByteArray):aget (a++b) k=(aget a k).or (aget b k):=by
 induction a with
 | nil=>rfl
 | cons p a ih =>
  obtain ⟨x,v⟩:=p
  show (if k=x then some v else aget (a++b) k)=(if k=x then some v else aget a k).or (aget b k)
  split
  ·rfl
  ·exact ih
theorem aget_found (s:ByteArray) (o:Option FileS):aget (found s o) s=o:=by
 cases o with
 | none=>rfl
 | some f=>simp [found,aget]
theorem aget_found_other {s s':ByteArray}(h:s≠s') (o:Option FileS):aget (found s' o) s=none:=by
 cases o with
 | none=>rfl
 | some f=>simp [found,aget,h]
theorem crashTo_get {S:DiskS}(ok:S.Ok) (keep:List Int) {k:Nat}{s:ByteArray}{f:FileS}(h:(S.list ⟨#[]⟩)[k]?=some s) (hf:aget S.files s=some f):∀m,k<m→aget (zaN S keep m) s=keepF keep k f
 | 0,hm=>by omega
 | m+1,hm=>by
  rw [zaN,aget_app]
  by_cases hk:k=m
  ·subst hk
   rw [crashTo_new ok keep h]
   unfold crashStep
   rw [h]
   simp only
   rw [hf,aget_found]
   rfl
  ·rw [crashTo_get ok keep h hf m (by omega)]
   have hz:aget (crashStep S keep m) s=none:=by
    unfold crashStep
    cases hl:(S.list ⟨#[]⟩)[m]? with
    | none=>rfl
    | some s' =>
     simp only
     refine aget_found_other ?_ _
     rintro rfl
     obtain ⟨hl1,e1⟩:=yad.1 h
     obtain ⟨hl2,e2⟩:=yad.1 hl
     have h3:=list_nodup ok
     rw [List.nodup_iff_pairwise_ne,List.pairwise_iff_getElem] at h3
     exact h3 k m hl1 hl2 (by omega) (e1.trans e2.symm)
   rw [hz]
   cases keepF keep k f<;>rfl
theorem crash_get {S:DiskS}(ok:S.Ok) (keep:List Int) {s:ByteArray}{f:FileS}(hf:aget S.files s=some f):∃k,aget (S.crash keep).files s=keepF keep k f:=by
 have hm:s∈S.list ⟨#[]⟩:=by
  unfold DiskS.list
  refine (zbw _).symm.subset ?_
  rw [names_all]
  exact zbG.1 (by rw [hf];rfl)
 obtain ⟨k,hk⟩:=List.getElem?_of_mem hm
 exact ⟨k,crashTo_get ok keep hk hf _ (yad.1 hk).1⟩
theorem crash_none {S:DiskS}(keep:List Int) {s:ByteArray}(hf:aget S.files s=none):aget (S.crash keep).files s=none:=by
 rw [zaX] at hf ⊢
 intro hm
 apply hf
 have h1:=(zcW S keep (S.list ⟨#[]⟩).length).subset hm
 have h2:=List.mem_of_mem_take h1
 unfold DiskS.list at h2
 have h3:=(zbw _).subset h2
 rw [names_all] at h3
 exact h3
theorem keepF_full (keep:List Int) (k:Nat) (bl:List UInt8):keepF keep k ⟨bl,bl.length,true⟩=some ⟨bl,bl.length,true⟩:=by
 have hk:keepN keep k ⟨bl,bl.length,true⟩=bl.length:=by unfold keepN;simp only;omega
 unfold keepF
 rw [if_pos (.inr rfl),hk]
 simp
end
end Go.Proofs.YtlmfhjipbjkcbaaGreatDoor
