/- x -/
import Derived.Test.YtlmfhjipbjkcbaaGreatDoorDiskR
import Derived.Test.YtlmfhjipbjkcbaaGreatDoorMrw
set_option maxHeartbeats 8000000
set_option maxRecDepth 100000
set_option linter.unusedSimpArgs false
set_option linter.unusedVariables false
namespace Go.Proofs.YtlmfhjipbjkcbaaGreatDoor
section
open Go.RowKit Go.Sort Go.Lib
def fN:ByteArray:=⟨#[110]⟩
def fM:ByteArray:=⟨#[109]⟩
theorem fN_ne:fN≠fM:=by decide
def saveA (S:DiskS):Int×DiskS:=if (aget S.files fN).isSome=true then S.delete fN else (0,S)
def thenS (r:Int×DiskS) (k:DiskS→Int×DiskS):Int×DiskS:=if r.1=0 then k r.2 else r
def saveS (S:DiskS) (s:Sta):Int×DiskS :=
 if staR s=true then thenS (thenS (thenS (saveA S) (fun S=>S.append fN (sealL 7 (staP s)))) (fun S=>S.sync fN)) (fun S=>S.rename fN fM) else (2,S)
def loadO:Option Sta→Sta×Bool×Int
 | some s=>(s,true,0)
 | none=>(staZ,false,24)
def loadS (S:DiskS):Sta×Bool×Int:=match aget S.files fM with
 | none=>(staZ,false,0)
 | some f=>loadO (staRd f.bytes)
def downL (left:Int):Int:=if 0<left then left-1 else left
theorem seal_few {s:Sta}(h:staR s=true) (hm:s.km.ok):(sealL 7 (staP s)).length≤100000:=by
 have:=zdV h hm
 rw [zbh]
 omega
end
section
open Go.RowKit Go.Sort Go.Lib
def LoadPostF (w:World) (r:Sta×Bool×Int) (e:Ending) (w':World):Prop :=
 ∃fa fn fc ta tn tc,e=.returned (.tuple #[.agg (staC r.1 fa fn fc ta tn tc),.bool r.2.1,.int .i64 r.2.2])∧Ext w w'∧StIn w' r.1 fa fn fc ta tn tc ∧
  (∀g,(Value.slice fa fn fc).ownBlock=some g→w.heap.size≤g)∧∀g,(Value.slice ta tn tc).ownBlock=some g→w.heap.size≤g
theorem LoadPostF.zero {w w':World}{b:Bool}{z:Int}{e:Ending}(h:e=.returned (.tuple #[.agg (staC staZ none 0 0 none 0 0),.bool b,.int .i64 z])) (hx:Ext w w'):LoadPostF w (staZ,b,z) e w' :=
 have hz:staZ.km.ok:=⟨by decide,by decide,by decide,by decide⟩
 ⟨_,_,_,_,_,_,h,hx,⟨.inl ⟨rfl,rfl,rfl⟩,.inl ⟨rfl,rfl,rfl⟩,hz,by decide,by decide⟩,fun g hg=>by simp [Value.ownBlock] at hg,fun g hg=>by simp [Value.ownBlock] at hg⟩
theorem fls_apart {w:World}{a:Option Addr}{n c:Nat}{l:List Fl}(h:Src w 4 (.slice a n c) n (fls l)) {g:Nat}(hg:∀o s,w.cell? ⟨g,o,none⟩≠some (.string s)):n=0∨∀b,(Value.slice a n c).ownBlock=some b→¬b=g:=by
 rcases Nat.eq_zero_or_pos n with h0|h0
 ·exact .inl h0
 ·right
  obtain ⟨b,off,p,rfl,_,p0,_⟩:=fls_src h h0
  rintro b' hb rfl
  simp [Value.ownBlock] at hb
  subst hb
  exact hg _ _ p0
theorem trs_apart {w:World}{a:Option Addr}{n c:Nat}{l:List Tr}(h:Src w 5 (.slice a n c) n (trs l)) {g:Nat}(hg:∀o s,w.cell? ⟨g,o,none⟩≠some (.string s)):n=0∨∀b,(Value.slice a n c).ownBlock=some b→¬b=g:=by
 rcases Nat.eq_zero_or_pos n with h0|h0
 ·exact .inl h0
 ·right
  obtain ⟨b,off,p,rfl,_,_,_,_,_,p4⟩:=trs_src h h0
  rintro b' hb rfl
  simp [Value.ownBlock] at hb
  subst hb
  exact hg _ _ p4
theorem zero_no_text {w:World}{g:Nat}(h:w.heap[g]?=some (.cells #[.int .i64 0,.int .i64 0,.int .i64 0,.bool false,.int .i64 0,.int .i64 0,.slice none 0 0,.slice none 0 0] 66 (0,0))):∀o s,w.cell? ⟨g,o,none⟩≠some (.string s):=by
 intro o s e
 rw [zaa h] at e
 rcases o with _|_|_|_|_|_|_|_|o<;>simp at e
theorem manLoadF_any {w:World}{d:Nat}{S:DiskS}{B:List Nat}(ok:S.Ok) (h:zbj w d S B) (hg:HasET w) :
 Calls Tryz.prog 31 #[.pointer (some ⟨d,0,none⟩)] w (LoadPostF w (loadS S)):=by
 have HG:=hid hg
 have HD:=hid h
 clear h hg
 obtain ⟨L,hL⟩:∃L,L=loadS S:=⟨_,rfl⟩
 rw [←hL]
 cases hn:aget S.files fM with
 | none =>
  have HR:Hid (L=(staZ,false,0)):=hid (by rw [hL];unfold loadS;rw [hn])
  have HRD:=hid (fun W (hx:Ext w W)=>zcH (HD.out.ext hx) fM hn)
  clear hn hL
  go_enter Tryz.func31,Tryz.ntmps31
  go_upto_region 1 with fail
  generalize hW:w.alloc _=W
  obtain ⟨g,hgg⟩:∃g,g=w.heap.size:=⟨_,rfl⟩
  rw [←hgg]
  have HX:Hid (Ext w W):=hid (by rw [←hW];exact (Ext.refl w).alloc _)
  have HB:Hid (W.heap[g]?=some (.cells #[.int .i64 0,.int .i64 0,.int .i64 0,.bool false,.int .i64 0,.int .i64 0,.slice none 0 0,.slice none 0 0] 66 (0,0))):=hid (by rw [←hW,hgg];exact heap_alloc_new w _)
  have HGG:=hid hgg
  clear hW hgg
  go_wp2_with fail
  refine (HRD.out W HX.out).mono ?_
  rintro e w1 ⟨rfl,rfl⟩
  go_wp2_with (first|(refine zai rfl _ _ _ rfl _ _ _ _ rfl rfl HB.out rfl zbx (by simp [Value.oneCell']) ?_;rintro wx hbx hcx;have HBX:=hid hbx;have HCX:=hid hcx;clear hbx hcx))
  refine yaE (zaM Tryz.results31 _ _ rfl HBX.out Tryz.underlying66 rfl zbx) rfl ?_
  rw [HR.out]
  exact LoadPostF.zero rfl (HX.out.stored HCX.out (by have:=HGG.out;omega))
 | some f =>
  have HR:Hid (L=loadO (staRd f.bytes)):=hid (by rw [hL];unfold loadS;rw [hn])
  have hsm:f.bytes.length≤1048576:=ok.small _ (zaY hn)
  have HRD:=hid (fun W (hx:Ext w W)=>zbW ok (HD.out.ext hx) fM f hn)
  clear hn hL ok
  go_enter Tryz.func31,Tryz.ntmps31
  go_upto_region 1 with fail
  generalize hW:w.alloc _=W
  obtain ⟨g,hgg⟩:∃g,g=w.heap.size:=⟨_,rfl⟩
  rw [←hgg]
  have HX:Hid (Ext w W):=hid (by rw [←hW];exact (Ext.refl w).alloc _)
  have HB:Hid (W.heap[g]?=some (.cells #[.int .i64 0,.int .i64 0,.int .i64 0,.bool false,.int .i64 0,.int .i64 0,.slice none 0 0,.slice none 0 0] 66 (0,0))):=hid (by rw [←hW,hgg];exact heap_alloc_new w _)
  have HGG:=hid hgg
  clear hW hgg
  go_wp2_with fail
  refine (HRD.out W HX.out).mono ?_
  rintro e w1 ⟨v1,rfl,hrow,hown,hx⟩
  obtain ⟨a,c,rfl⟩:=hrow.shape
  have HX1:=hid (HX.out.trans hx)
  have HB1:=hid (hx.keep HB.out)
  have HSL:Hid (SlB w1 a f.bytes.length c f.bytes):=hid ⟨hrow.src (zaH _),bufRow_le hrow,by omega⟩
  clear hrow hown hx HX HB HRD
  generalize f.bytes=bl at *
  go_wp2_with fail
  refine (manReadF_any w1 a bl.length c bl HSL.out (by omega) (HG.out.ext HX1.out)).mono ?_
  rintro e w2 ⟨fa,fn,fc,ta,tn,tc,rfl,hx,hin,hfo,hto⟩
  have HX2:=hid (HX1.out.trans hx)
  have HB2:=hid (hx.keep HB1.out)
  have HIN:=hid hin
  have HFO:=hid hfo
  have HTO:=hid hto
  clear hfo hto
  have HX1s:=hid HX1.out.size
  clear hx hin HX1 HB1
  replace HR:Hid (L=((staRd bl).getD staZ,(staRd bl).isSome,if (staRd bl).isSome=true then 0 else 24)):=hid (by rw [HR.out];cases staRd bl<;>rfl)
  obtain ⟨Z,hZ⟩:∃Z,Z=(staRd bl).getD staZ:=⟨_,rfl⟩
  obtain ⟨I,hI⟩:∃I,I=(staRd bl).isSome:=⟨_,rfl⟩
  rw [←hZ,←hI] at HR
  rw [←hZ] at HIN
  rw [←hZ,←hI]
  clear hZ hI
  obtain ⟨x,r,q,⟨mb,mt,mg⟩,fl,ti⟩:=Z
  cases I
  all_goals
   go_upto_region 8 with fail
   generalize hW:w2.alloc _=w3
   obtain ⟨t,ht⟩:∃t,t=w2.heap.size:=⟨_,rfl⟩
   rw [←ht]
   have hx3:Ext w2 w3:=by rw [←hW];exact (Ext.refl w2).alloc _
   have hbt:w3.heap[t]?=some (.cells #[.int .i64 x,.int .i64 r,.int .i64 q,.bool mb,.int .i64 mt,.int .i64 mg,.slice fa fn fc,.slice ta tn tc] 66 (0,0)):=by rw [←hW,ht];exact heap_alloc_new w2 _
   have HB3:=hid (hx3.keep HB2.out)
   have HX3:=hid (HX2.out.trans hx3)
   have HI3:=hid (HIN.out.ext hx3)
   have c0:=zaa hbt 0
   have c1:=zaa hbt 1
   have c2:=zaa hbt 2
   have c3:=zaa hbt 3
   have c4:=zaa hbt 4
   have c5:=zaa hbt 5
   have c6:=zaa hbt 6
   have c7:=zaa hbt 7
   clear hW ht hx3 hbt
   go_wp2_with (first|(refine zai rfl _ _ _ rfl _ _ _ _ rfl rfl HB3.out rfl zbx (by simp [Value.oneCell']) ?_;rintro wx hbx hcx;have HBX:=hid hbx;have HCX:=hid hcx;clear hbx hcx))
   refine yaE (zaM Tryz.results31 _ _ rfl HBX.out Tryz.underlying66 rfl zbx) rfl ?_
   rw [HR.out]
   have hxx:Ext w wx:=HX3.out.stored HCX.out (by have:=HGG.out;omega)
   have hno:=zero_no_text HB3.out
   exact ⟨fa,fn,fc,ta,tn,tc,rfl,hxx,⟨HI3.out.fl.chg0 HCX.out (fls_apart HI3.out.fl hno),HI3.out.ti.chg0 HCX.out (trs_apart HI3.out.ti hno),HI3.out.ok,HI3.out.fn63,HI3.out.tn63⟩,fun g hg=>by have:=HFO.out g hg;have:=HX1s.out;omega,fun g hg=>by have:=HTO.out g hg;have:=HX1s.out;omega⟩
end
end Go.Proofs.YtlmfhjipbjkcbaaGreatDoor
