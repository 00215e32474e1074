/- x -/
import Derived.Test.YtlmfhjipbjkcbaaGreatDoorCos
import Derived.Laws.Cover1
set_option maxHeartbeats 8000000
set_option maxRecDepth 100000
set_option linter.unusedSimpArgs false
set_option linter.unusedVariables false
namespace Go.Proofs.YtlmfhjipbjkcbaaGreatDoor
section
open Go.RowKit Go.Sort Go.Lib
theorem cutA_zero (a:Option Addr) (c:Nat):cutA a c 0=a:=by
 unfold cutA
 split
 ·rfl
 ·cases a with
  | none=>rfl
  | some x=>simp [Addr.add]
theorem zar (a:Option Addr) (n c:Nat):(Value.slice a n c).ownBlock=a.map (·.block):=by cases a<;>rfl
structure OpI (W:World) (mb:Nat) (L:List SegI) (k:Nat) (M:List (ByteArray×Value)) (rest:List UInt8) (wr:World):Prop where
 map:MapAt wr mb (mb+3) L k M
 rd:SgR wr (mb+2) rest
 chg:Chg (fun b=>b=mb∨b=mb+2) W wr
def InAt (w1:World) (rb:Nat) (x:SegI) (rest:List UInt8) (at0 j av:Nat) (va:Option Addr) (vc:Nat) (wr:World):Prop :=
 Chg (·=rb) w1 wr∧(if j=0 then av=at0∧va=none∧vc=0∧SgR wr rb (bkP x++rest) else av=at0+x.blk.length∧SgR wr rb rest∧∃g,va=some ⟨g,0,none⟩∧w1.heap.size≤g∧Src wr 5 (.slice va 1 vc) 1 (bkC at0 x).toList)
theorem SgR.err {w:World}{r:Nat}{l:List UInt8}(h:SgR w r l):w.cell? ⟨r,1,none⟩=some .nilIface:=by
 obtain ⟨a,n,c,hb,_⟩:=h
 have:=zaa hb 1
 simpa using this
theorem SgR.map {w w':World}{r mb:Nat}{l:List UInt8}{M:List (ByteArray×Value)}(h:SgR w r l) (hm:MapIs (fun s:ByteArray=>Value.string s) w mb M) (hc:Chg (·=mb) w w') (hr:r≠mb):SgR w' r l:=by
 obtain ⟨a,n,c,h1,h2,h3,h4,h5⟩:=h
 refine ⟨a,n,c,(hc.block r (zab h1) hr).trans h1,?_,h3,h4,h5⟩
 rcases Nat.eq_zero_or_pos n with h0|h0
 ·subst h0
  have hl:=zax h2
  obtain rfl:l=[]:=yau.1 hl
  rcases h2 with h2|⟨ad,c',e,hl,_,ho⟩
  ·exact .inl h2
  ·exact .inr ⟨ad,c',e,hl,fun j u hj=>by simp [u8s] at hj,ho⟩
 ·refine zbU h2 hc (fun b hb e=>?_)
  subst e
  obtain ⟨es,cl,hbm,_⟩:=hm
  rcases h2 with ⟨_,rfl,_⟩|⟨ad,c',e,hl,hs,_⟩
  ·omega
  ·cases e
   have hln:l.length=n:=by simpa [u8s] using hl
   have hz:=hs 0 (.int .u8 (l[0].toNat:Int)) (by simp [u8s,yac (show 0<l.length by omega)])
   obtain ⟨bl,off,spot⟩:=ad
   have hspot:spot=none:=by simpa [Addr.add] using World.cell?_spot hz
   subst hspot
   simp at hb
   subst hb
   rw [yak] at hz
   simp [World.cell?,hbm] at hz
def SegTo (w:World) (L:List SegI) (e:Ending) (w':World):Prop:=∃p,e=.returned (.tuple #[.pointer (some ⟨p,0,none⟩),.int .i64 0])∧SegAt w' p L∧Ext w w'
theorem segOpen_any (w:World) (a:Option Addr) (n c:Nat) (L:List SegI) (hs:Src w 1 (.slice a n c) n (u8s (fileL L))) (hnc:n≤c) (hok:SegOk L) (hg:HasET w) :
 Calls Tryz.prog 68 #[.slice a n c] w (SegTo w L):=by
 have hln:=zax hs
 have hfl:=hok.foot_len
 have hbl:=hok.size
 have hn:n≤1048576:=by
  rw [←hln]
  unfold fileL
  rw [yae,yae,zbh,endL_len]
  omega
 have HFT:=hid (foot_ok w a n c (bodyL L) (footL L) hs hnc (by omega) hn)
 have hbn:(bodyL L).length≤n:=by rw [←hln];unfold fileL;rw [yae];omega
 have HBD:Hid (Src w 1 (.slice a (bodyL L).length c) (bodyL L).length (u8s (bodyL L))):=hid (by
  have h:=zde (l:=0) (h:=(bodyL L).length) (m:=c) hs (by omega) hbn (by omega) (by omega)
  rw [List.drop_zero,Nat.sub_zero,Nat.sub_zero,zdR] at h
  have e1:(fileL L).take (bodyL L).length=bodyL L:=by unfold fileL;exact List.take_left' rfl
  rw [e1,cutA_zero] at h
  exact h)
 have HOK:=hid hok
 have HG:=hid hg
 have HSER:=hid hok.ser
 have hsl1:∀W,(Instr.slice 51 (.slice a n c) none (some (.int .i64 ((bodyL L).length:Int))) none).run Tryz.prog W=.ok (.slice a (bodyL L).length c) W:=fun W=>by
  have h:=run_slice_hi (P:=Tryz.prog) Tryz.underlying51 fr_u8 a n c (bodyL L).length (by omega) W
  rwa [cutA_zero] at h
 obtain ⟨bn,hbn⟩:∃bn,bn=(bodyL L).length:=⟨_,rfl⟩
 obtain ⟨fn,hfn⟩:∃fn,fn=(footL L).length:=⟨_,rfl⟩
 rw [←hbn] at hsl1 HBD hbl HFT
 rw [←hfn] at hfl
 have HBN:=hid hbn
 have HFN:=hid hfn
 clear hs hok hg hln hbn hfn
 go_enter Tryz.func68,Tryz.ntmps68
 go_wp2_with fail
 refine HFT.out.mono ?_
 rintro e w1 ⟨fa,fc,rfl,hm1⟩
 have HM1:=hid hm1
 rw [←HFN.out] at HM1 ⊢
 have HG1:=hid (HG.out.ext hm1.ext)
 clear hm1 HFT
 go_wp2_with fail
 refine (serRead_any w1 fa fn fc (footL L) (HM1.out.row.src (zaH _)) (zcj HM1.out.row) (by omega) HG1.out).mono ?_
 rintro e w2 ⟨hx2,hr⟩
 rw [HSER.out] at hr
 obtain ⟨d,dm,rfl,hd,hd1,hd2⟩:=hr
 have HD:=hid hd
 have HX2:=hid (HM1.out.ext.trans hx2)
 have hx12:=hid hx2
 have HFS:=hid ((HM1.out.row.src (zaH _)).ext hx2)
 have hfc:=zcj HM1.out.row
 have hsub:(serB (zay L)).length≤fn:=by rw [HFN.out];unfold footL;rw [yae];omega
 obtain ⟨un,hun⟩:∃un,un=(serB (zay L)).length:=⟨_,rfl⟩
 rw [←hun] at hsub ⊢
 have HUN:=hid hun
 have hll:(zay L).length=L.length:=zbr L
 have hl0:=HOK.out.pos
 have hl1:=HOK.out.len
 have HDL:=hid (dict_len hd)
 rw [hll] at HDL
 obtain ⟨m,hm⟩:∃m,m=L.length:=⟨_,rfl⟩
 rw [←hm] at HDL hl0 hl1
 have hm0:((m:Int)==0)=false:=yam.2 (by omega)
 have HML:=hid hm
 clear hd hd1 hd2 hx2 hun hll hm
 go_wp2_with fail
 refine HDL.out.mono ?_
 rintro e w3 ⟨rfl,rfl⟩
 clear HDL
 go_upto_region 5 with fail
 have hb0:0<bn:=by
  obtain ⟨x,hx⟩:∃x,L[0]?=some x:=⟨_,yac (by have:=HML.out;omega)⟩
  have h1:=(HOK.out.ok x (yag hx)).b0
  have h2:=offI_le hx
  have:=HBN.out
  omega
 have hmm:=@run_makeMap Tryz.prog
 have HBD3:=hid (HBD.out.ext HX2.out)
 go_wp2_with (at_builtin;go_must (refine zah (n:=0) (m:=bn) (v:=.slice _ _ _) zcI rfl _ _ rfl rfl rfl (row_made (heap_alloc_new _ _) 1) (HBD3.out.ext ((Ext.refl _).alloc _)) (by unfold maxLen;omega) (by omega) ?_;intro v4 w4 happ);obtain ⟨ba,bc,rfl⟩:=happ.row.shape;have HA4:=hid happ;clear happ)
 have hx4:Ext w2 w4:=((Chg.of_ext (S:=fun k=>k=w2.heap.size) ((Ext.refl w2).alloc (.cells #[] 5 (0,0)))).trans HA4.out.chg (fun i hi e=>by
  have e2:some w2.heap.size=some i:=e
  exact (yaG e2).symm)).ext (fun i hi e=>by omega)
 have HX4:=hid hx4
 have HBR:Hid (Row w4 5 1 (.slice ba bn bc) bn (u8s (bodyL L))):=hid (by have h:=HA4.out.row;simpa using h)
 clear hx4 HA4 hb0 hsl1 HBD3
 refine (dict_names (HD.out.ext HX4.out)).mono ?_
 rintro e w5 ⟨v,rfl,hst⟩
 obtain ⟨na,nc,rfl⟩:=hst.row.shape
 have HST:=hid hst
 have hsl2:∀W,(Instr.slice 51 (.slice fa fn fc) (some (.int .i64 (un:Int))) none none).run Tryz.prog W=.ok (.slice (cutA fa fc un) (fn-un) (fc-un)) W:=zbi Tryz.underlying51 fr_u8 fa fn fc un hsub
 have hnl:(zay L).length=m:=by rw [zbr,HML.out]
 have HNL:=hid hnl
 rw [hnl]
 clear hst hnl
 go_upto_region 7 with fail
 generalize hW:World.alloc _ _=W
 obtain ⟨mb,hmb⟩:∃mb,mb=w5.heap.size:=⟨_,rfl⟩
 have HMAP:Hid (MapAt W mb (mb+3) L 0 []):=hid (by
  refine ⟨?_,by simp,fun i x hi _=>by omega⟩
  rw [←hW,hmb]
  exact (MapIs.new w5).ext (((Ext.refl _).alloc _).alloc _))
 have HSGB:Hid (W.heap[mb+1]?=some (.cells #[.slice ba bn bc,.slice na m nc,.map (some mb)] 162 (0,0))):=hid (by
  rw [←hW,hmb]
  have h1:=heap_alloc_new (w5.alloc (.map #[] 0)) (.cells #[.slice ba bn bc,.slice na m nc,.map (some w5.heap.size)] 162 (0,0))
  have e1:(w5.alloc (.map #[] 0)).heap.size=w5.heap.size+1:=by simp
  rw [e1] at h1
  rw [heap_alloc_old _ _ (by simp)]
  exact h1)
 have HRDB:Hid (SgR W (mb+2) (zbb (L.drop 0))):=hid (by
  have hcut:=zbM (k:=un) (HFS.out.ext (HX4.out.trans HST.out.ext)) hsub hfc
  have e1:(footL L).drop un=zbb L:=by unfold footL;rw [HUN.out];exact List.drop_left' rfl
  have e2:((w5.alloc (.map #[] 0)).alloc (.cells #[.slice ba bn bc,.slice na m nc,.map (some w5.heap.size)] 162 (0,0))).heap.size=w5.heap.size+2:=by simp
  have h1:=heap_alloc_new ((w5.alloc (.map #[] 0)).alloc (.cells #[.slice ba bn bc,.slice na m nc,.map (some w5.heap.size)] 162 (0,0))) (.cells #[.slice (cutA fa fc un) (fn-un) (fc-un),.nilIface] 235 (0,0))
  rw [e2] at h1
  rw [e1] at hcut
  rw [←hW,hmb,List.drop_zero]
  refine ⟨_,_,_,h1,hcut.ext ((((Ext.refl _).alloc _).alloc _).alloc _),by omega,fun e=>?_,by omega⟩
  have hlt:∀b,fa.map (·.block)=some b→b<w5.heap.size:=fun b hb=>by
   have:=HM1.out.row.lt (g:=b) (by rw [zar];exact hb)
   have:=(HX4.out.trans HST.out.ext).size
   have:=HX2.out.size
   have:=hx12.out.size
   omega
  have hb:(cutA fa fc un).map (·.block)=some (w5.heap.size+2):=by rw [←e];cases cutA fa fc un<;>rfl
  unfold cutA at hb
  split at hb
  ·have:=hlt _ hb;omega
  ·cases fa with
   | none=>simp at hb
   | some x =>
    have hbk:(x.add un).block=x.block:=by unfold Addr.add;split<;>rfl
    simp [hbk] at hb
    have:=hlt x.block rfl
    omega)
 have HXW:Hid (Ext w5 W):=hid (by rw [←hW];exact (((Ext.refl _).alloc _).alloc _).alloc _)
 have HLT:Hid (w.heap.size≤mb∧(∀b,ba.map (·.block)=some b→b<mb)∧(∀b,na.map (·.block)=some b→b<mb)):=hid (by
  have h2:=(HX2.out.trans (HX4.out.trans HST.out.ext)).size
  refine ⟨by omega,fun b hb=>?_,fun b hb=>?_⟩
  ·have:=HBR.out.lt (g:=b) (by rw [zar];exact hb)
   have:=HST.out.ext.size
   omega
  ·have:=HST.out.row.lt (g:=b) (by rw [zar];exact hb)
   omega)
 have HBS:Hid (Src W 1 (.slice ba bn bc) bn (u8s (bodyL L))):=hid ((HBR.out.src (zaH _)).ext (HST.out.ext.trans HXW.out))
 have HNS:Hid (Src W 1 (.slice na m nc) m (strs (zay L))):=hid (by have h:=HST.out.row.src (strs_one _);rw [HNL.out] at h;exact h.ext HXW.out)
 have HGW:Hid (HasET W):=hid (HG.out.ext (HX2.out.trans (HX4.out.trans (HST.out.ext.trans HXW.out))))
 have HGL:Hid (0<mb):=hid (by have:=HG.out.lt;have:=HLT.out.1;omega)
 have hbc:=zcj HBR.out
 have HBC:=hid hbc
 have HXA:Hid (Ext w W):=hid (HX2.out.trans (HX4.out.trans (HST.out.ext.trans HXW.out)))
 have e12:w5.heap.size+1=mb+1:=by rw [hmb]
 have e13:mb+1+1=mb+2:=rfl
 rw [e12,e13]
 clear hW hmb e12 e13 hbc hmm hsl2 HXW HST HBR HX4 HFS HD HM1 HG1 hsub hfc
 have p1:W.cell? ⟨mb+1,1,none⟩=some (.slice na m nc):=by have:=zaa HSGB.out 1;simpa using this
 go_wp2_with fail
 clear p1
 go_loopw [12,61] (fun s12 s61 wr=>∃(k atv:Nat),s12=.int .i64 (atv:Int)∧s61=.int .i64 (k:Int)∧k≤m∧Hid (atv=offI L k∧∃M,OpI W mb L k M (zbb (L.drop k)) wr)) (fun _ t _=>m-(RowKit.intOf t).toNat)
 case atStart=>exact ⟨0,0,rfl,rfl,Nat.zero_le _,hid ⟨rfl,[],⟨HMAP.out,HRDB.out,Chg.refl _ _⟩⟩⟩
 case round =>
  obtain ⟨k,atv,rfl,rfl,hk,HI⟩:=hrel
  clear HMAP HRDB
  by_cases hlt:k<m
  ·obtain ⟨x,hx⟩:∃x,L[k]?=some x:=⟨_,yac (by have:=HML.out;omega)⟩
   obtain ⟨M,hI⟩:=HI.out.2
   have HM:=hid hI
   have HAT:=hid HI.out.1
   have HXK:=hid hx
   have hat:atv+x.blk.length≤bn:=by rw [HBN.out,HAT.out];exact offI_le hx
   have hxk:=HOK.out.ok x (yag hx)
   have HXO:=hid hxk
   have HNSR:Hid (Src wr 1 (.slice na m nc) m (strs (zay L))):=hid (zbN HNS.out hI.chg (fun b hb e=>by have:=HLT.out.2.2 b hb;omega))
   obtain ⟨nb,no,s,rfl,hs,n0⟩:=strs_src HNSR.out hlt
   obtain rfl:s=x.name:=by
    have:(zay L)[k]?=some x.name:=by unfold zay;rw [yar,hx];rfl
    rw [this] at hs;exact (yaG hs).symm
   have q1:wr.cell? ⟨mb+1,1,none⟩=some (.slice (some ⟨nb,no,none⟩) m nc):=by
    have:=zaa ((hI.chg.block (mb+1) (zab HSGB.out) (fun e=>by omega)).trans HSGB.out) 1
    simpa using this
   have HRD:Hid (SgR wr (mb+2) (varP 1++(bkP x++zbb (L.drop (k+1))))):=hid (by rw [←items_drop hx];exact hI.rd)
   have HGR:Hid (HasET wr):=hid (HGW.out.chg hI.chg (fun e=>by have:=HGL.out;omega))
   clear hs hx hI hxk
   rcases Nat.eq_zero_or_pos k with hk0|hk0
   ·subst hk0
    simp only [Nat.add_zero] at n0
    go_wp2_with fail
    refine (zbO wr (mb+2)).mono ?_
    rintro e w7 ⟨rfl,rfl⟩
    clear n0 q1
    go_wp2_with fail
    refine (sgNum_any wr (mb+2) 1 1048576 _ HRD.out (by omega) (by omega) (by omega) HGR.out).mono ?_
    rintro e w8 ⟨rfl,hr8,hc8⟩
    have HR8:=hid hr8
    have HC8:=hid hc8
    have HG8:=hid (HRD.out.et HGR.out hc8)
    clear hr8 hc8
    go_wp2_with fail
    go_loopw [12,15] (fun s12 s15 wq=>∃(j av:Nat) (va:Option Addr) (vc:Nat),s12=.int .i64 (av:Int)∧s15=.slice va j vc∧j≤1∧Hid (InAt w8 (mb+2) x (zbb (L.drop (0+1))) atv j av va vc wq)) (fun _ t _=>2-(match t with|.slice _ n _=>n|_=>0))
    case atStart=>exact ⟨0,atv,none,0,rfl,rfl,by omega,hid ⟨Chg.refl _ _,by rw [if_pos rfl];exact ⟨rfl,rfl,rfl,HR8.out⟩⟩⟩
    case round =>
     obtain ⟨j,av,va,vc,rfl,rfl,hj,HJ⟩:=hrel
     obtain hj0|hj1:j=0∨j=1:=by omega
     ·subst hj0
      have hJ:=HJ.out
      unfold InAt at hJ
      rw [if_pos rfl] at hJ
      obtain ⟨hcJ,rfl,rfl,rfl,hrJ⟩:=hJ
      have HCJ:=hid hcJ
      have HRJ:=hid hrJ
      have HGJ:=hid (HR8.out.et HG8.out hcJ)
      have r1:=hrJ.err
      clear hcJ hrJ HJ
      go_wp2_with fail
      refine (sgBlock_any wr (mb+2) av x _ HRJ.out HXO.out HGJ.out).mono ?_
      rintro e w9 ⟨rfl,hr9,hc9⟩
      have HR9:=hid hr9
      have HC9:=hid (HCJ.out.trans hc9 (fun _ _ e=>e))
      clear hr9 hc9 r1
      obtain ⟨xl,hxl⟩:∃xl,xl=x.blk.length:=⟨_,rfl⟩
      obtain ⟨rem,hrem⟩:∃rem,rem=bn-av:=⟨_,rfl⟩
      have HXL:=hid hxl
      have HBK:Hid (bkC av x=#[.int .i64 (av:Int),.int .i64 (xl:Int),.int .i64 x.lo,.int .i64 x.hi,.int .i64 (x.n:Int)]):=hid (by rw [hxl];rfl)
      rw [HBK.out]
      rw [←hxl] at hat
      clear hxl
      go_upto_region 16 with fail
      generalize hW9:World.alloc _ _=V
      obtain ⟨bx,hbx⟩:∃bx,bx=w9.heap.size:=⟨_,rfl⟩
      have HXV:Hid (Ext w9 V):=hid (by rw [←hW9];exact (Ext.refl w9).alloc _)
      have HBX:Hid (V.heap[bx]?=some (.cells #[.int .i64 (av:Int),.int .i64 (xl:Int),.int .i64 x.lo,.int .i64 x.hi,.int .i64 (x.n:Int)] 164 (0,0))):=hid (by rw [←hW9,hbx];exact heap_alloc_new w9 _)
      have HRV:=hid (HR9.out.ext HXV.out)
      rw [←hbx]
      clear hW9 hbx
      have y1:=zaa HBX.out 1
      simp at y1
      have hwx:IntKind.i64.wrap ((bn:Int)-(av:Int))=(rem:Int):=by rw [IntWalk.i64_in _ (by omega)];omega
      have hdx:decide (rem<xl)=false:=decide_eq_false (by omega)
      clear hrem
      go_wp2_with fail
      refine zam [] [0,1,2,3,4,5,6,7,8,9,10,11,12,13,14,15,16,17,18,19,20,21,22,23] [24] (by kernel_rfl) (by kernel_rfl) (fun _ _ dd _ _ hh=>by cases dd<;>exact hh) ?_
      simp only [zac,yab,yaa]
      refine yaF ?_
      repeat (go_big_quiet_step (fail))
      refine yaF ?_
      intro w10 hw'
      have hx10:Ext V w10:=by obtain ⟨j,rfl⟩:=hw';exact Ext.drewN _ _
      have HX10:=hid hx10
      have HB10:=hid ((hx10.block (zab HBX.out)).trans HBX.out)
      have HR10:=hid (HRV.out.ext hx10)
      clear hw' hx10 y1 hwx hdx
      go_wp2_with fail
      refine (zbO w10 (mb+2)).mono ?_
      rintro e w11 ⟨rfl,rfl⟩
      have y1:=zaa HB10.out 1
      simp at y1
      go_upto_region 18 with fail
      clear y1
      trace_state
      go_wp2_with (first
       | (refine zat rfl _ _ rfl _ _ _ _ _ rfl HB10.out Tryz.underlying164 rfl bkS_info ?_)
       | (at_builtin;go_must (refine zah (n:=0) (m:=1) (v:=.slice none 0 0) elem_sbk rfl _ _ rfl rfl rfl (Row.nil _ _ _) (src_bk (at':=av) (x:=x) (by rw [HBK.out];exact heap_alloc_new _ _)) (by unfold maxLen;omega) (by omega) ?_;intro v12 w12 happ);obtain ⟨va,vc,rfl⟩:=happ.row.shape;have HA:=hid happ;clear happ))
      have hA:Appended _ 164 5 (.slice none 0 0) (0+1) ([]++(bkC av x).toList) (.slice va (0+1) vc) w12:=HA.out
      have hx12:Ext w8 w8:=Ext.refl _
      have hWa:Ext w10 (w10.alloc (.cells #[.int .i64 (av:Int),.int .i64 (xl:Int),.int .i64 x.lo,.int .i64 x.hi,.int .i64 (x.n:Int)] 164 (0,0))):=(Ext.refl w10).alloc _
      have hch:Chg (·=mb+2) w8 w12:=(((HC9.out.trans (Chg.of_ext (S:=fun _=>False) (HXV.out.trans HX10.out)) (fun _ _ e=>e.elim)).trans (Chg.of_ext (S:=fun _=>False) hWa) (fun _ _ e=>e.elim)).trans hA.chg (fun i _ e=>by simp [Value.ownBlock] at e))
      have hsz:w8.heap.size≤w10.heap.size:=Nat.le_trans HC9.out.size (HXV.out.trans HX10.out).size
      refine ⟨⟨1,av+xl,va,vc,by go_num,rfl,by omega,hid ⟨hch,?_⟩⟩,by show 2-1<2-0;omega⟩
      rw [if_neg (by omega)]
      refine ⟨by rw [HXL.out],(HR10.out.ext hWa).chg hA.chg (fun e=>by simp [Value.ownBlock] at e) (fun b e=>by simp [Value.ownBlock] at e),?_⟩
      have hrow:=hA.row
      have hloc:=hA.loc
      obtain ⟨_,⟨e,_⟩|⟨g,cap,cur,e,_⟩⟩:=hrow
      ·simp at e
      ·simp only [Value.slice.injEq] at e
       obtain ⟨rfl,_,_⟩:=e
       refine ⟨g,rfl,?_,?_⟩
       ·rcases hloc with e|e
        ·simp [Value.ownBlock] at e
        ·have e2:g=(w10.alloc (.cells #[.int .i64 (av:Int),.int .i64 (xl:Int),.int .i64 x.lo,.int .i64 x.hi,.int .i64 (x.n:Int)] 164 (0,0))).heap.size:=yaG e
         have:=hWa.size
         omega
       ·have:=hA.row.src (by intro u hu;exact bkC_one av x u (by simpa using hu))
        simpa using this
     ·subst hj1
      have hJ:=HJ.out
      unfold InAt at hJ
      rw [if_neg (by omega)] at hJ
      obtain ⟨hcJ,hav,hrJ,g,rfl,hg,hsJ⟩:=hJ
      have hcW:Chg (·=mb+2) _ wr:=HC8.out.trans hcJ (fun _ _ e=>e)
      have hmap:=HM.out.map.chg hcW (by omega) (fun b e=>by omega)
      have hchg:=HM.out.chg.trans hcW (fun i _ e=>.inr e)
      have q2:wr.cell? ⟨mb+1,2,none⟩=some (.map (some mb)):=by
       have:=zaa ((hchg.block (mb+1) (zab HSGB.out) (fun e=>by omega)).trans HSGB.out) 2
       simpa using this
      obtain ⟨w13,hup,hm13,hc13⟩:=hmap.map.update (P:=Tryz.prog) (zaz Tryz.underlying9) Tryz.underlying160 x.name (.slice (some ⟨g,0,none⟩) 1 vc)
      have hgl:mb+3≤g:=by
       have h1:=HRD.out.lt
       have h2:=HC8.out.size
       have h3:=HM.out.rd.lt
       omega
      have HNEW:Hid (MapAt w13 mb (mb+3) L (0+1) (aput M x.name (.slice (some ⟨g,0,none⟩) 1 vc))):=hid (hmap.next HOK.out.nodup HXK.out hgl (by rw [←HAT.out];exact hsJ) hm13 hc13 (by omega))
      have HRN:Hid (SgR w13 (mb+2) (zbb (L.drop (0+1)))):=hid (hrJ.map hmap.map hc13 (by omega))
      have HCN:Hid (Chg (fun b=>b=mb∨b=mb+2) W w13):=hid (hchg.trans hc13 (fun i _ e=>.inl e))
      have HAV:Hid (av=offI L (0+1)):=hid (by rw [offI_next HXK.out,hav,HAT.out])
      clear hcJ hrJ hsJ hcW hmap hchg hm13 hc13 hav hg
      go_wp2_with fail
      go_roundw
      case rel=>exact ⟨0+1,av,by go_num,by go_num,by omega,hid ⟨HAV.out,_,⟨HNEW.out,HRN.out,HCN.out⟩⟩⟩
      case measure=>simp [RowKit.intOf];try omega
   ·obtain ⟨j,hj⟩:∃j,j=k-1:=⟨_,rfl⟩
    have hjm:j<m:=by omega
    obtain ⟨nb2,no2,s2,e2,hs2,n2⟩:=strs_src HNSR.out hjm
    cases e2
    have hlq:bl s2<bl x.name:=by
     have h2:(zay L)[k]?=some x.name:=by unfold zay;rw [yar,HXK.out];rfl
     have h3:=List.pairwise_iff_getElem.1 HOK.out.rise j k (yad.1 hs2).1 (yad.1 h2).1 (by omega)
     rw [(yad.1 hs2).2,(yad.1 h2).2] at h3
     exact h3
    have hle:(Op.bytesLess x.name.toList s2.toList || x.name.toList==s2.toList)=false:=by
     rw [less_eq,same_eq]
     have n1:¬bl x.name<bl s2:=List.lt_asymm hlq
     have n2:x.name≠s2:=fun e=>by rw [e] at hlq;exact List.lt_irrefl _ hlq
     simp [n1,n2]
    have hwj:(k:Int)-1=(j:Int):=by omega
    clear hs2 hlq hj
    go_wp2_with fail
    trace_state
    refine (zbO wr (mb+2)).mono ?_
    rintro e w7 ⟨rfl,rfl⟩
    clear hle hwj n2
    clear n0 q1
    go_wp2_with fail
    refine (sgNum_any wr (mb+2) 1 1048576 _ HRD.out (by omega) (by omega) (by omega) HGR.out).mono ?_
    rintro e w8 ⟨rfl,hr8,hc8⟩
    have HR8:=hid hr8
    have HC8:=hid hc8
    have HG8:=hid (HRD.out.et HGR.out hc8)
    clear hr8 hc8
    go_wp2_with fail
    go_loopw [12,15] (fun s12 s15 wq=>∃(j av:Nat) (va:Option Addr) (vc:Nat),s12=.int .i64 (av:Int)∧s15=.slice va j vc∧j≤1∧Hid (InAt w8 (mb+2) x (zbb (L.drop (k+1))) atv j av va vc wq)) (fun _ t _=>2-(match t with|.slice _ n _=>n|_=>0))
    case atStart=>exact ⟨0,atv,none,0,rfl,rfl,by omega,hid ⟨Chg.refl _ _,by rw [if_pos rfl];exact ⟨rfl,rfl,rfl,HR8.out⟩⟩⟩
    case round =>
     obtain ⟨j,av,va,vc,rfl,rfl,hj,HJ⟩:=hrel
     obtain hj0|hj1:j=0∨j=1:=by omega
     ·subst hj0
      have hJ:=HJ.out
      unfold InAt at hJ
      rw [if_pos rfl] at hJ
      obtain ⟨hcJ,rfl,rfl,rfl,hrJ⟩:=hJ
      have HCJ:=hid hcJ
      have HRJ:=hid hrJ
      have HGJ:=hid (HR8.out.et HG8.out hcJ)
      have r1:=hrJ.err
      clear hcJ hrJ HJ
      go_wp2_with fail
      refine (sgBlock_any wr (mb+2) av x _ HRJ.out HXO.out HGJ.out).mono ?_
      rintro e w9 ⟨rfl,hr9,hc9⟩
      have HR9:=hid hr9
      have HC9:=hid (HCJ.out.trans hc9 (fun _ _ e=>e))
      clear hr9 hc9 r1
      obtain ⟨xl,hxl⟩:∃xl,xl=x.blk.length:=⟨_,rfl⟩
      obtain ⟨rem,hrem⟩:∃rem,rem=bn-av:=⟨_,rfl⟩
      have HXL:=hid hxl
      have HBK:Hid (bkC av x=#[.int .i64 (av:Int),.int .i64 (xl:Int),.int .i64 x.lo,.int .i64 x.hi,.int .i64 (x.n:Int)]):=hid (by rw [hxl];rfl)
      rw [HBK.out]
      rw [←hxl] at hat
      clear hxl
      go_upto_region 16 with fail
      generalize hW9:World.alloc _ _=V
      obtain ⟨bx,hbx⟩:∃bx,bx=w9.heap.size:=⟨_,rfl⟩
      have HXV:Hid (Ext w9 V):=hid (by rw [←hW9];exact (Ext.refl w9).alloc _)
      have HBX:Hid (V.heap[bx]?=some (.cells #[.int .i64 (av:Int),.int .i64 (xl:Int),.int .i64 x.lo,.int .i64 x.hi,.int .i64 (x.n:Int)] 164 (0,0))):=hid (by rw [←hW9,hbx];exact heap_alloc_new w9 _)
      have HRV:=hid (HR9.out.ext HXV.out)
      rw [←hbx]
      clear hW9 hbx
      have y1:=zaa HBX.out 1
      simp at y1
      have hwx:IntKind.i64.wrap ((bn:Int)-(av:Int))=(rem:Int):=by rw [IntWalk.i64_in _ (by omega)];omega
      have hdx:decide (rem<xl)=false:=decide_eq_false (by omega)
      clear hrem
      go_wp2_with fail
      refine zam [] [0,1,2,3,4,5,6,7,8,9,10,11,12,13,14,15,16,17,18,19,20,21,22,23] [24] (by kernel_rfl) (by kernel_rfl) (fun _ _ dd _ _ hh=>by cases dd<;>exact hh) ?_
      simp only [zac,yab,yaa]
      refine yaF ?_
      repeat (go_big_quiet_step (fail))
      refine yaF ?_
      intro w10 hw'
      have hx10:Ext V w10:=by obtain ⟨j,rfl⟩:=hw';exact Ext.drewN _ _
      have HX10:=hid hx10
      have HB10:=hid ((hx10.block (zab HBX.out)).trans HBX.out)
      have HR10:=hid (HRV.out.ext hx10)
      clear hw' hx10 y1 hwx hdx
      go_wp2_with fail
      refine (zbO w10 (mb+2)).mono ?_
      rintro e w11 ⟨rfl,rfl⟩
      have y1:=zaa HB10.out 1
      simp at y1
      go_upto_region 18 with fail
      clear y1
      trace_state
      go_wp2_with (first
       | (refine zat rfl _ _ rfl _ _ _ _ _ rfl HB10.out Tryz.underlying164 rfl bkS_info ?_)
       | (at_builtin;go_must (refine zah (n:=0) (m:=1) (v:=.slice none 0 0) elem_sbk rfl _ _ rfl rfl rfl (Row.nil _ _ _) (src_bk (at':=av) (x:=x) (by rw [HBK.out];exact heap_alloc_new _ _)) (by unfold maxLen;omega) (by omega) ?_;intro v12 w12 happ);obtain ⟨va,vc,rfl⟩:=happ.row.shape;have HA:=hid happ;clear happ))
      have hA:Appended _ 164 5 (.slice none 0 0) (0+1) ([]++(bkC av x).toList) (.slice va (0+1) vc) w12:=HA.out
      have hx12:Ext w8 w8:=Ext.refl _
      have hWa:Ext w10 (w10.alloc (.cells #[.int .i64 (av:Int),.int .i64 (xl:Int),.int .i64 x.lo,.int .i64 x.hi,.int .i64 (x.n:Int)] 164 (0,0))):=(Ext.refl w10).alloc _
      have hch:Chg (·=mb+2) w8 w12:=(((HC9.out.trans (Chg.of_ext (S:=fun _=>False) (HXV.out.trans HX10.out)) (fun _ _ e=>e.elim)).trans (Chg.of_ext (S:=fun _=>False) hWa) (fun _ _ e=>e.elim)).trans hA.chg (fun i _ e=>by simp [Value.ownBlock] at e))
      have hsz:w8.heap.size≤w10.heap.size:=Nat.le_trans HC9.out.size (HXV.out.trans HX10.out).size
      refine ⟨⟨1,av+xl,va,vc,by go_num,rfl,by omega,hid ⟨hch,?_⟩⟩,by show 2-1<2-0;omega⟩
      rw [if_neg (by omega)]
      refine ⟨by rw [HXL.out],(HR10.out.ext hWa).chg hA.chg (fun e=>by simp [Value.ownBlock] at e) (fun b e=>by simp [Value.ownBlock] at e),?_⟩
      have hrow:=hA.row
      have hloc:=hA.loc
      obtain ⟨_,⟨e,_⟩|⟨g,cap,cur,e,_⟩⟩:=hrow
      ·simp at e
      ·simp only [Value.slice.injEq] at e
       obtain ⟨rfl,_,_⟩:=e
       refine ⟨g,rfl,?_,?_⟩
       ·rcases hloc with e|e
        ·simp [Value.ownBlock] at e
        ·have e2:g=(w10.alloc (.cells #[.int .i64 (av:Int),.int .i64 (xl:Int),.int .i64 x.lo,.int .i64 x.hi,.int .i64 (x.n:Int)] 164 (0,0))).heap.size:=yaG e
         have:=hWa.size
         omega
       ·have:=hA.row.src (by intro u hu;exact bkC_one av x u (by simpa using hu))
        simpa using this
     ·subst hj1
      have hJ:=HJ.out
      unfold InAt at hJ
      rw [if_neg (by omega)] at hJ
      obtain ⟨hcJ,hav,hrJ,g,rfl,hg,hsJ⟩:=hJ
      have hcW:Chg (·=mb+2) _ wr:=HC8.out.trans hcJ (fun _ _ e=>e)
      have hmap:=HM.out.map.chg hcW (by omega) (fun b e=>by omega)
      have hchg:=HM.out.chg.trans hcW (fun i _ e=>.inr e)
      have q2:wr.cell? ⟨mb+1,2,none⟩=some (.map (some mb)):=by
       have:=zaa ((hchg.block (mb+1) (zab HSGB.out) (fun e=>by omega)).trans HSGB.out) 2
       simpa using this
      obtain ⟨w13,hup,hm13,hc13⟩:=hmap.map.update (P:=Tryz.prog) (zaz Tryz.underlying9) Tryz.underlying160 x.name (.slice (some ⟨g,0,none⟩) 1 vc)
      have hgl:mb+3≤g:=by
       have h1:=HRD.out.lt
       have h2:=HC8.out.size
       have h3:=HM.out.rd.lt
       omega
      have HNEW:Hid (MapAt w13 mb (mb+3) L (k+1) (aput M x.name (.slice (some ⟨g,0,none⟩) 1 vc))):=hid (hmap.next HOK.out.nodup HXK.out hgl (by rw [←HAT.out];exact hsJ) hm13 hc13 (by omega))
      have HRN:Hid (SgR w13 (mb+2) (zbb (L.drop (k+1)))):=hid (hrJ.map hmap.map hc13 (by omega))
      have HCN:Hid (Chg (fun b=>b=mb∨b=mb+2) W w13):=hid (hchg.trans hc13 (fun i _ e=>.inl e))
      have HAV:Hid (av=offI L (k+1)):=hid (by rw [offI_next HXK.out,hav,HAT.out])
      clear hcJ hrJ hsJ hcW hmap hchg hm13 hc13 hav hg
      go_wp2_with fail
      go_roundw
      case rel=>exact ⟨k+1,av,by go_num,by go_num,by omega,hid ⟨HAV.out,_,⟨HNEW.out,HRN.out,HCN.out⟩⟩⟩
      case measure=>simp [RowKit.intOf];try omega
  ·obtain rfl:k=m:=by omega
   obtain ⟨M,hI⟩:=HI.out.2
   have hav:atv=bn:=by
    have h:=HI.out.1
    rw [HML.out,offI_all,←HBN.out] at h
    exact h
   obtain rfl:=hav
   have hrd:=hI.rd
   have e0:L.drop k=[]:=List.drop_eq_nil_of_le (by rw [HML.out];exact Nat.le_refl _)
   rw [e0] at hrd
   obtain ⟨ra,rn,rc,hrb,hrs,_⟩:=hrd
   have hrn:rn=0:=by have:=zax hrs;simpa [zbb] using this.symm
   subst hrn
   have r0:=zaa hrb 0
   have r1:=zaa hrb 1
   simp at r0 r1
   have hb:=(hI.chg.block (mb+1) (zab HSGB.out) (fun e=>by omega)).trans HSGB.out
   have HSA:Hid (SegAt wr (mb+1) L):=hid (by
    refine ⟨ba,bc,na,nc,mb,mb+3,M,by rw [←HML.out,←HBN.out];exact hb,?_,by rw [←HBN.out];exact HBC.out,?_,by rw [←HML.out];exact hI.map⟩
    ·rw [←HBN.out];exact zbN HBS.out hI.chg (fun b hb e=>by have:=HLT.out.2.1 b hb;omega)
    ·rw [←HML.out];exact zbN HNS.out hI.chg (fun b hb e=>by have:=HLT.out.2.2 b hb;omega))
   have HXF:Hid (Ext w wr):=hid (((Chg.of_ext (S:=fun b=>b=mb∨b=mb+2) HXA.out).trans hI.chg (fun _ _ e=>e)).ext (fun i hi e=>by have:=HLT.out.1;omega))
   clear hI hrb hrs hb e0
   go_wp2_with fail
   refine (zbO wr (mb+2)).mono ?_
   rintro e w7 ⟨rfl,rfl⟩
   go_wp2_with fail
   refine (is_nil 24 wr).mono ?_
   rintro e w8 ⟨rfl,rfl⟩
   go_wp2_with fail
   go_ret2
   exact ⟨mb+1,rfl,HSA.out,HXF.out⟩
structure PaM where
 nm:ByteArray
 a:Option Addr
 n:Nat
 c:Nat
 l:List Pt
def PaM.cells (p:PaM):List Value:=[.string p.nm,.slice p.a p.n p.c]
def pams (P:List PaM):List Value:=P.flatMap PaM.cells
structure PaM.Ok (w:World) (p:PaM):Prop where
 src:Src w 3 (.slice p.a p.n p.c) p.n (pts p.l)
 cap:p.n≤p.c
theorem PaM.Ok.ext {w w':World}{p:PaM}(h:p.Ok w) (hx:Ext w w'):p.Ok w':=⟨h.src.ext hx,h.cap⟩
def prtOf (p:PaM):Prt:=(p.nm,p.l)
theorem pams_len (P:List PaM):(pams P).length=P.length*2:=by
 induction P with
 | nil=>rfl
 | cons p l ih=>simp [pams,PaM.cells] at ih ⊢;omega
theorem pams_append (a b:List PaM):pams (a++b)=pams a++pams b:=by simp [pams]
theorem zdY (P:List PaM):∀u∈pams P,u.oneCell'=true:=by
 intro u hu
 simp only [pams,List.mem_flatMap,PaM.cells] at hu
 obtain ⟨p,_,hu⟩:=hu
 simp at hu
 rcases hu with rfl|rfl<;>rfl
theorem pams_at (P:List PaM) (k:Nat) (p:PaM) (h:P[k]?=some p):(pams P)[k*2]?=some (.string p.nm)∧(pams P)[k*2+1]?=some (.slice p.a p.n p.c):=by
 induction P generalizing k with
 | nil=>simp at h
 | cons q l ih =>
  cases k with
  | zero=>simp at h;subst h;simp [pams,PaM.cells]
  | succ k =>
   have:=ih k (by simpa using h)
   rw [show (k+1)*2=k*2+2 by omega]
   simpa [pams,PaM.cells] using this
theorem pams_src {w:World}{a:Option Addr}{n c:Nat}{P:List PaM}(h:Src w 2 (.slice a n c) n (pams P)) {k:Nat}(hk:k<n) :
 ∃b off p,a=some ⟨b,off,none⟩∧P[k]?=some p∧w.cell? ⟨b,off+k*2,none⟩=some (.string p.nm)∧w.cell? ⟨b,off+k*2+1,none⟩=some (.slice p.a p.n p.c):=by
 rcases h with ⟨_,h,_⟩|⟨ad,c',h,hl,h2,_⟩
 ·omega
 ·simp at h
  obtain ⟨rfl,rfl⟩:=h
  rw [pams_len] at hl
  have hkl:k<P.length:=by omega
  obtain ⟨e0,e1⟩:=pams_at P k P[k] (yac hkl)
  have c0:=h2 _ _ e0
  have c1:=h2 _ _ e1
  obtain ⟨b,off,spot⟩:=ad
  have hz:=h2 0 _ (pams_at P 0 _ (yac (show 0<P.length by omega))).1
  have hspot:spot=none:=by simpa [Addr.add] using World.cell?_spot hz
  subst hspot
  rw [yak] at c0 c1
  exact ⟨b,off,P[k],rfl,yac hkl,c0,c1⟩
theorem zcO {w:World}{v:Value}{n:Nat}{P:List PaM}(h:Src w 2 v n (pams P)):P.length=n:=by
 rcases h with ⟨_,rfl,h⟩|⟨_,_,_,h,_⟩
 ·have:=congrArg List.length h
  rw [pams_len] at this
  have e:P.length*2=0:=this
  have:P.length=0:=by omega
  exact this
 ·rw [pams_len] at h;omega
def nmsOf (P:List PaM):List ByteArray:=P.map PaM.nm
theorem putNext {l:List ByteArray}{s:ByteArray}(hv:zbg (bl s)=true) (hn:s∉l) (hl:l.length<1024):zbk l s=(((l.length:Nat):Int),(0:Int))∧zbn l s=l++[s]:=by
 have hv':zbg s.data.toList=true:=hv
 constructor
 ·unfold zbk
  rw [if_neg (by rw [hv'];simp),if_neg hn,if_neg (by omega)]
 ·unfold zbn
  rw [if_pos ⟨hv,hn,hl⟩]
theorem segNames_any (w:World) (a:Option Addr) (n c:Nat) (P:List PaM) (hs:Src w 2 (.slice a n c) n (pams P)) (hv:∀s∈nmsOf P,zbg (bl s)=true) (hr:(nmsOf P).Pairwise fun a b=>bl a<bl b) (h0:0<n) (hn:n≤1024) :
 Calls Tryz.prog 116 #[.slice a n c] w fun e w'=>∃d mb,e=.returned (.tuple #[.pointer (some ⟨d,0,none⟩),.bool true])∧DictAt w' d mb (nmsOf P)∧Ext w w':=by
 have hlen:=zcO hs
 have HLN:Hid ((nmsOf P).length=n):=hid (by unfold nmsOf;rw [yaw];exact hlen)
 have HS:=hid hs
 have HV:=hid hv
 have HR:=hid hr
 clear hs hv hr hlen
 go_enter Tryz.func116,Tryz.ntmps116
 go_wp2_with fail
 refine (dict_new w).mono ?_
 rintro e w1 ⟨rfl,hd1,hx1⟩
 obtain ⟨mb,hmb⟩:∃mb,mb=w.heap.size:=⟨_,rfl⟩
 rw [←hmb] at hd1 ⊢
 have HD1:=hid hd1
 have HX1:=hid hx1
 have HMB:=hid hmb
 clear hd1 hx1 hmb
 go_wp2_with fail
 go_loopw [2,3,12] (fun s2 s3 s12 wr=>∃k:Nat,s2=.pointer none∧s3=.bool false∧s12=.int .i64 (k:Int)∧k≤n∧Hid (DictAt wr (mb+1) mb ((nmsOf P).take k)∧Ext w wr)) (fun _ _ t _=>n-(RowKit.intOf t).toNat)
 case atStart=>exact ⟨0,rfl,rfl,rfl,Nat.zero_le _,hid ⟨by simpa using HD1.out,HX1.out⟩⟩
 case round =>
  obtain ⟨k,rfl,rfl,rfl,hk,HI⟩:=hrel
  by_cases hlt:k<n
  ·obtain ⟨pb,po,p,rfl,hp,p0,p1⟩:=pams_src (HS.out.ext HI.out.2) hlt
   have hpn:(nmsOf P)[k]?=some p.nm:=by unfold nmsOf;rw [yar,hp];rfl
   have hpm:p.nm∈nmsOf P:=yag hpn
   have hvp:=HV.out p.nm hpm
   have hnot:p.nm∉(nmsOf P).take k:=by
    intro hm
    obtain ⟨i,hi,e⟩:=yaH.1 hm
    rw [yaB] at hi
    have hi2:i<k:=by omega
    have h3:=List.pairwise_iff_getElem.1 HR.out i k (by omega) (by have:=HLN.out;omega) hi2
    rw [List.getElem_take] at e
    have e2:(nmsOf P)[k]'(by have:=HLN.out;omega)=p.nm:=by
     have:=(yad.1 hpn).2
     exact this
    rw [e,e2] at h3
    exact List.lt_irrefl _ h3
   have hlk:((nmsOf P).take k).length=k:=by rw [yaB,HLN.out];omega
   obtain ⟨ht,hpu⟩:=putNext hvp hnot (by rw [hlk];omega)
   have hsz:=valid_size hvp
   have HPUT:=hid (fun W (hW:DictAt W (mb+1) mb ((nmsOf P).take k))=>dict_put hW p.nm (by unfold maxLen;omega))
   rw [ht,hpu,hlk] at HPUT
   have HTK:Hid ((nmsOf P).take (k+1)=(nmsOf P).take k++[p.nm]):=hid (by rw [yao,hpn];rfl)
   have HPK:=hid hp
   have HMS:Hid (mb<wr.heap.size):=hid HI.out.1.map.lt
   clear hpm hvp hnot hlk ht hpu hsz hp hpn
   go_wp2_with fail
   generalize hW:World.alloc _ _=W
   obtain ⟨bx,hbx⟩:∃bx,bx=wr.heap.size:=⟨_,rfl⟩
   have HXW:Hid (Ext wr W):=hid (by rw [←hW];exact (Ext.refl wr).alloc _)
   have HBX:Hid (W.heap[bx]?=some (.cells #[.string p.nm,.slice p.a p.n p.c] 43 (0,0))):=hid (by rw [←hW,hbx];exact heap_alloc_new wr _)
   have HLT:Hid (mb<bx):=hid (by have:=HMS.out;omega)
   rw [←hbx]
   clear hW hbx p0 p1
   refine (HPUT.out W (HI.out.1.ext HXW.out)).mono ?_
   rintro e w3 ⟨rfl,hd3,hc3⟩
   simp only
   have HD3:Hid (DictAt w3 (mb+1) mb ((nmsOf P).take (k+1))):=hid (by rw [HTK.out];exact hd3)
   have HX3:Hid (Ext w w3):=hid (((Chg.of_ext (S:=(·=mb)) (HI.out.2.trans HXW.out)).trans hc3 (fun _ _ e=>e)).ext (fun i hi e=>by have:=HMB.out;omega))
   have HB3:=hid ((hc3.block bx (zab HBX.out) (fun e=>by have:=HLT.out;omega)).trans HBX.out)
   clear hd3 hc3 HPUT HBX
   by_cases hk0:k=0
   ·subst hk0
    go_wp2_with fail
    refine zam [] [0,1,2,3,4,5,6,7,8,9,10,11,12,13,14,15,16] [] (by kernel_rfl) (by kernel_rfl) (fun _ _ dd _ _ hh=>by cases dd<;>exact hh) ?_
    simp only [zac,yab,yaa]
    refine yaF ?_
    repeat (go_big_quiet_step (fail))
    refine yaF ?_
    intro w4 hw'
    have hx4:Ext w3 w4:=by obtain ⟨j,rfl⟩:=hw';exact Ext.drewN _ _
    have HX4:=hid hx4
    clear hw' hx4
    go_wp2_with fail
    go_roundw
    case rel=>exact ⟨0+1,rfl,rfl,by go_num,by omega,hid ⟨HD3.out.ext HX4.out,HX3.out.trans HX4.out⟩⟩
    case measure=>simp [RowKit.intOf];omega
   ·obtain ⟨j,hj⟩:∃j,j=k-1:=⟨_,rfl⟩
    have hjn:j<n:=by omega
    obtain ⟨qb,qo,q,e1,hq,q0,q1⟩:=pams_src (HS.out.ext HX3.out) hjn
    cases e1
    have hlq:bl q.nm<bl p.nm:=by
     have h1:(nmsOf P)[j]?=some q.nm:=by unfold nmsOf;rw [yar,hq];rfl
     have h2:(nmsOf P)[k]?=some p.nm:=by unfold nmsOf;rw [yar,HPK.out];rfl
     have h3:=List.pairwise_iff_getElem.1 HR.out j k (yad.1 h1).1 (yad.1 h2).1 (by omega)
     rw [(yad.1 h1).2,(yad.1 h2).2] at h3
     exact h3
    have hle:(Op.bytesLess p.nm.toList q.nm.toList || p.nm.toList==q.nm.toList)=false:=by
     rw [less_eq,same_eq]
     have n1:¬bl p.nm<bl q.nm:=List.lt_asymm hlq
     have n2:p.nm≠q.nm:=fun e=>by rw [e] at hlq;exact List.lt_irrefl _ hlq
     simp [n1,n2]
    have hd0:decide (0<k)=true:=decide_eq_true (by omega)
    have hwj:IntKind.i64.wrap ((k:Int)-1)=(j:Int):=by rw [IntWalk.i64_in _ (by omega)];omega
    have b0:=zaa HB3.out 0
    simp at b0
    clear hq hlq hj q1
    go_wp2_with fail
    refine zam [] [0,1,2,3,4,5,6,7,8,9,10,11,12,13,14,15,16] [] (by kernel_rfl) (by kernel_rfl) (fun _ _ dd _ _ hh=>by cases dd<;>exact hh) ?_
    simp only [zac,yab,yaa]
    refine yaF ?_
    repeat (go_big_quiet_step (fail))
    refine yaF ?_
    intro w4 hw'
    have hx4:Ext w3 w4:=by obtain ⟨j,rfl⟩:=hw';exact Ext.drewN _ _
    have HX4:=hid hx4
    clear hw' hx4 hle hd0 hwj b0 q0
    go_wp2_with fail
    go_roundw
    case rel=>exact ⟨k+1,rfl,rfl,by go_num,by omega,hid ⟨HD3.out.ext HX4.out,HX3.out.trans HX4.out⟩⟩
    case measure=>simp [RowKit.intOf];omega
  ·obtain rfl:k=n:=by omega
   have HD:Hid (DictAt wr (mb+1) mb (nmsOf P)):=hid (by
    have:=HI.out.1
    rw [yai (by rw [HLN.out];exact Nat.le_refl _)] at this
    exact this)
   have hk1:(0:Int)<(k:Int):=by omega
   go_wp2_with fail
   go_ret2
   exact ⟨mb+1,mb,rfl,HD.out,HI.out.2⟩
def zaD (P:List PaM):List Prt:=P.map prtOf
theorem prts_names (P:List PaM):(zaD P).map Prod.fst=nmsOf P:=by simp [zaD,nmsOf,prtOf,Function.comp_def]
theorem manyP_at {Q:List Prt}{k:Nat}{p:Prt}(h:Q[k]?=some p):p.2.length≤manyP Q:=by
 induction Q generalizing k with
 | nil=>simp at h
 | cons q Q ih =>
  have e:manyP (q::Q)=q.2.length+manyP Q:=by simp [manyP]
  cases k with
  | zero=>simp at h;subst h;omega
  | succ k=>have:=ih (k:=k) (by simpa using h);omega
theorem take_items {Q:List Prt}{k:Nat}{p:Prt}(h:Q[k]?=some p):(zaw Q).take (k+1)=(zaw Q).take k++[itemOf p]:=by
 unfold zaw
 rw [yao,yar,h];rfl
theorem bodyL_take (L:List SegI) (k:Nat):(bodyL (L.take k)).length≤(bodyL L).length:=by
 have e:bodyL L=bodyL (L.take k)++bodyL (L.drop k):=by unfold bodyL;rw [←List.flatMap_append,yaS]
 rw [e,yae];omega
theorem itemsP_take (L:List SegI) (k:Nat):(zbb (L.take k)).length≤(zbb L).length:=by
 have e:zbb L=zbb (L.take k)++zbb (L.drop k):=by unfold zbb;rw [←List.flatMap_append,yaS]
 rw [e,yae];omega
theorem src_le4n {W:World}{b n:Nat}{t:TypeId}(hn:n≤1048576) (h:W.heap[b]?=some (.cells #[.int .u8 ((n:Int)%256),.int .u8 ((n:Int)/256%256),.int .u8 ((n:Int)/65536),.int .u8 ((n:Int)/16777216)] t (0,0))) :
 Src W 1 (.slice (some ⟨b,0,none⟩) 4 4) 4 (u8s (le4 n)):=by
 have e:=four4_vals n (by omega)
 have e1:(n:Int)/65536%256=(n:Int)/65536:=by omega
 refine src_four (t:=t) ?_
 rw [h,←e,e1]
theorem build_ok (w:World) (a:Option Addr) (n c:Nat) (P:List PaM) (hs:Src w 2 (.slice a n c) n (pams P)) (hP:∀p∈P,p.Ok w) (hok:PrtsOk (zaD P)) :
 Calls Tryz.prog 67 #[.slice a n c] w fun e w'=>∃va vc,e=.returned (.tuple #[.slice va (segB (zaD P)).length vc,.int .i64 0])∧MadeTo w 5 1 (.slice va (segB (zaD P)).length vc) (segB (zaD P)).length (u8s (segB (zaD P))) w':=by
 have hlen:=zcO hs
 have hQ:(zaD P).length=n:=by rw [←hlen];simp [zaD]
 have hbo:=body_of hok.col
 have hn0:0<n:=by rw [←hQ];exact hok.pos
 have hn1:n≤1024:=by have:=hok.many;omega
 have hvn:∀s∈nmsOf P,zbg (bl s)=true:=fun s hs=>by
  obtain ⟨p,hp,rfl⟩:=yap.1 hs
  exact hok.name (prtOf p) (yax hp)
 have HNM:=hid (segNames_any w a n c P hs hvn (by rw [←prts_names];exact hok.rise) hn0 hn1)
 have HVN:=hid hvn
 have HOK:=hid hok
 have HSG:=hid hok.seg
 have HS:=hid hs
 have HP:=hid hP
 have HQ:=hid hQ
 have HFL:Hid (serB (nmsOf P)++zbb (zaw (zaD P))=footL (zaw (zaD P))):=hid (by unfold footL;rw [namesI_of,prts_names])
 clear hs hP hok hlen hQ hbo hvn
 go_enter Tryz.func67,Tryz.ntmps67
 go_wp2_with fail
 refine HNM.out.mono ?_
 rintro e w1 ⟨d,mb,rfl,hd,hx1⟩
 have HX1:=hid hx1
 have HD1:=hid hd
 clear hx1 hd HNM
 go_wp2_with fail
 generalize hW:World.alloc _ _=W1
 obtain ⟨ob,hob⟩:∃ob,ob=w1.heap.size:=⟨_,rfl⟩
 have HXW1:Hid (Ext w1 W1):=hid (by rw [←hW];exact (Ext.refl w1).alloc _)
 have HOB1:Hid (W1.heap[ob]?=some (.cells #[.slice none 0 0] 51 (0,0))):=hid (by rw [←hW,hob];exact heap_alloc_new w1 _)
 have HOBN:Hid (w.heap.size≤ob):=hid (by rw [hob];exact HX1.out.size)
 rw [←hob]
 clear hW hob
 refine (dict_bytes (HD1.out.ext HXW1.out) (fun s hs=>by have:=valid_size (HVN.out s hs);omega)).mono ?_
 rintro e w2 ⟨v,rfl,hm2⟩
 obtain ⟨fa,fc,rfl⟩:=hm2.row.shape
 have HM2:=hid hm2
 clear hm2
 go_upto_region 6 with fail
 generalize hW:World.alloc _ _=W2
 obtain ⟨fb,hfb⟩:∃fb,fb=w2.heap.size:=⟨_,rfl⟩
 have HB2:Hid (BuiAt w ob fb (bodyL ((zaw (zaD P)).take 0)) (serB (nmsOf P)++zbb ((zaw (zaD P)).take 0)) W2):=hid (by
  have hx2:Ext w2 W2:=by rw [←hW];exact (Ext.refl w2).alloc _
  have hb:W2.heap[fb]?=some (.cells #[.slice fa (serB (nmsOf P)).length fc] 51 (0,0)):=by rw [←hW,hfb];exact heap_alloc_new w2 _
  have ho2:=(HM2.out.ext.block (zab HOB1.out)).trans HOB1.out
  have l1:=zab HOB1.out
  have l2:=zab ho2
  have e1:bodyL ((zaw (zaD P)).take 0)=[]:=rfl
  have e2:serB (nmsOf P)++zbb ((zaw (zaD P)).take 0)=serB (nmsOf P):=by simp [zbb]
  rw [e1,e2]
  refine ⟨HOBN.out,by omega,HX1.out.trans (HXW1.out.trans (HM2.out.ext.trans hx2)),none,0,fa,fc,(hx2.block l2).trans ho2,hb,Row.nil _ _ _,HM2.out.row.ext hx2,fun g hg=>by simp [Value.ownBlock] at hg,fun g hg=>?_,fun g hg=>by simp [Value.ownBlock] at hg⟩
  have h1:=HM2.out.own g hg
  have h2:=HM2.out.row.lt hg
  have h3:=HX1.out.size
  have h4:=HXW1.out.size
  omega)
 rw [←hfb]
 clear hW hfb HM2 HOB1 HXW1 HOBN HD1 HX1
 go_wp2_with fail
 go_loopw [2,3,27] (fun s2 s3 s27 wr=>∃k:Nat,s2=.slice none 0 0∧s3=.int .i64 0∧s27=.int .i64 (k:Int)∧k≤n∧Hid (BuiAt w ob fb (bodyL ((zaw (zaD P)).take k)) (serB (nmsOf P)++zbb ((zaw (zaD P)).take k)) wr)) (fun _ _ t _=>n-(RowKit.intOf t).toNat)
 case atStart=>exact ⟨0,rfl,rfl,rfl,Nat.zero_le _,HB2⟩
 case round =>
  obtain ⟨k,rfl,rfl,rfl,hk,HI⟩:=hrel
  clear HB2
  by_cases hlt:k<n
  ·obtain ⟨pb,po,p,rfl,hp,p0,p1⟩:=pams_src (HS.out.ext HI.out.2.2.1) hlt
   have hpq:(zaD P)[k]?=some (prtOf p):=by unfold zaD;rw [yar,hp];rfl
   have hpm:prtOf p∈zaD P:=yag hpq
   have hcv:colV p.l=true:=HOK.out.col _ hpm
   have hpo:=HP.out p (yag hp)
   have hpn:p.l.length=p.n:=zbI hpo.src
   have hpl:p.n≤1024:=by have h1:=manyP_at hpq;have h2:=HOK.out.many;simp only [prtOf] at h1;omega
   have hp0:0<p.n:=by have:=(zcr hcv).1;omega
   have HTK:=hid (take_items hpq)
   have hbl:(bodyL ((zaw (zaD P)).take k)).length≤131072:=by have:=bodyL_take (zaw (zaD P)) k;have:=HSG.out.size;omega
   have hfl:(serB (nmsOf P)++zbb ((zaw (zaD P)).take k)).length≤93186:=by
    have h1:=itemsP_take (zaw (zaD P)) k
    have h2:=HSG.out.foot_len
    rw [←HFL.out,yae] at h2
    rw [yae];omega
   have HBK:=hid (fun W F' (hb:BuiAt w ob fb (bodyL ((zaw (zaD P)).take k)) F' W) (hF:F'.length≤1048576)=>blocks_ok w W ob fb _ F' hb (by omega) hF p.nm p.a p.n p.c p.l hpo.src hcv hpl hpo.cap)
   have HPT:=hid (fun va vc W1 V hm hb hc=>BuiAt.put (va:=va) (vc:=vc) (W1:=W1) (V:=V) (F':=serB (nmsOf P)++zbb ((zaw (zaD P)).take k)++varP 1) HI.out hm hb hc)
   have HNX:Hid (serB (nmsOf P)++zbb ((zaw (zaD P)).take k)++varP 1++bkP (itemOf (p.nm,p.l))=serB (nmsOf P)++zbb ((zaw (zaD P)).take (k+1))):=hid (by
    rw [HTK.out,itemsP_snoc]
    unfold itemP prtOf
    simp only [yaj])
   have HNB:Hid (bodyL ((zaw (zaD P)).take k)++zaO p.l=bodyL ((zaw (zaD P)).take (k+1))):=hid (by rw [HTK.out,bodyL_snoc];rfl)
   obtain ⟨fa3,fc3,b3,s3,hfc3⟩:=HI.out.foot
   have HFB:=hid b3
   have HS3:=hid s3
   clear hpq hpm hcv hpo hpn hbl hp HTK b3 s3
   generalize serB (nmsOf P)++zbb ((zaw (zaD P)).take k)=F at *
   obtain ⟨fn,hfn⟩:∃fn,fn=F.length:=⟨_,rfl⟩
   rw [←hfn] at HFB HS3 hfc3 hfl
   have HFN:=hid hfn
   have z3:=zaa HFB.out 0
   simp at z3
   have hfbl:=zab HFB.out
   have hq1:((p.n:Int)+1024-1)/1024=1:=by omega
   have HOBL:=hid (And.intro HI.out.1 HI.out.2.1)
   clear hfn
   go_wp2_with fail
   generalize hW:World.alloc _ _=V1
   obtain ⟨bx,hbx⟩:∃bx,bx=wr.heap.size:=⟨_,rfl⟩
   have HXV:Hid (Ext wr V1):=hid (by rw [←hW];exact (Ext.refl wr).alloc _)
   have HBX:Hid (V1.heap[bx]?=some (.cells #[.string p.nm,.slice p.a p.n p.c] 43 (0,0))):=hid (by rw [←hW,hbx];exact heap_alloc_new wr _)
   have HNE:Hid (bx≠fb):=hid (by omega)
   rw [←hbx]
   clear hW hbx hq1 z3 hfbl p0 p1
   have HPUT:=hid (varPut' V1 fa3 fn fc3 F 1 (by decide) (HS3.out.ext HXV.out) hfc3 (by omega))
   refine HPUT.out.mono ?_
   rintro e w5 ⟨va5,vc5,rfl,hm5⟩
   have hmm:=MadeTo.trans HXV.out hm5
   have HF5:=hid ((hmm.ext.block (zab HFB.out)).trans HFB.out)
   have HB5:=hid ((hm5.ext.block (zab HBX.out)).trans HBX.out)
   have HPT5:=hid (fun V hb hc=>HPT.out va5 vc5 w5 V hmm hb hc)
   have hl5:(F++varP 1).length≤93196:=by have:=zaQ (u:=1) (by decide);have:=HFN.out;rw [yae];omega
   obtain ⟨f1,hf1⟩:∃f1,f1=(F++varP 1).length:=⟨_,rfl⟩
   rw [←hf1] at HPT5 hl5 ⊢
   have HF1:=hid hf1
   clear hmm hm5 HPUT hf1 HPT
   go_upto_region 10 with (refine zap rfl _ _ _ rfl fb 0 _ #[.slice va5 f1 vc5] _ _ rfl rfl rfl rfl HF5.out (by simp) rfl zdA ?_;rintro V6 hbV hcV _he;have HB6:=hid (HPT5.out V6 hbV hcV);have HBX6:=hid ((hcV.block bx (zab HB5.out) HNE.out).trans HB5.out);clear hbV hcV _he)
   have b1:=zaa HBX6.out 1
   simp at b1
   simp only [Act.put]
   go_wp2_with fail
   refine (HBK.out V6 _ HB6.out (by rw [←HF1.out];omega)).mono ?_
   rintro e w7 ⟨rfl,hb7⟩
   rw [HNX.out,HNB.out] at hb7
   have HB7:=hid hb7
   clear hb7 b1
   go_wp2_with fail
   go_roundw
   case rel=>exact ⟨k+1,rfl,rfl,by go_num,by omega,HB7⟩
   case measure=>simp [RowKit.intOf];omega
  ·obtain rfl:k=n:=by omega
   have hqk:(zaw (zaD P)).length=k:=by unfold zaw;rw [yaw];exact HQ.out
   have hB:=HI.out
   rw [yai (by omega),HFL.out] at hB
   have HB:=hid hB
   have hbl:=HSG.out.size
   have hfl:=HSG.out.foot_len
   have HSB:Hid (segB (zaD P)=bodyL (zaw (zaD P))++(sealL 5 (footL (zaw (zaD P)))++endL (zaw (zaD P)))):=hid rfl
   unfold endL at HSB
   clear hB hqk HI HOK HSG HP HFL HVN
   obtain ⟨O,hO⟩:∃O,O=bodyL (zaw (zaD P)):=⟨_,rfl⟩
   obtain ⟨F,hF⟩:∃F,F=footL (zaw (zaD P)):=⟨_,rfl⟩
   rw [←hO,←hF] at HB HSB
   rw [←hO] at hbl
   rw [←hF] at hfl
   clear hO hF
   obtain ⟨fa3,fc3,b3,s3,hfc3⟩:=HB.out.foot
   obtain ⟨fn,hfn⟩:∃fn,fn=F.length:=⟨_,rfl⟩
   rw [←hfn] at b3 s3 hfc3 hfl
   have z3:=zaa b3 0
   simp at z3
   have HSE:=hid (seal_any wr 5 fa3 fn fc3 F s3 (by omega))
   have HFN:=hid hfn
   clear b3 s3 hfn
   go_wp2_with fail
   refine HSE.out.mono ?_
   rintro e w5 ⟨va5,vc5,rfl,hm5⟩
   have hsl:=zbh 5 F
   rw [←HFN.out] at hsl
   obtain ⟨sn,hsn⟩:∃sn,sn=(sealL 5 F).length:=⟨_,rfl⟩
   rw [←hsn] at hm5 hsl ⊢
   have HSN:=hid hsn
   have hsl1:sn≤93195:=by omega
   have hsl2:9≤sn:=by omega
   clear hsl
   have HM5:=hid hm5
   have HB5:=hid (HB.out.ext hm5.ext)
   clear hm5 hsn HSE z3
   obtain ⟨oa,oc,b5,r5,o5⟩:=HB5.out.out
   obtain ⟨on,hon⟩:∃on,on=O.length:=⟨_,rfl⟩
   rw [←hon] at b5 r5 o5 hbl
   have HON:=hid hon
   have z5:=zaa b5 0
   simp at z5
   have hgt:¬(1048563:Int)-(on:Int)<(sn:Int):=by omega
   have HR5:=hid r5
   have HO5:=hid b5
   have HOW5:=hid o5
   clear hon b5 r5 o5
   go_wp2_with fail
   generalize hW:World.alloc _ _=V6
   have HXV:Hid (Ext w5 V6):=hid (by rw [←hW];exact (Ext.refl w5).alloc _)
   have HS4:Hid (Src V6 1 (.slice (some ⟨w5.heap.size,0,none⟩) 4 4) 4 (u8s (le4 sn))):=hid (src_le4n (by omega) (by rw [←hW];exact heap_alloc_new w5 _))
   clear hW
   refine (seal_any V6 6 _ 4 4 (le4 sn) HS4.out (by omega)).mono ?_
   rintro e w7 ⟨va7,vc7,rfl,hm7⟩
   have hl7:(sealL 6 (le4 sn)).length=13:=by rw [zbh];rfl
   rw [hl7] at hm7 ⊢
   have HX7:=hid (HXV.out.trans hm7.ext)
   have HM7:=hid hm7
   have HR7:=hid (HR5.out.ext HX7.out)
   have HS7:=hid ((HM5.out.row.src (zaH _)).ext HX7.out)
   have z7:=zaa ((HX7.out.block (zab HO5.out)).trans HO5.out) 0
   simp at z7
   have hsn0:0<sn:=by omega
   clear hm7 hl7 z5 hgt
   go_wp2_with (first
    | (at_builtin;(refine zah (n:=on) (m:=sn) zcI rfl (.tmp 80) (.tmp 81) rfl rfl rfl HR7.out HS7.out (by unfold maxLen;omega) (by omega) ?_;intro v8 w8 happ;obtain ⟨va8,vc8,rfl⟩:=happ.row.shape;have HA8:=hid happ;have HS8:=hid (zbU (HM7.out.row.src (zaH _)) happ.chg (fun b hb e=>by have h1:=HR5.out.lt e;have h2:=HM7.out.own b (by rw [←hb];cases va7<;>rfl);have h3:=HXV.out.size;omega));clear happ))
    | (at_builtin;go_must (refine zah (n:=on+sn) (m:=13) zcI rfl (.tmp 82) (.tmp 83) rfl rfl rfl HA8.out.row HS8.out (by unfold maxLen;omega) (by omega) ?_;intro v9 w9 happ;obtain ⟨va9,vc9,rfl⟩:=happ.row.shape;have HA9:=hid happ;clear happ)))
   have h8:Appended w7 5 1 (.slice oa on oc) (on+sn) (u8s O++u8s (sealL 5 F)) (.slice va8 (on+sn) vc8) w8:=HA8.out
   have h9:Appended w8 5 1 (.slice va8 (on+sn) vc8) (on+sn+13) (u8s O++u8s (sealL 5 F)++u8s (sealL 6 (le4 sn))) (.slice va9 (on+sn+13) vc9) w9:=HA9.out
   have H89:=hid (And.intro h8 h9)
   clear h8 h9 HA8 HA9 z7
   go_ret2
   have hcells:u8s (segB (zaD P))=u8s O++u8s (sealL 5 F)++u8s (sealL 6 (le4 sn)):=by rw [HSB.out,←HSN.out,zbE,zbE,yaj]
   have hlen:(segB (zaD P)).length=on+sn+13:=by
    have h:=congrArg List.length hcells
    rw [zaI,yae,yae,zaI,zaI,zaI,zbh 6,←HSN.out,←HON.out] at h
    rw [h];rfl
   rw [hlen,hcells]
   have hxw:Ext w w7:=HB.out.2.2.1.trans (HM5.out.ext.trans HX7.out)
   have hs7:=hxw.size
   have o8:∀g,(Value.slice va8 (on+sn) vc8).ownBlock=some g→w.heap.size≤g:=fun g hg=>by
    rcases H89.out.1.loc with e|e
    ·exact HOW5.out g (e▸hg)
    ·rw [e] at hg;cases hg;exact hs7
   refine ⟨va9,vc9,rfl,H89.out.2.row,fun g hg=>?_,?_⟩
   ·rcases H89.out.2.loc with e|e
    ·exact o8 g (e▸hg)
    ·rw [e] at hg;cases hg
     have:=H89.out.1.chg.size
     omega
   ·refine (((Chg.of_ext (S:=fun k=>w.heap.size≤k) hxw).trans H89.out.1.chg (fun k _ e=>HOW5.out k e)).trans H89.out.2.chg (fun k _ e=>o8 k e)).ext (fun i hi e=>by omega)
theorem zcB {w:World}{p:Nat}{L:List SegI}(h:SegAt w p L) :
 Calls Tryz.prog 75 #[.pointer (some ⟨p,0,none⟩)] w fun e w'=>e=.returned (.bool false)∧w=w':=by
 obtain ⟨ba,bc,na,nc,mb,lo,M,hb,_,_,_,_⟩:=h
 have hc:=zaa hb 2
 simp at hc
 have hn:=fun (w:World)=>run_eql_map_nil (P:=Tryz.prog) w 160 _ _ (some mb) Tryz.underlying160
 clear hb
 go_enter Tryz.func75,Tryz.ntmps75
 go_wp2
 go_ret
 exact ⟨rfl,rfl⟩
theorem segNamesOf_any {w:World}{p:Nat}{L:List SegI}(h:SegAt w p L) (hl:L.length≤1024) :
 Calls Tryz.prog 149 #[.pointer (some ⟨p,0,none⟩)] w fun e w'=>∃v,e=.returned v∧StrsTo w (zay L) v w':=by
 have HN:=hid (zcB h)
 obtain ⟨ba,bc,na,nc,mb,lo,M,hb,_,_,hs,_⟩:=h
 have hc:=zaa hb 1
 simp at hc
 have hpl:=zab hb
 have HS:=hid hs
 have hnl:=zbr L
 obtain ⟨m,hm⟩:∃m,m=L.length:=⟨_,rfl⟩
 rw [←hm] at HS hc hnl hl
 have HNL:=hid hnl
 clear hb hs hm hnl
 go_enter Tryz.func149,Tryz.ntmps149
 go_wp2_with fail
 refine HN.out.mono ?_
 rintro e w1 ⟨rfl,rfl⟩
 go_wp2_with (at_builtin;go_must (refine zah (n:=0) (m:=m) (v:=.slice _ _ _) elem_str rfl _ _ rfl rfl rfl (row_made (heap_alloc_new _ _) 1) (HS.out.ext ((Ext.refl _).alloc _)) (by unfold maxLen;omega) (by omega) ?_;intro v4 w4 happ);obtain ⟨va,vc,rfl⟩:=happ.row.shape;have HA4:=hid happ;clear happ)
 go_ret
 have hx4:Ext w w4:=((Chg.of_ext (S:=fun k=>k=w.heap.size) ((Ext.refl w).alloc (.cells #[] 9 (0,0)))).trans HA4.out.chg (fun i hi e=>by
  have e2:some w.heap.size=some i:=e
  exact (yaG e2).symm)).ext (fun i hi e=>by omega)
 refine ⟨.slice va m vc,rfl,?_,fun g hg=>?_,hx4⟩
 ·have h:=HA4.out.row
  rw [HNL.out]
  simpa using h
 ·rw [zar] at hg
  have hloc:=HA4.out.loc
  rw [zar,zar,hg] at hloc
  have h2:=((Ext.refl w).alloc (.cells #[] 9 (0,0))).size
  rcases hloc with e|e
  ·have:=yaG e
   simp at this
   omega
  ·have:=yaG e
   omega
theorem MapAt.entry {w:World}{mb lo:Nat}{L:List SegI}{M:List (ByteArray×Value)}{s:ByteArray}{v:Value}(h:MapAt w mb lo L L.length M) (hn:(zay L).Nodup) (hm:(s,v)∈M) :
 ∃i x g c,L[i]?=some x∧x.name=s∧v=.slice (some ⟨g,0,none⟩) 1 c∧Src w 5 (.slice (some ⟨g,0,none⟩) 1 c) 1 (bkC (offI L i) x).toList:=by
 have hk:M.map (·.1)=zay L:=by rw [h.keys,yai (by rw [zbr];exact Nat.le_refl _)]
 have hs:s∈zay L:=by rw [←hk];exact yax hm
 obtain ⟨x,hx,rfl⟩:=yap.1 hs
 obtain ⟨i,hi,e⟩:=yaH.1 hx
 have hx':L[i]?=some x:=by rw [yac hi,e]
 obtain ⟨g,c,e1,_,e2⟩:=h.vals i x hi hx'
 have e3:=zeg (by rw [hk];exact hn) hm
 rw [e1] at e3
 exact ⟨i,x,g,c,hx',rfl,(yaG e3).symm,e2⟩
def cntL (L:List SegI):Nat:=(L.map SegI.n).sum
def loS (L:List SegI):Int:=L.foldl (fun z x=>min z x.lo) 1152921504606846976
def hiS (L:List SegI):Int:=L.foldl (fun z x=>max z x.hi) (-1152921504606846976)
def nOf (L:List SegI) (s:ByteArray):Nat:=((L.find? fun x=>decide (x.name=s)).map SegI.n).getD 0
theorem nOf_at {L:List SegI}(hn:(zay L).Nodup) {i:Nat}{x:SegI}(hx:L[i]?=some x):nOf L x.name=x.n:=by
 unfold nOf
 induction L generalizing i with
 | nil=>simp at hx
 | cons y L ih =>
  have hn2:y.name∉zay L∧(zay L).Nodup:=yaU.1 hn
  cases i with
  | zero=>simp at hx;subst hx;simp
  | succ i =>
   have hx':L[i]?=some x:=by simpa using hx
   have hne:y.name≠x.name:=fun e=>hn2.1 (by rw [e];exact yax (yag hx'))
   rw [List.find?_cons_of_neg (by simpa using hne)]
   exact ih hn2.2 hx'
theorem cnt_names {L:List SegI}(hn:(zay L).Nodup):((zay L).map (nOf L)).sum=cntL L:=by
 unfold cntL zay
 rw [List.map_map]
 congr 1
 apply List.map_congr_left
 intro x hx
 obtain ⟨i,hi,e⟩:=yaH.1 hx
 exact nOf_at hn (i:=i) (by rw [yac hi,e])
structure MinOf (L:List SegI) (S:ByteArray→Prop) (lo hi:Int):Prop where
 l0:lo≤1152921504606846976
 l1:∀x∈L,S x.name→lo≤x.lo
 l2:lo=1152921504606846976∨∃x∈L,lo=x.lo
 h0:-1152921504606846976≤hi
 h1:∀x∈L,S x.name→x.hi≤hi
 h2:hi=-1152921504606846976∨∃x∈L,hi=x.hi
theorem MinOf.unique {L:List SegI}{a b c d:Int}(h:MinOf L (fun _=>True) a b) (k:MinOf L (fun _=>True) c d):a=c∧b=d:=by
 constructor
 ·rcases h.l2 with e|⟨x,hx,e⟩<;>rcases k.l2 with f|⟨y,hy,f⟩
  ·omega
  ·have:=h.l1 y hy trivial;have:=k.l0;omega
  ·have:=k.l1 x hx trivial;have:=h.l0;omega
  ·have:=h.l1 y hy trivial;have:=k.l1 x hx trivial;omega
 ·rcases h.h2 with e|⟨x,hx,e⟩<;>rcases k.h2 with f|⟨y,hy,f⟩
  ·omega
  ·have:=h.h1 y hy trivial;have:=k.h0;omega
  ·have:=k.h1 x hx trivial;have:=h.h0;omega
  ·have:=h.h1 y hy trivial;have:=k.h1 x hx trivial;omega
theorem minOf_fold (L:List SegI):MinOf L (fun _=>True) (loS L) (hiS L):=by
 have key:∀(K:List SegI) (a b:Int) (L0:List SegI),MinOf L0 (fun _=>True) a b→(∀x∈L0,x∈L)→(∀x∈K,x∈L)→MinOf (L0++K) (fun _=>True) (K.foldl (fun z x=>min z x.lo) a) (K.foldl (fun z x=>max z x.hi) b):=by
  intro K
  induction K with
  | nil=>intro a b L0 h _ _;simpa using h
  | cons x K ih =>
   intro a b L0 h h1 h2
   have hs:MinOf (L0++[x]) (fun _=>True) (min a x.lo) (max b x.hi):=by
    refine ⟨by have:=h.l0;omega,fun y hy _=>?_,?_,by have:=h.h0;omega,fun y hy _=>?_,?_⟩
    ·rcases yah.1 hy with hy|hy
     ·have:=h.l1 y hy trivial;omega
     ·obtain rfl:=yal.1 hy;omega
    ·rcases Int.le_total a x.lo with hle|hle
     ·rw [Int.min_eq_left hle]
      rcases h.l2 with e|⟨y,hy,e⟩
      ·exact .inl e
      ·exact .inr ⟨y,yat _ hy,e⟩
     ·rw [Int.min_eq_right hle];exact .inr ⟨x,by simp,rfl⟩
    ·rcases yah.1 hy with hy|hy
     ·have:=h.h1 y hy trivial;omega
     ·obtain rfl:=yal.1 hy;omega
    ·rcases Int.le_total b x.hi with hle|hle
     ·rw [Int.max_eq_right hle];exact .inr ⟨x,by simp,rfl⟩
     ·rw [Int.max_eq_left hle]
      rcases h.h2 with e|⟨y,hy,e⟩
      ·exact .inl e
      ·exact .inr ⟨y,yat _ hy,e⟩
   have:=ih _ _ (L0++[x]) hs (fun y hy=>by
    rcases yah.1 hy with hy|hy
    ·exact h1 y hy
    ·obtain rfl:=yal.1 hy;exact h2 _ (by simp)) (fun y hy=>h2 y (by simp [hy]))
   simpa using this
 have:=key L 1152921504606846976 (-1152921504606846976) [] ⟨by omega,by simp,.inl rfl,by omega,by simp,.inl rfl⟩ (by simp) (fun _ h=>h)
 unfold loS hiS
 simpa using this
abbrev stI:ByteArray→Value:=fun s=>Value.string s
structure ItI (w:World) (mb r:Nat) (M left:List (ByteArray×Value)) (wr:World):Prop where
 iter:Iter stI wr mb r M left
 sub:∀p∈left,p∈M
 new:w.heap.size≤r
 ext:Ext w wr
theorem ItI.next {w wr w2:World}{mb r:Nat}{M left l1 l2:List (ByteArray×Value)}{s:ByteArray}{v:Value}(h:ItI w mb r M left wr) (hl:left=l1++(s,v)::l2) (hi:Iter stI w2 mb r M (l1++l2)) (hc:Chg (·=r) wr w2):ItI w mb r M (l1++l2) w2 :=
 ⟨hi,fun p hp=>h.sub p (by rw [hl];rcases yah.1 hp with hp|hp;exact yat _ hp;exact yaR _ (yaD _ hp)),h.new,((Chg.of_ext (S:=(·=r)) h.ext).trans hc (fun _ _ e=>e)).ext (fun i hi e=>by have:=h.new;omega)⟩
theorem ItI.go {w wr w2:World}{mb r:Nat}{M left:List (ByteArray×Value)}(h:ItI w mb r M left wr) (hx:Ext wr w2):ItI w mb r M left w2:=⟨h.iter.ext hx,h.sub,h.new,h.ext.trans hx⟩
theorem bk_cells {w:World}{g c at':Nat}{x:SegI}(h:Src w 5 (.slice (some ⟨g,0,none⟩) 1 c) 1 (bkC at' x).toList) :
 w.cell? ⟨g,0,none⟩=some (.int .i64 (at':Int))∧w.cell? ⟨g,1,none⟩=some (.int .i64 (x.blk.length:Int))∧w.cell? ⟨g,2,none⟩=some (.int .i64 x.lo)∧w.cell? ⟨g,3,none⟩=some (.int .i64 x.hi)∧w.cell? ⟨g,4,none⟩=some (.int .i64 (x.n:Int)):=by
 rcases h with ⟨e,_,_⟩|⟨ad,c',e,hl,hs,_⟩
 ·cases e
 ·cases e
  have k:∀j u,(bkC at' x).toList[j]?=some u→w.cell? ⟨g,j,none⟩=some u:=fun j u hj=>by
   have:=hs j u hj
   rw [yak,Nat.zero_add] at this
   exact this
  exact ⟨k 0 _ rfl,k 1 _ rfl,k 2 _ rfl,k 3 _ rfl,k 4 _ rfl⟩
theorem segCount_any {w:World}{p:Nat}{L:List SegI}(h:SegAt w p L) (hn:(zay L).Nodup) (hok:∀x∈L,x.Ok) (hl:L.length≤1024) :
 Calls Tryz.prog 69 #[.pointer (some ⟨p,0,none⟩)] w fun e w'=>e=.returned (.int .i64 (cntL L:Int))∧Ext w w':=by
 have HN:=hid (zcB h)
 obtain ⟨ba,bc,na,nc,mb,lo,M,hb,_,_,_,hm⟩:=h
 have hc:=zaa hb 2
 simp at hc
 have HM:=hid hm
 have HND:=hid hn
 have HOK:=hid hok
 have hpl:=zab hb
 obtain ⟨it,hrg,hit⟩:=zdF (P:=Tryz.prog) hm.map Tryz.underlying160
 have hkeys:M.map (·.1)=zay L:=by rw [hm.keys,yai (by rw [zbr];exact Nat.le_refl _)]
 have HC0:Hid ((M.map fun p=>nOf L p.1).sum=cntL L):=hid (by
  have:=cnt_names hn
  rw [←hkeys,List.map_map] at this
  exact this)
 have HI0:Hid (ItI w mb w.heap.size M M (w.alloc it)):=hid ⟨hit,fun _ h=>h,Nat.le_refl _,(Ext.refl w).alloc it⟩
 have HCB:Hid (cntL L≤4194304):=hid (by
  have key:∀K:List SegI,(∀x∈K,x.Ok)→cntL K≤4096*K.length:=by
   intro K
   induction K with
   | nil=>intro _;simp [cntL]
   | cons x K ih =>
    intro h
    have h1:=ih (fun y hy=>h y (by simp [hy]))
    have h2:=(h x (by simp)).n1
    have e:cntL (x::K)=x.n+cntL K:=by simp [cntL]
    rw [e,List.length_cons];omega
  have:=key L hok
  omega)
 clear hb hm hit hn hok hkeys
 go_enter Tryz.func69,Tryz.ntmps69
 go_wp2_with fail
 refine HN.out.mono ?_
 rintro e w1 ⟨rfl,rfl⟩
 go_wp2_with fail
 clear hrg hc hpl
 obtain ⟨r,hr⟩:∃r:Nat,r=w.heap.size:=⟨_,rfl⟩
 rw [←hr] at HI0 ⊢
 clear hr
 go_loopw [3] (fun s3 wr=>∃(c:Nat) (left:List (ByteArray×Value)),s3=.int .i64 (c:Int)∧Hid (c+(left.map fun p=>nOf L p.1).sum=cntL L∧ItI w mb r M left wr)) (fun _ wr=>zbD wr mb r)
 case atStart=>exact ⟨0,M,rfl,hid ⟨by rw [HC0.out];omega,HI0.out⟩⟩
 case round =>
  clear HI0
  obtain ⟨c,left,rfl,HR⟩:=hrel
  rcases iter_next (P:=Tryz.prog) HR.out.2.iter with ⟨rfl,hnx⟩|⟨l1,s,v,l2,w2,hl,hnx,hen,hi,hch,hsz⟩
  ·have HE:Hid ((c:Int)=(cntL L:Int)):=hid (by have:=HR.out.1;simp at this;omega)
   go_wp2_with fail
   go_ret
   exact ⟨by rw [HE.out];rfl,HR.out.2.ext⟩
  ·have hmem:=HR.out.2.sub (s,v) (by rw [hl];simp)
   obtain ⟨i,x,g,vc,hx,rfl,rfl,hsx⟩:=HM.out.entry HND.out hmem
   have HS:=hid (HR.out.2.next hl hi hch)
   have HSX:=hid (hsx.ext HS.out.ext)
   have hsum:c+(x.n+((l1++l2).map fun p=>nOf L p.1).sum)=cntL L:=by
    have h1:=HR.out.1
    rw [hl] at h1
    simp only [yav,yaJ,List.sum_append,yaI,nOf_at HND.out hx] at h1 ⊢
    omega
   have HSUM:=hid hsum
   have hcb:c+x.n≤4194304:=by have:=HCB.out;omega
   have Hm:Hid (∀V,Ext w2 V→zbD V mb r<zbD wr mb r):=hid (fun V hV=>by
    rw [(HS.out.go hV).iter.count,HR.out.2.iter.count,hl];simp)
   clear hl hi hch hsz hmem hx hsum hsx
   go_wp2_with fail
   clear hnx hen
   go_loopw [3,22] (fun s3 s22 wq=>∃(j c':Nat),s3=.int .i64 (c':Int)∧s22=.int .i64 (j:Int)∧j≤1∧c'≤4194304∧Hid (c'=c+j*x.n∧Ext w2 wq)) (fun _ t _=>1-(RowKit.intOf t).toNat)
   case atStart=>exact ⟨0,c,rfl,rfl,by omega,by omega,hid ⟨by omega,Ext.refl _⟩⟩
   case round =>
    obtain ⟨j,c',rfl,rfl,hj,hc',HJ⟩:=hrel
    obtain hj0|hj1:j=0∨j=1:=by omega
    ·subst hj0
     obtain ⟨y0,y1,y2,y3,y4⟩:=bk_cells (HSX.out.ext HJ.out.2)
     have HC':Hid (c'+x.n=c+1*x.n):=hid (by have:=HJ.out.1;omega)
     have hcc:c'+x.n≤4194304:=by have:=HC'.out;omega
     generalize x.blk.length=xl at *
     go_wp2_with fail
     go_roundw
     case rel=>exact ⟨1,c'+x.n,by go_num,by go_num,by omega,hcc,hid ⟨HC'.out,HJ.out.2.alloc _⟩⟩
     case measure=>simp [RowKit.intOf]
    ·subst hj1
     go_wp2_with fail
     go_roundw
     case rel=>exact ⟨c',l1++l2,rfl,hid ⟨by have h1:=HJ.out.1;have h2:=HSUM.out;omega,HS.out.go HJ.out.2⟩⟩
     case measure=>exact Hm.out _ HJ.out.2
theorem segSpan_any {w:World}{p:Nat}{L:List SegI}(h:SegAt w p L) (hn:(zay L).Nodup) (hok:∀x∈L,x.Ok) (hl:L.length≤1024) :
 Calls Tryz.prog 70 #[.pointer (some ⟨p,0,none⟩)] w fun e w'=>e=.returned (.tuple #[.int .i64 (loS L),.int .i64 (hiS L),.bool true])∧Ext w w':=by
 have HN:=hid (zcB h)
 obtain ⟨ba,bc,na,nc,mb,lo,M,hb,_,_,_,hm⟩:=h
 have hc:=zaa hb 2
 simp at hc
 have HM:=hid hm
 have HND:=hid hn
 have HOK:=hid hok
 have hpl:=zab hb
 obtain ⟨it,hrg,hit⟩:=zdF (P:=Tryz.prog) hm.map Tryz.underlying160
 have HKS:Hid (M.map (·.1)=zay L):=hid (by rw [hm.keys,yai (by rw [zbr];exact Nat.le_refl _)])
 have HI0:Hid (ItI w mb w.heap.size M M (w.alloc it)):=hid ⟨hit,fun _ h=>h,Nat.le_refl _,(Ext.refl w).alloc it⟩
 clear hb hm hit hn hok
 go_enter Tryz.func70,Tryz.ntmps70
 go_wp2_with fail
 refine HN.out.mono ?_
 rintro e w1 ⟨rfl,rfl⟩
 go_wp2_with fail
 clear hrg hc hpl
 obtain ⟨r,hr⟩:∃r:Nat,r=w.heap.size:=⟨_,rfl⟩
 rw [←hr] at HI0 ⊢
 clear hr
 go_loopw [2,3] (fun s2 s3 wr=>∃(a b:Int) (left:List (ByteArray×Value)),s2=.int .i64 a∧s3=.int .i64 b∧Hid (MinOf L (fun s=>s∉left.map (·.1)) a b∧ItI w mb r M left wr)) (fun _ _ wr=>zbD wr mb r)
 case atStart=>exact ⟨_,_,M,rfl,rfl,hid ⟨⟨by omega,fun x hx h=>absurd (by rw [HKS.out];exact yax hx) h,.inl rfl,by omega,fun x hx h=>absurd (by rw [HKS.out];exact yax hx) h,.inl rfl⟩,HI0.out⟩⟩
 case round =>
  clear HI0
  obtain ⟨a,b,left,rfl,rfl,HR⟩:=hrel
  rcases iter_next (P:=Tryz.prog) HR.out.2.iter with ⟨rfl,hnx⟩|⟨l1,s,v,l2,w2,hl,hnx,hen,hi,hch,hsz⟩
  ·have HE:Hid (a=loS L∧b=hiS L):=hid (by
    have h1:=HR.out.1
    exact MinOf.unique ⟨h1.l0,fun x hx _=>h1.l1 x hx (by simp),h1.l2,h1.h0,fun x hx _=>h1.h1 x hx (by simp),h1.h2⟩ (minOf_fold L))
   go_wp2_with fail
   go_ret3
   exact ⟨by rw [←HE.out.1,←HE.out.2];rfl,HR.out.2.ext⟩
  ·have hmem:=HR.out.2.sub (s,v) (by rw [hl];simp)
   obtain ⟨i,x,g,vc,hx,rfl,rfl,hsx⟩:=HM.out.entry HND.out hmem
   have HS:=hid (HR.out.2.next hl hi hch)
   have HSX:=hid (hsx.ext HS.out.ext)
   have hxm:=yag hx
   have hxo:=HOK.out x hxm
   have HMN:Hid (MinOf L (fun s=>s∉(l1++l2).map (·.1)) (min a x.lo) (max b x.hi)):=hid (by
    have h1:=HR.out.1
    rw [hl] at h1
    have hnd:∀y∈L,y.name∉(l1++l2).map (·.1)→y.name=x.name∨y.name∉(l1++(x.name,Value.slice (some ⟨g,0,none⟩) 1 vc)::l2).map (·.1):=fun y _ hy=>by
     rcases Classical.em (y.name=x.name) with e|e
     ·exact .inl e
     ·right
      simp only [yav,yaJ,yah,yaq] at hy ⊢
      intro h
      rcases h with h|h|h
      ·exact hy (.inl h)
      ·exact e h
      ·exact hy (.inr h)
    have hsame:∀y∈L,y.name=x.name→y=x:=fun y hy e=>by
     obtain ⟨j,hj,ej⟩:=yaH.1 hy
     have hil:=(yad.1 hx).1
     have e1:(zay L)[j]'(by rw [zbr];exact hj)=(zay L)[i]'(by rw [zbr];exact hil):=by
      unfold zay
      rw [List.getElem_map,List.getElem_map,ej,(yad.1 hx).2,e]
     have:=(List.getElem_inj HND.out).1 e1
     subst this
     rw [←ej,(yad.1 hx).2]
    refine ⟨by have:=h1.l0;omega,fun y hy hs=>?_,?_,by have:=h1.h0;omega,fun y hy hs=>?_,?_⟩
    ·rcases hnd y hy hs with e|e
     ·rw [hsame y hy e];omega
     ·have:=h1.l1 y hy e;omega
    ·rcases Int.le_total a x.lo with hle|hle
     ·rw [Int.min_eq_left hle];exact h1.l2
     ·rw [Int.min_eq_right hle];exact .inr ⟨x,hxm,rfl⟩
    ·rcases hnd y hy hs with e|e
     ·rw [hsame y hy e];omega
     ·have:=h1.h1 y hy e;omega
    ·rcases Int.le_total b x.hi with hle|hle
     ·rw [Int.max_eq_right hle];exact .inr ⟨x,hxm,rfl⟩
     ·rw [Int.max_eq_left hle];exact h1.h2)
   have Hm:Hid (∀V,Ext w2 V→zbD V mb r<zbD wr mb r):=hid (fun V hV=>by
    rw [(HS.out.go hV).iter.count,HR.out.2.iter.count,hl];simp)
   clear hl hi hch hsz hmem hx hsx hxm hxo
   obtain ⟨y0,y1,y2,y3,y4⟩:=bk_cells HSX.out
   have HY:=hid (And.intro y2 y3)
   clear y0 y1 y2 y3 y4
   go_wp2_with fail
   clear hnx hen
   have y2:=HY.out.1
   have y3:=HY.out.2
   refine zam [] [0,1,2,3,4,5,6,7,8,9,10,11,12,13,14,15,16] [] (by kernel_rfl) (by kernel_rfl) (fun _ _ dd _ _ hh=>by cases dd<;>exact hh) ?_
   simp only [zac,yab,yaa]
   refine yaF ?_
   repeat (go_big_quiet_step (fail))
   refine yaF ?_
   intro w4 hw'
   have hx4:Ext w2 w4:=by obtain ⟨j,rfl⟩:=hw';exact Ext.drewN _ _
   have HX4:=hid hx4
   clear hw' hx4 y2 y3
   go_wp2_with fail
   go_roundw
   case rel=>exact ⟨_,_,l1++l2,rfl,rfl,hid ⟨HMN.out,HS.out.go HX4.out⟩⟩
   case measure=>exact Hm.out _ HX4.out
theorem SegAt.block {w:World}{p i:Nat}{L:List SegI}{x:SegI}(h:SegAt w p L) (hx:L[i]?=some x):∃a n c,w.cell? ⟨p,0,none⟩=some (.slice a n c)∧offI L i+x.blk.length≤n∧n≤c∧n=(bodyL L).length∧Src w 1 (.slice (cutA a c (offI L i)) x.blk.length (c-offI L i)) x.blk.length (u8s x.blk):=by
 obtain ⟨ba,bc,na,nc,mb,lo,M,hb,hs,hc,_,_⟩:=h
 have hle:=offI_le hx
 refine ⟨ba,_,bc,by have:=zaa hb 0;simpa using this,hle,hc,rfl,?_⟩
 have h:=zde (l:=offI L i) (h:=offI L i+x.blk.length) (m:=bc) hs (by omega) hle (by omega) (by omega)
 rw [Nat.add_sub_cancel_left,u8s_drop,zdR,body_part hx] at h
 exact h
theorem decode_any {w:World}{p i:Nat}{L:List SegI}{x:SegI}{l:List Pt}(h:SegAt w p L) (hx:L[i]?=some x) (hb:x.blk=zaO l) (hlo:x.lo=loT l) (hhi:x.hi=hiT l) (hxn:x.n=l.length) (hcv:colV l=true) (hv:∀p∈l,-9223372036854775808≤p.v∧p.v≤9223372036854775807) (hg:HasET w) (hl:(bodyL L).length≤1048576) :
 Calls Tryz.prog 76 #[.pointer (some ⟨p,0,none⟩),.agg (bkC (offI L i) x)] w fun e w'=>∃g,e=.returned (.tuple #[.slice (some ⟨g,0,none⟩) l.length l.length,.int .i64 0])∧MadeTo w 76 3 (.slice (some ⟨g,0,none⟩) l.length l.length) l.length (pts l) w':=by
 obtain ⟨a,n,c,p0,hle,hnc,hn,hs⟩:=h.block hx
 have hpl:p<w.heap.size:=yaf _ _ p0
 obtain ⟨xl,hxl⟩:∃xl,xl=x.blk.length:=⟨_,rfl⟩
 obtain ⟨av,hav⟩:∃av,av=offI L i:=⟨_,rfl⟩
 unfold bkC
 rw [←hxl] at hs hle ⊢
 rw [←hav] at hs hle ⊢
 have HD:=hid (fun W (hW:Ext w W)=>colDecode_any W _ _ _ l (by rw [←hb];exact hs.ext hW) (by omega) hcv hv (hg.ext hW))
 obtain ⟨ax,hax⟩:∃ax,ax=av+xl:=⟨_,rfl⟩
 have hsl:∀W,(Instr.slice 51 (.slice a n c) (some (.int .i64 (av:Int))) (some (.int .i64 (ax:Int))) none).run Tryz.prog W=.ok (.slice (cutA a c av) xl (c-av)) W:=fun W=>by
  have h:=zcG (P:=Tryz.prog) Tryz.underlying51 fr_u8 a n c av ax (by omega) (by omega) W
  rwa [hax,Nat.add_sub_cancel_left,←hax] at h
 have hwa:IntKind.i64.wrap ((av:Int)+(xl:Int))=(ax:Int):=by rw [IntWalk.i64_in _ (by omega)];omega
 have hll:=zcr hcv
 obtain ⟨pa,hpa,_,hpt⟩:=loT_mem hll.1
 obtain ⟨pz,hpz,_,hqt⟩:=hiT_mem hll.1
 rw [hxn,hlo,hhi,hpt,hqt]
 obtain ⟨m,hm⟩:∃m,m=l.length:=⟨_,rfl⟩
 obtain ⟨ta,hta⟩:∃t,t=pa.t:=⟨_,rfl⟩
 obtain ⟨tz,htz⟩:∃t,t=pz.t:=⟨_,rfl⟩
 rw [←hm] at HD hll hpz ⊢
 rw [←hta,←htz]
 have HPA:=hid (And.intro hpa hta)
 have HPZ:=hid (And.intro hpz htz)
 clear hs hxl hav hb hx h hn hax hlo hhi hxn hcv hv hg hpa hpz hpt hqt hm hta htz
 generalize cutA a c av=a1 at *
 generalize c-av=c1 at *
 go_enter Tryz.func76,Tryz.ntmps76
 go_upto_region 1 with fail
 generalize hW:World.alloc _ _=W
 obtain ⟨g,hg⟩:∃g,g=w.heap.size:=⟨_,rfl⟩
 have HXW:Hid (Ext w W):=hid (by rw [←hW];exact (Ext.refl w).alloc _)
 have HB:Hid (W.heap[g]?=some (.cells #[.int .i64 (av:Int),.int .i64 (xl:Int),.int .i64 ta,.int .i64 tz,.int .i64 (m:Int)] 164 (0,0))):=hid (by rw [←hW,hg];exact heap_alloc_new w _)
 rw [←hg]
 have p0:=zaf (T:=fun _=>false) ((HXW.out.cell (p:=⟨p,0,none⟩) hpl).trans p0) rfl
 have g0:=zaf (T:=fun _=>false) (by have:=zaa HB.out 0;simpa using this:W.cell? ⟨g,0,none⟩=some (.int .i64 (av:Int))) rfl
 have g1:=zaf (T:=fun _=>false) (by have:=zaa HB.out 1;simpa using this:W.cell? ⟨g,1,none⟩=some (.int .i64 (xl:Int))) rfl
 clear hW hg hpl
 refine zao 17 (fun w'=>∃z:Turned,w'=turned W (fun _=>false) z.d z.f z.os) (.reads [0,1,2,3,4,5,6,7,8,9,10,11] (.one 12 (.reads [13,14,15,16] (.one 17 .done)))) (by kernel_rfl) (by kernel_rfl) (fun _ _ dd _ _ hh=>by cases dd<;>exact hh) ?_ ?_
 ·exact zad (Ext.drewN W 1)
 refine zak ?_
 simp only [zac,yab,yaa]
 repeat (go_big_quiet_step (fail))
 refine yaF ?_
 clear p0 g0 g1 hwa hsl
 change zaA _ _ _ _ _ _ _ _ (W.drewN 1)
 have HXd:Hid (Ext W (W.drewN 1)):=hid (Ext.drewN W 1)
 generalize W.drewN 1=Wd at HXd ⊢
 refine zae ?_
 simp only [zac,yab,yaa]
 go_wp2_with fail
 refine (HD.out Wd (HXW.out.trans HXd.out)).mono ?_
 rintro e w3 ⟨gp,rfl,hm3⟩
 have HM3:=hid (MadeTo.trans (HXW.out.trans HXd.out) hm3)
 have HX3:=hid (HXd.out.trans hm3.ext)
 clear hm3
 go_wp2_with fail
 refine zal (zad HX3.out) (zak ?_)
 simp only [zac,yab,yaa]
 repeat (go_big_quiet_step (fail))
 refine yaF ?_
 change zaA _ _ _ _ _ _ _ _ w3
 refine zae ?_
 simp only [zac,yab,yaa]
 go_wp2_with fail
 refine zau (zav ?_)
 have hb3:=(HX3.out.block (zab HB.out)).trans HB.out
 have g2:=zaa hb3 2
 have g3:=zaa hb3 3
 have g4:=zaa hb3 4
 simp at g2 g3 g4
 have hm0:=hll.1
 obtain ⟨j,hj⟩:∃j,j=m-1:=⟨_,rfl⟩
 have hjm:j<m:=by omega
 obtain ⟨b0,o0,q0,e0,hq0,s0,_,_⟩:=zbz (HM3.out.row.src (zck l)) hm0
 obtain ⟨b1,o1,q1,e1,hq1,s1,_,_⟩:=zbz (HM3.out.row.src (zck l)) hjm
 cases e0
 cases e1
 have k0:q0.t=ta:=by rw [HPA.out.2];have:=HPA.out.1;rw [hq0] at this;rw [yaG this]
 have k1:q1.t=tz:=by rw [HPZ.out.2];have:=HPZ.out.1;rw [←hj,hq1] at this;rw [yaG this]
 rw [k0] at s0
 rw [k1] at s1
 simp only [Nat.zero_mul,Nat.add_zero,Nat.zero_add] at s0 s1
 have hwj:IntKind.i64.wrap ((m:Int)-1)=(j:Int):=by rw [IntWalk.i64_in _ (by omega)];omega
 clear hb3 hq0 hq1 k0 k1 hj
 go_wp2_with fail
 refine zam [] [0,1,2,3,4,5,6,7,8,9,10,11,12,13,14,15,16,17,18,19,20,21,22,23,24,25,26,27,28,29] [] (by kernel_rfl) (by kernel_rfl) (fun _ _ dd _ _ hh=>by cases dd<;>exact hh) ?_
 simp only [zac,yab,yaa]
 refine yaF ?_
 repeat (go_big_quiet_step (fail))
 refine yaF ?_
 intro w4 hw'
 have hx4:Ext w3 w4:=by obtain ⟨j,rfl⟩:=hw';exact Ext.drewN _ _
 have HX4:=hid hx4
 clear hw' hx4
 go_wp2_with fail
 go_ret2
 exact ⟨gp,rfl,HM3.out.ext' HX4.out⟩
theorem blk_zero:∀w:World,(zeroValue 159).run Tryz.prog w=.ok (.slice none 0 0) w:=fun _=>by kernel_rfl
theorem SegAt.find {w:World}{p:Nat}{L:List SegI}(h:SegAt w p L) (hn:(zay L).Nodup) (s:ByteArray):∃mb,w.cell? ⟨p,2,none⟩=some (.map (some mb)) ∧
 ((s∉zay L∧(Instr.lookup 160 (.map (some mb)) (.string s) false).run Tryz.prog w=.ok (.slice none 0 0) w) ∨
   ∃i x g c,L[i]?=some x∧x.name=s∧(Instr.lookup 160 (.map (some mb)) (.string s) false).run Tryz.prog w=.ok (.slice (some ⟨g,0,none⟩) 1 c) w∧Src w 5 (.slice (some ⟨g,0,none⟩) 1 c) 1 (bkC (offI L i) x).toList):=by
 obtain ⟨ba,bc,na,nc,mb,lo,M,hb,_,_,_,hm⟩:=h
 refine ⟨mb,by have:=zaa hb 2;simpa using this,?_⟩
 have hk:M.map (·.1)=zay L:=by rw [hm.keys,yai (by rw [zbr];exact Nat.le_refl _)]
 have hlk:=hm.map.lookup (P:=Tryz.prog) (zaz Tryz.underlying9) Tryz.underlying160 (.slice none 0 0) (blk_zero w) s false
 simp only [Bool.false_eq_true,if_false] at hlk
 by_cases hs:s∈zay L
 ·right
  obtain ⟨x,hx,rfl⟩:=yap.1 hs
  obtain ⟨i,hi,e⟩:=yaH.1 hx
  have hx':L[i]?=some x:=by rw [yac hi,e]
  obtain ⟨g,c,e1,_,e2⟩:=hm.vals i x hi hx'
  rw [e1] at hlk
  exact ⟨i,x,g,c,hx',rfl,hlk,e2⟩
 ·left
  have h1:aget M s=none:=by rw [zaX,hk];exact hs
  rw [h1] at hlk
  exact ⟨hs,hlk⟩
theorem segPoints_none {w:World}{p:Nat}{L:List SegI}(h:SegAt w p L) (hn:(zay L).Nodup) (s:ByteArray) (f t:Int) (hs:s∉zay L) :
 Calls Tryz.prog 44 #[.pointer (some ⟨p,0,none⟩),.string s,.int .i64 f,.int .i64 t] w fun e w'=>e=.returned (.tuple #[.slice none 0 0,.int .i64 0])∧w=w':=by
 have HN:=hid (zcB h)
 obtain ⟨mb,hc,⟨_,hlk⟩|⟨i,x,_,_,hx,e,_⟩⟩:=h.find hn s
 ·clear h hn hs
  go_enter Tryz.func44,Tryz.ntmps44
  go_wp2_with fail
  refine HN.out.mono ?_
  rintro e w1 ⟨rfl,rfl⟩
  go_wp2_with fail
  go_loopw [8,9,10,26] (fun s8 s9 s10 s26 wr=>s8=.slice none 0 0∧s9=.int .i64 0∧s10=.slice none 0 0∧s26=.int .i64 0∧Hid (wr=w)) (fun _ _ _ t _=>1-(RowKit.intOf t).toNat)
  case atStart=>exact ⟨rfl,rfl,rfl,rfl,hid rfl⟩
  case round =>
   obtain ⟨rfl,rfl,rfl,rfl,HI⟩:=hrel
   obtain rfl:=HI.out
   go_wp2_with fail
   go_ret2
   exact ⟨rfl,rfl⟩
 ·exact absurd (by rw [←e];exact yax (yag hx)) hs
theorem segPoints_out {w:World}{p i:Nat}{L:List SegI}{x:SegI}(h:SegAt w p L) (hn:(zay L).Nodup) (f t:Int) (hx:L[i]?=some x) (ho:t≤f∨x.hi<f∨t≤x.lo) :
 Calls Tryz.prog 44 #[.pointer (some ⟨p,0,none⟩),.string x.name,.int .i64 f,.int .i64 t] w fun e w'=>e=.returned (.tuple #[.slice none 0 0,.int .i64 0])∧Ext w w':=by
 have HN:=hid (zcB h)
 obtain ⟨mb,hc,⟨hs,_⟩|⟨j,y,g,c,hy,e,hlk,hsr⟩⟩:=h.find hn x.name
 ·exact absurd (yax (yag hx)) hs
 ·obtain rfl:j=i:=by
   have h1:(zay L)[j]?=some x.name:=by unfold zay;rw [yar,hy];simp [e]
   have h2:(zay L)[i]?=some x.name:=by unfold zay;rw [yar,hx];rfl
   exact (List.getElem_inj (h₀:=(yad.1 h1).1) (h₁:=(yad.1 h2).1) hn).1 (by rw [(yad.1 h1).2,(yad.1 h2).2])
  obtain rfl:y=x:=by rw [hx] at hy;exact (yaG hy).symm
  have HS:=hid hsr
  have HO:=hid ho
  clear h hn hx hy e hsr ho
  go_enter Tryz.func44,Tryz.ntmps44
  go_wp2_with fail
  refine HN.out.mono ?_
  rintro e w1 ⟨rfl,rfl⟩
  go_wp2_with fail
  clear hlk hc
  go_loopw [8,9,10,26] (fun s8 s9 s10 s26 wr=>∃k:Nat,s8=.slice none 0 0∧s9=.int .i64 0∧s10=.slice none 0 0∧s26=.int .i64 (k:Int)∧k≤1∧Hid (Ext w wr)) (fun _ _ _ t _=>1-(RowKit.intOf t).toNat)
  case atStart=>exact ⟨0,rfl,rfl,rfl,rfl,by omega,hid (Ext.refl _)⟩
  case round =>
   obtain ⟨k,rfl,rfl,rfl,rfl,hk,HI⟩:=hrel
   obtain hk0|hk1:k=0∨k=1:=by omega
   ·subst hk0
    obtain ⟨y0,y1,y2,y3,y4⟩:=bk_cells (HS.out.ext HI.out)
    generalize y.blk.length=xl at *
    generalize y.lo=lo at *
    generalize y.hi=hi at *
    generalize y.n=yn at *
    have hlt:=yaf _ _ y0
    by_cases h1:t≤f
    ·go_wp2_with fail
     go_roundw
     case rel=>exact ⟨1,rfl,rfl,rfl,by go_num,by omega,hid (HI.out.alloc _)⟩
     case measure=>simp [RowKit.intOf]
    ·by_cases h2:hi<f
     ·go_wp2_with fail
      go_roundw
      case rel=>exact ⟨1,rfl,rfl,rfl,by go_num,by omega,hid (HI.out.alloc _)⟩
      case measure=>simp [RowKit.intOf]
     ·have h3:t≤lo:=by have:=HO.out;omega
      go_wp2_with fail
      go_roundw
      case rel=>exact ⟨1,rfl,rfl,rfl,by go_num,by omega,hid (HI.out.alloc _)⟩
      case measure=>simp [RowKit.intOf]
   ·subst hk1
    go_wp2_with fail
    go_ret2
    exact ⟨rfl,HI.out⟩
theorem segPoints_in {w:World}{p i:Nat}{L:List SegI}{x:SegI}(h:SegAt w p L) (hn:(zay L).Nodup) (f t:Int) (hx:L[i]?=some x) (l:List Pt) (ho:f<t∧f≤x.hi∧x.lo<t) (hb:x.blk=zaO l) (hlo:x.lo=loT l) (hhi:x.hi=hiT l) (hxn:x.n=l.length) (hcv:colV l=true) (hv:∀p∈l,-9223372036854775808≤p.v∧p.v≤9223372036854775807) (hg:HasET w) (hbl:(bodyL L).length≤1048576) :
 Calls Tryz.prog 44 #[.pointer (some ⟨p,0,none⟩),.string x.name,.int .i64 f,.int .i64 t] w fun e w'=>∃v,e=.returned (.tuple #[v,.int .i64 0])∧CutTo w (cutL f t l) v w':=by
 have HN:=hid (zcB h)
 obtain ⟨mb,hc,⟨hs,_⟩|⟨j,y,g,c,hy,e,hlk,hsr⟩⟩:=h.find hn x.name
 ·exact absurd (yax (yag hx)) hs
 ·obtain rfl:j=i:=by
   have h1:(zay L)[j]?=some x.name:=by unfold zay;rw [yar,hy];simp [e]
   have h2:(zay L)[i]?=some x.name:=by unfold zay;rw [yar,hx];rfl
   exact (List.getElem_inj (h₀:=(yad.1 h1).1) (h₁:=(yad.1 h2).1) hn).1 (by rw [(yad.1 h1).2,(yad.1 h2).2])
  obtain rfl:y=x:=by rw [hx] at hy;exact (yaG hy).symm
  have HS:=hid hsr
  have HD:=hid (fun W (hW:Ext w W)=>decode_any (h.ext hW) hy hb hlo hhi hxn hcv hv (hg.ext hW) hbl)
  unfold bkC at HD
  have h1:=ho.1
  have h2:=ho.2.1
  have h3:=ho.2.2
  have hml:=(zcr hcv).2
  obtain ⟨m,hm⟩:∃m,m=l.length:=⟨_,rfl⟩
  rw [←hm] at HD hml
  have HM:=hid hm
  clear h hn hx hy e hsr ho hb hbl hlo hhi hxn hcv hv hg hm
  go_enter Tryz.func44,Tryz.ntmps44
  go_wp2_with fail
  refine HN.out.mono ?_
  rintro e w1 ⟨rfl,rfl⟩
  go_wp2_with fail
  clear hlk hc
  go_loopw [8,9,10,26] (fun s8 s9 s10 s26 wr=>∃(k:Nat) (va:Option Addr) (vn vc:Nat),s8=.slice none 0 0∧s9=.int .i64 0∧s10=.slice va vn vc∧s26=.int .i64 (k:Int)∧k≤1∧vn≤m∧Hid (CutTo w (if k=0 then [] else cutL f t l) (.slice va vn vc) wr∧vn=(if k=0 then [] else cutL f t l).length∧(k=0→va=none∧vc=0))) (fun _ _ _ t _=>1-(RowKit.intOf t).toNat)
  case atStart=>exact ⟨0,none,0,0,rfl,rfl,rfl,rfl,by omega,by omega,hid ⟨CutTo.nil w,rfl,fun _=>⟨rfl,rfl⟩⟩⟩
  case round =>
   obtain ⟨k,va,vn,vc,rfl,rfl,rfl,rfl,hk,hvn,HI⟩:=hrel
   obtain hk0|hk1:k=0∨k=1:=by omega
   ·subst hk0
    have HXI:Hid (Ext w wr):=hid HI.out.1.ext
    obtain rfl:vn=0:=by have h:=HI.out.2.1;rw [if_pos rfl] at h;simpa using h
    obtain ⟨rfl,rfl⟩:=HI.out.2.2 rfl
    obtain ⟨y0,y1,y2,y3,y4⟩:=bk_cells (HS.out.ext HXI.out)
    generalize y.blk.length=xl at *
    generalize y.lo=lo at *
    generalize y.hi=hi at *
    generalize y.n=yn at *
    generalize offI L j=ov at *
    have hlt:=yaf _ _ y0
    clear HI
    go_upto_region 7 with fail
    clear y0 y1 y2 y3 y4 hlt
    generalize hW:World.alloc _ _=V
    obtain ⟨bx,hbx⟩:∃bx,bx=wr.heap.size:=⟨_,rfl⟩
    have HXV:Hid (Ext wr V):=hid (by rw [←hW];exact (Ext.refl wr).alloc _)
    have HBX:Hid (V.heap[bx]?=some (.cells #[.int .i64 (ov:Int),.int .i64 (xl:Int),.int .i64 lo,.int .i64 hi,.int .i64 (yn:Int)] 164 (0,0))):=hid (by rw [←hW,hbx];exact heap_alloc_new wr _)
    rw [←hbx]
    clear hW hbx
    have z2:=zaa HBX.out 2
    have z3:=zaa HBX.out 3
    simp at z2 z3
    go_wp2_with (refine zat rfl _ _ rfl _ _ _ _ _ rfl HBX.out Tryz.underlying164 rfl bkS_info ?_)
    refine (HD.out V (HXI.out.trans HXV.out)).mono ?_
    rintro e w3 ⟨gp,rfl,hm3⟩
    have HL3:=hid (hm3.row.src (zck l))
    have HX3:Hid (Ext w w3):=hid (HXI.out.trans (HXV.out.trans hm3.ext))
    clear hm3 z2 z3 HXV HBX HXI
    go_wp2_with fail
    go_loopw [10,56] (fun s10 s56 wq=>∃(q:Nat) (oa:Option Addr) (on oc:Nat),s10=.slice oa on oc∧s56=.int .i64 (q:Int)∧q≤m∧on≤q∧Hid (on=(cutL f t (l.take q)).length∧CutTo w3 (cutL f t (l.take q)) (.slice oa on oc) wq)) (fun _ s _=>m-(RowKit.intOf s).toNat)
    case atStart=>exact ⟨0,none,0,0,rfl,rfl,by omega,by omega,hid ⟨by simp [cutL],by simpa [cutL] using CutTo.nil w3⟩⟩
    case round =>
     obtain ⟨q,oa,on,oc,rfl,rfl,hq,hon,I⟩:=hrel
     by_cases hlt:q<m
     ·obtain ⟨pb,po,pt,e1,hp,p0,p1,p2⟩:=zbz (HL3.out.ext I.out.2.ext) hlt
      cases e1
      have HT:=hid (zbS hp)
      clear hp
      have HC:=hid (cutL_snoc f t (l.take q) pt)
      simp only [Nat.zero_add] at p0 p1 p2
      by_cases hin:f≤pt.t∧pt.t<t
      ·obtain ⟨k1,k2⟩:=hin
       have HC':Hid (cutL f t (l.take (q+1))=cutL f t (l.take q)++[pt]):=hid (by rw [HT.out,HC.out,if_pos ⟨k1,k2⟩])
       have hrow:Row wr 76 3 (.slice oa on oc) on (pts (cutL f t (l.take q))):=by have h:=I.out.2.row;rw [←I.out.1] at h;exact h
       have HROW:=hid hrow
       clear hrow
       go_wp2_with (first
        | (at_builtin;go_must (refine zah (n:=on) (m:=1) zdi rfl _ _ rfl (v:=.slice _ _ _) rfl rfl (((HROW.out.alloc _)).alloc _) (src_pt' (p:=pt) (zaF _ _ _)) (by unfold maxLen;omega) (by omega) ?_;intro v' w5 happ);have K:=hid (I.out.2.snoc (((Ext.refl _).alloc _).alloc _) (by rw [←I.out.1];exact happ));obtain ⟨oa',oc',rfl⟩:=happ.row.shape;have KX:=hid happ;clear happ))
       go_roundw
       case rel=>exact ⟨q+1,oa',on+1,oc',rfl,by go_num,by omega,by omega,hid ⟨by rw [HC'.out,yae,←I.out.1];rfl,by rw [HC'.out];exact K.out⟩⟩
       case measure=>simp [RowKit.intOf];omega
      ·have HC':Hid (cutL f t (l.take (q+1))=cutL f t (l.take q)):=hid (by rw [HT.out,HC.out,if_neg hin])
       by_cases k1:f≤pt.t
       ·have k2:¬pt.t<t:=fun h=>hin ⟨k1,h⟩
        go_wp2_with fail
        go_roundw
        case rel=>exact ⟨q+1,oa,on,oc,rfl,by go_num,by omega,by omega,hid (by rw [HC'.out];exact ⟨I.out.1,I.out.2.next ((Ext.refl _).alloc _)⟩)⟩
        case measure=>simp [RowKit.intOf];omega
       ·go_wp2_with fail
        go_roundw
        case rel=>exact ⟨q+1,oa,on,oc,rfl,by go_num,by omega,by omega,hid (by rw [HC'.out];exact ⟨I.out.1,I.out.2.next ((Ext.refl _).alloc _)⟩)⟩
        case measure=>simp [RowKit.intOf];omega
     ·have HF:Hid (l.take q=l):=hid (yai (by have:=HM.out;omega))
      go_wp2_with fail
      go_roundw
      case rel=>exact ⟨1,oa,on,oc,rfl,rfl,rfl,by go_num,by omega,by omega,hid (by rw [if_neg (by omega)];have h:=I.out;rw [HF.out] at h;exact ⟨⟨h.2.row,fun g hg=>by have:=h.2.own g hg;have:=HX3.out.size;omega,HX3.out.trans h.2.ext⟩,h.1,fun e=>absurd e (by omega)⟩)⟩
      case measure=>simp [RowKit.intOf]
   ·subst hk1
    have hge:¬((1:Nat):Int)<1:=by omega
    have HE:Hid (CutTo w (cutL f t l) (.slice va vn vc) wr):=hid (by have h:=HI.out.1;rw [if_neg (by omega)] at h;exact h)
    go_wp2_with fail
    go_ret2
    exact ⟨_,rfl,HE.out⟩
end
section
open Go.RowKit Go.Sort Go.Lib
structure AcM where
 k:Int
 nm:Nat
 pa:Option Addr
 pn:Nat
 pc:Nat
 l:List Pt
 n:Int
 ka:Option Addr
 kn:Nat
 kc:Nat
def AcM.cells (p:AcM):List Value:=[.int .i64 p.k,.int .u8 (p.nm:Int),.slice p.pa p.pn p.pc,.int .i64 p.n,.slice p.ka p.kn p.kc]
def acms (P:List AcM):List Value:=P.flatMap AcM.cells
structure AcM.Ok (w:World) (p:AcM):Prop where
 src:Src w 3 (.slice p.pa p.pn p.pc) p.pn (pts p.l)
 cap:p.pn≤p.pc
 nm:p.nm<256
 len:p.pn<8000000000000
 v:∀q∈p.l,-9223372036854775808≤q.v∧q.v≤9223372036854775807
theorem AcM.Ok.ext {w w':World}{p:AcM}(h:p.Ok w) (hx:Ext w w'):p.Ok w':=⟨h.src.ext hx,h.cap,h.nm,h.len,h.v⟩
theorem acms_len (P:List AcM):(acms P).length=P.length*5:=by
 induction P with
 | nil=>rfl
 | cons p l ih=>simp [acms,AcM.cells] at ih ⊢;omega
theorem acms_at (P:List AcM) (k:Nat) (p:AcM) (h:P[k]?=some p):(acms P)[k*5]?=some (.int .i64 p.k)∧(acms P)[k*5+1]?=some (.int .u8 (p.nm:Int))∧(acms P)[k*5+2]?=some (.slice p.pa p.pn p.pc)∧(acms P)[k*5+3]?=some (.int .i64 p.n)∧(acms P)[k*5+4]?=some (.slice p.ka p.kn p.kc):=by
 induction P generalizing k with
 | nil=>simp at h
 | cons q l ih =>
  cases k with
  | zero=>simp at h;subst h;simp [acms,AcM.cells]
  | succ k =>
   have:=ih k (by simpa using h)
   rw [show (k+1)*5=k*5+5 by omega]
   simpa [acms,AcM.cells] using this
theorem acms_src {w:World}{a:Option Addr}{n c:Nat}{P:List AcM}(h:Src w 5 (.slice a n c) n (acms P)) {k:Nat}(hk:k<n) :
 ∃b off p,a=some ⟨b,off,none⟩∧P[k]?=some p∧w.cell? ⟨b,off+k*5,none⟩=some (.int .i64 p.k)∧w.cell? ⟨b,off+k*5+1,none⟩=some (.int .u8 (p.nm:Int))∧w.cell? ⟨b,off+k*5+2,none⟩=some (.slice p.pa p.pn p.pc)∧w.cell? ⟨b,off+k*5+3,none⟩=some (.int .i64 p.n)∧w.cell? ⟨b,off+k*5+4,none⟩=some (.slice p.ka p.kn p.kc):=by
 rcases h with ⟨_,h,_⟩|⟨ad,c',h,hl,h2,_⟩
 ·omega
 ·simp at h
  obtain ⟨rfl,rfl⟩:=h
  rw [acms_len] at hl
  have hkl:k<P.length:=by omega
  obtain ⟨e0,e1,e2,e3,e4⟩:=acms_at P k P[k] (yac hkl)
  have c0:=h2 _ _ e0
  have c1:=h2 _ _ e1
  have c2:=h2 _ _ e2
  have c3:=h2 _ _ e3
  have c4:=h2 _ _ e4
  have z0:=h2 0 (.int .i64 (P[0]'(by omega)).k) (by have:=(acms_at P 0 (P[0]'(by omega)) (yac (by omega))).1;simpa using this)
  obtain ⟨b,off,spot⟩:=ad
  have hspot:spot=none:=by simpa [Addr.add] using World.cell?_spot z0
  subst hspot
  simp only [yak] at c0 c1 c2 c3 c4
  exact ⟨b,off,P[k],rfl,yac hkl,c0,by rw [Nat.add_assoc];exact c1,by rw [Nat.add_assoc];exact c2,by rw [Nat.add_assoc];exact c3,by rw [Nat.add_assoc];exact c4⟩
theorem acms_src_len {w:World}{v:Value}{n:Nat}{P:List AcM}(h:Src w 5 v n (acms P)):P.length=n:=by
 rcases h with ⟨_,h,h2⟩|⟨_,_,_,h,_⟩
 ·have:=acms_len P;rw [h2] at this;simp at this;omega
 ·rw [acms_len] at h;omega
def manyA (P:List AcM):Nat:=(P.map AcM.pn).sum
theorem manyA_take {P:List AcM}{k:Nat}{p:AcM}(h:P[k]?=some p):manyA (P.take (k+1))=manyA (P.take k)+p.pn:=by
 unfold manyA
 rw [yao,h]
 simp
theorem manyA_le (P:List AcM) (k:Nat):manyA (P.take k)≤manyA P:=by
 conv=>rhs;rw [←yaS k P]
 unfold manyA
 rw [yav,List.sum_append]
 omega
theorem lawFew_any (w:World) (a:Option Addr) (n c:Nat) (P:List AcM) (hs:Src w 5 (.slice a n c) n (acms P)) (hok:∀p∈P,p.Ok w) (hn:n<4398046511104) :
 Calls Tryz.prog 8 #[.slice a n c] w fun e w'=>e=.returned (.bool (decide (n+manyA P<600)))∧w=w':=by
 have HS:=hid hs
 have HOK:=hid hok
 have HPL:=hid (acms_src_len hs)
 clear hs hok
 go_enter Tryz.func8,Tryz.ntmps8
 go_wp2_with fail
 go_loopw [3,4] (fun s3 s4 wr=>∃(j m:Nat),s3=.int .i64 (m:Int)∧s4=.int .i64 (j:Int)∧j≤n∧m<8796093022208∧wr=w∧Hid (m=n+manyA (P.take j)∧(j=0∨n+manyA (P.take (j-1))<600))) (fun _ t _=>n-(RowKit.intOf t).toNat)
 case atStart=>exact ⟨0,n,rfl,rfl,by omega,by omega,rfl,hid ⟨by simp [manyA],.inl rfl⟩⟩
 case round =>
  obtain ⟨j,m,rfl,rfl,hj,hm,rfl,HI⟩:=hrel
  by_cases hlt:j<n
  ·by_cases h6:m<600
   ·obtain ⟨b,off,p,rfl,hp,c0,c1,c2,c3,c4⟩:=acms_src HS.out hlt
    have HP:=hid hp
    have hpl:p.pn<8000000000000:=(HOK.out p (yag hp)).len
    have HN:Hid (m+p.pn=n+manyA (P.take (j+1))):=hid (by rw [manyA_take hp,HI.out.1];omega)
    have HM:Hid (n+manyA (P.take j)<600):=hid (by have:=HI.out.1;omega)
    clear hp c0 c1 c3 c4
    go_wp2_with fail
    go_roundw
    case rel=>exact ⟨j+1,m+p.pn,by go_num,by go_num,by omega,by omega,trivial,hid ⟨HN.out,.inr HM.out⟩⟩
    case measure=>simp [RowKit.intOf];omega
   ·have HR:Hid (decide ((m:Int)<600)=decide (n+manyA P<600)):=hid (decide_eq_decide.2 (by have h1:=HI.out.1;have h2:=manyA_le P j;omega))
    go_wp2_with fail
    go_ret
    exact ⟨congrArg (fun b=>Ending.returned (.bool b)) HR.out,rfl⟩
  ·obtain rfl:j=n:=by omega
   have HR:Hid (decide ((m:Int)<600)=decide (j+manyA P<600)):=hid (by
    have h:=HI.out.1
    rw [yai (by rw [HPL.out];exact Nat.le_refl _)] at h
    rw [h]
    exact decide_eq_decide.2 (by omega))
   go_wp2_with fail
   go_ret
   exact ⟨congrArg (fun b=>Ending.returned (.bool b)) HR.out,rfl⟩
def nmL (c:Nat):ByteArray:=if c%3=0 then ⟨#[97]⟩ else if c%3=1 then ⟨#[98]⟩ else ⟨#[99]⟩
theorem zdg (w:World) (c:Nat) (hc:c<256) :
 Calls Tryz.prog 12 #[.int .u8 (c:Int)] w fun e w'=>e=.returned (.string (nmL c))∧Ext w w':=by
 have h3:c%3=0∨c%3=1∨c%3=2:=by omega
 have hm:Int.tmod (c:Int) 3=((c%3:Nat):Int):=by
  rw [Int.tmod_eq_emod_of_nonneg (by omega)];omega
 have HE:Hid (nmL c=if c%3=0 then ⟨#[97]⟩ else if c%3=1 then ⟨#[98]⟩ else ⟨#[99]⟩):=hid rfl
 rw [HE.out]
 clear HE
 rcases h3 with h|h|h
 all_goals
  rw [h] at hm ⊢
  go_enter Tryz.func12,Tryz.ntmps12
  go_wp2_with fail
  go_ret
  exact ⟨rfl,(Ext.refl w).alloc _⟩
end
end Go.Proofs.YtlmfhjipbjkcbaaGreatDoor
