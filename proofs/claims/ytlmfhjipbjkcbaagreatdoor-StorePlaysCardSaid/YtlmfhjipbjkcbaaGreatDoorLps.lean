/- x -/
import Derived.Test.YtlmfhjipbjkcbaaGreatDoorLwc
import Derived.Test.YtlmfhjipbjkcbaaGreatDoorCor
set_option maxHeartbeats 16000000
set_option maxRecDepth 100000
set_option linter.unusedSimpArgs false
set_option linter.unusedVariables false
namespace Go.Proofs.YtlmfhjipbjkcbaaGreatDoor
section
open Go.RowKit Go.Sort Go.Lib
def HoldS (S:DiskS) (fl:List Fl) (LS:List (List SegI)):Prop:=LS.length=fl.length∧∀(k:Nat) (F:Fl) (L:List SegI),fl[k]?=some F→LS[k]?=some L→OnDisk S F L
def zbd (LS:List (List SegI)):List ByteArray:=compS (sortS (LS.flatMap zay))
theorem StrsTo.app {w w1 w2 w3:World}{L K:List ByteArray}{v v':Value}{n:Nat}(h:StrsTo w L v w1) (hx:Ext w1 w2) (ha:Appended w2 9 1 v n (strs L++strs K) v' w3) (hn:n=L.length+K.length):StrsTo w (L++K) v' w3:=by
 subst hn
 refine ⟨?_,fun g hg=>?_,Chg.ext ((Chg.of_ext (h.ext.trans hx)).trans ha.chg (fun _ _ e=>e)) (fun i hi e=>by have:=h.own i e;omega)⟩
 ·have:=ha.row
  rw [show strs (L++K)=strs L++strs K by simp [strs],yae]
  exact this
 ·rcases ha.loc with e|e
  ·rw [e] at hg;exact h.own g hg
  ·rw [e] at hg;have:=h.ext.size;have:=hx.size;simp at hg;omega
theorem stoNames_any {w:World}{p d:Nat}{s:Sta}{S:DiskS}{B:List Nat}{v:StoV}(ok:S.Ok) (h:StoAt w p d s S B v) (LS:List (List SegI)) (hH:HoldS S s.fl LS) (hN:v.fn≤4000) (hg:HasET w) :
 Calls Tryz.prog 83 #[.pointer (some ⟨p,0,none⟩)] w fun e w'=>∃u,e=.returned (.tuple #[u,.int .i64 0])∧StrsTo w (zbd LS) u w':=by
 obtain ⟨fa,fn,fc,ta,tn,tc⟩:=v
 simp only at hN
 have HH:=hid h
 have HG:=hid hg
 have HHP:=hid hH
 have HOK:=hid ok
 have hfl:s.fl.length=fn:=zaW h.st.fl
 have hHl:LS.length=fn:=by rw [hH.1,hfl]
 have HHL:=hid hHl
 have HFS:Hid (Src w 4 (.slice fa fn fc) fn (fls s.fl)):=hid h.st.fl
 have c7:w.cell? ⟨p,7,none⟩=some (.slice fa fn fc):=by have:=zaa h.box 7;simpa using this
 clear h hg hH ok hfl hHl
 go_enter Tryz.func83,Tryz.ntmps83
 go_wp2_with fail
 refine (zbL HH.out).mono ?_
 rintro e w1 ⟨rfl,rfl⟩
 go_wp2_with fail
 clear c7
 go_loopw [4,17] (fun s4 s17 wr=>∃(k vn vc:Nat) (va:Option Addr),s4=.slice va vn vc∧s17=.int .i64 (k:Int)∧k≤fn∧vn≤k*1024∧Hid (∃K,K=(LS.take k).flatMap zay∧vn=K.length∧StrsTo w K (.slice va vn vc) wr)) (fun _ z _=>fn-(RowKit.intOf z).toNat)
 case atStart=>exact ⟨0,0,0,none,rfl,rfl,by omega,by omega,hid ⟨[],rfl,rfl,Row.nil _ _ _,fun g hg=>by simp [Value.ownBlock] at hg,Ext.refl _⟩⟩
 case round =>
  obtain ⟨k,vn,vc,va,rfl,rfl,hk,hvk,HI⟩:=hrel
  obtain ⟨K,hK,hKn,hst⟩:=HI.out
  have HKK:=hid (And.intro hK hKn)
  have HST:=hid hst
  clear HI hK hKn hst
  by_cases hlt:k<fn
  ·obtain ⟨fb,fo,F,rfl,hF,f0,f1,f2,f3⟩:=zed (HFS.out.ext HST.out.ext) hlt
   obtain ⟨L,hL⟩:∃L,LS[k]?=some L:=⟨_,yac (by have:=HHL.out;omega)⟩
   have HOD:=hid (HHP.out.2 k F L hF hL)
   have HTK:Hid ((LS.take (k+1)).flatMap zay=(LS.take k).flatMap zay++zay L):=hid (by rw [yao,hL];simp)
   have hL1:L.length≤1024:=HOD.out.ok.len
   have HL1:=hid hL1
   have HNL:Hid ((zay L).length≤1024):=hid (by rw [zbo];exact hL1)
   obtain ⟨fnm,ga,gb,gk⟩:=F
   simp only at f0 f1 f2 f3
   clear hF hL hL1
   go_upto_region 7 with fail
   generalize hW:World.alloc _ _=W
   obtain ⟨bx,hbx⟩:∃bx,bx=wr.heap.size:=⟨_,rfl⟩
   have HXW:Hid (Ext wr W):=hid (by rw [←hW];exact (Ext.refl wr).alloc _)
   have HB:Hid (W.heap[bx]?=some (.cells #[.string fnm,.int .i64 ga,.int .i64 gb,.int .i64 gk] 110 (0,0))):=hid (by rw [←hW,hbx];exact heap_alloc_new wr _)
   rw [←hbx]
   clear hW hbx f0 f1 f2 f3
   go_wp2_with (refine zar rfl _ _ rfl _ _ _ _ _ rfl HB.out Tryz.underlying110 rfl zcb ?_)
   refine (stoRead_any HOK.out (HH.out.ext (HST.out.ext.trans HXW.out)) ⟨fnm,ga,gb,gk⟩ L HOD.out (HG.out.ext (HST.out.ext.trans HXW.out))).mono ?_
   rintro e w2 ⟨q,rfl,hsg,hx2⟩
   have HSG:=hid hsg
   have HX2:=hid (HXW.out.trans hx2)
   clear hsg hx2
   go_wp2_with fail
   refine (segNamesOf_any HSG.out HL1.out).mono ?_
   rintro e w3 ⟨v3,rfl,hns⟩
   obtain ⟨m,hm⟩:∃m,m=(zay L).length:=⟨_,rfl⟩
   have hrow:=hns.row
   rw [←hm] at hrow
   obtain ⟨a3,c3,rfl⟩:=hrow.shape
   have HNS:=hid hns
   have HROW:=hid hrow
   have HM:=hid hm
   have hm1:m≤1024:=by rw [hm];exact HNL.out
   have HX3:=hid (HX2.out.trans hns.ext)
   clear hns hrow hm
   have HR0:Hid (Row w3 9 1 (.slice va vn vc) vn (strs K)):=hid (by have h:=HST.out.row;rw [←HKK.out.2] at h;exact h.ext HX3.out)
   go_wp2_with (at_builtin;go_must (refine zah (n:=vn) (m:=m) (v:=.slice _ _ _) elem_str rfl _ _ rfl rfl rfl HR0.out (HROW.out.src (strs_one _)) (by unfold maxLen;omega) (by omega) ?_;intro v4 w4 happ);obtain ⟨vb,vd,rfl⟩:=happ.row.shape;have HA4:=hid happ;clear happ)
   have HS4:=hid (HST.out.app HX3.out HA4.out (by rw [←HKK.out.2,←HM.out]))
   go_roundw
   case rel =>
    refine ⟨k+1,vn+m,vd,vb,rfl,by go_num,by omega,by omega,hid ⟨K++zay L,by rw [HTK.out,←HKK.out.1],?_,HS4.out⟩⟩
    rw [yae,←HKK.out.2,←HM.out]
   case measure=>simp [RowKit.intOf];omega
  ·obtain rfl:k=fn:=by omega
   have HKA:Hid (K=LS.flatMap zay):=hid (by have h:=HKK.out.1;rw [yai (by rw [HHL.out];exact Nat.le_refl _)] at h;exact h)
   have HR0:Hid (Row wr 9 1 (.slice va vn vc) vn (strs K)):=hid (by have h:=HST.out.row;rw [←HKK.out.2] at h;exact h)
   go_wp2_with fail
   refine (sort_any HR0.out (by omega)).mono ?_
   rintro e w2 ⟨rfl,hrow,hc⟩
   have HR2:=hid hrow
   have HC2:=hid hc
   clear hrow hc
   go_wp2_with fail
   refine (compact_any HR2.out (by omega)).mono ?_
   rintro e w3 ⟨u,rfl,hrow,hc,hob⟩
   have HX:Hid (Ext w w3):=hid ((((Chg.of_ext (S:=fun k=>(Value.slice va vn vc).ownBlock=some k) HST.out.ext).trans HC2.out (fun _ _ e=>e)).trans hc (fun _ _ e=>e)).ext (fun i hi e=>by have:=HST.out.own i e;omega))
   have HR3:=hid hrow
   have HOB:=hid hob
   clear hrow hc hob
   go_wp2_with fail
   go_ret2
   refine ⟨u,rfl,?_,fun g hg=>?_,HX.out⟩
   ·unfold zbd
    rw [←HKA.out]
    exact HR3.out
   ·rw [HOB.out] at hg
    exact HST.out.own g hg
theorem elem_pam:ElemOk Tryz.prog 44 43 2 40 :=
 ⟨Tryz.underlying44,by
   obtain ⟨i0,hi,hz0,hz1,hz2⟩:=info_parts (show (Tryz.prog.info? 43).map (fun i=>(i.zero,i.size,i.bytes))=some (some (.agg #[.string ⟨#[]⟩,.slice none 0 0]),2,40) from by kernel_rfl)
   exact ⟨i0,_,hi,hz0,hz1,hz2,rfl⟩,by decide⟩
theorem src_pamc {W:World}{b:Nat}{q:PaM}{t:TypeId}{fr:Nat×Nat}(h:W.heap[b]?=some (.cells #[.string q.nm,.slice q.a q.n q.c] t fr)):Src W 2 (.slice (some ⟨b,0,none⟩) 1 1) 1 (pams [q]):=by
 refine .inr ⟨_,_,rfl,by simp [pams,PaM.cells],fun j u hj=>?_,zdX _⟩
 rw [yak,Nat.zero_add,zaa h]
 simpa [pams,PaM.cells] using hj
structure AllI (w:World) (N:List ByteArray) (Hof:ByteArray→List (List Pt)) (k:Nat) (qs:List PaM) (va:Option Addr) (vn vc:Nat) (wr:World):Prop where
 row:Row wr 43 2 (.slice va vn vc) vn (pams qs)
 nm:qs.map PaM.nm=N.take k
 ok:∀q∈qs,q.Ok wr∧IsMerge (((Hof q.nm).map (cutL (-1152921504606846976) 1152921504606846977)).filter neL) q.l
 off:∀q∈qs,∀g,q.a.map (·.block)=some g→va.map (·.block)≠some g
 lt:∀q∈qs,∀g,q.a.map (·.block)=some g→w.heap.size≤g∧g<wr.heap.size
 own:∀g,va.map (·.block)=some g→w.heap.size≤g
 ext:Ext w wr
 len:vn=qs.length
theorem AllI.add {w wr w2 w3 W w4:World}{N:List ByteArray}{Hof:ByteArray→List (List Pt)}{k vn vc vc' c:Nat}{qs:List PaM}{va va' a:Option Addr}{nm:ByteArray}{l:List Pt}(h:AllI w N Hof k qs va vn vc wr) (hn:N[k]?=some nm) (hx:Ext wr w2)
 (hc:CutTo w2 l (.slice a l.length c) w3) (hnc:l.length≤c) (hm:IsMerge (((Hof nm).map (cutL (-1152921504606846976) 1152921504606846977)).filter neL) l) (hW:Ext w3 W) (ha:Appended W 43 2 (.slice va vn vc) (vn+1) (pams qs++pams [⟨nm,a,l.length,c,l⟩]) (.slice va' (vn+1) vc') w4):AllI w N Hof (k+1) (qs++[⟨nm,a,l.length,c,l⟩]) va' (vn+1) vc' w4:=by
 have hxW:Ext wr W:=(hx.trans hc.ext).trans hW
 have hwW:Ext w W:=h.ext.trans hxW
 have hloc:∀g,va'.map (·.block)=some g→va.map (·.block)=some g∨g=W.heap.size:=fun g hg=>by
  have hl:=ha.loc
  rw [zaq,zaq,hg] at hl
  rcases hl with e|e
  ·exact .inl e.symm
  ·exact .inr (yaG e)
 have hcg:∀g,a.map (·.block)=some g→w2.heap.size≤g∧g<w3.heap.size:=fun g hg=>⟨hc.own g (by rw [zaq];exact hg),hc.row.lt (by rw [zaq];exact hg)⟩
 have hvl:∀g,va.map (·.block)=some g→g<wr.heap.size:=fun g hg=>h.row.lt (by rw [zaq];exact hg)
 have hs2:=hx.size
 have hs3:=hW.size
 have hsw:=h.ext.size
 have hok:∀x:PaM,x.Ok W→(∀g,x.a.map (·.block)=some g→va.map (·.block)≠some g)→x.Ok w4:=fun x hx hne =>
  ⟨zbN hx.1 ha.chg (fun b hb e=>by rw [zaq] at e;exact hne b hb e),hx.2⟩
 refine ⟨by rw [pams_append];exact ha.row,?_,fun x hm'=>?_,fun x hm' g hg=>?_,fun x hm' g hg=>?_,fun g hg=>?_,?_,by rw [yae,←h.len];rfl⟩
 ·rw [yav,h.nm,yao,hn];rfl
 ·rcases yah.1 hm' with hm'|hm'
  ·exact ⟨hok x ((h.ok x hm').1.ext hxW) (h.off x hm'),(h.ok x hm').2⟩
  ·obtain rfl:=yal.1 hm'
   exact ⟨hok _ ⟨(hc.row.src (zco _)).ext hW,hnc⟩ (fun g hg e=>by have:=hcg g hg;have:=hvl g e;omega),hm⟩
 ·intro e2
  rcases yah.1 hm' with hm'|hm'
  ·rcases hloc g e2 with e3|e3
   ·exact h.off x hm' g hg e3
   ·have:=h.lt x hm' g hg
    have:=hxW.size
    omega
  ·obtain rfl:=yal.1 hm'
   have:=hcg g hg
   rcases hloc g e2 with e3|e3
   ·have:=hvl g e3;omega
   ·omega
 ·have hs4:=ha.chg.size
  rcases yah.1 hm' with hm'|hm'
  ·have:=h.lt x hm' g hg
   have:=hxW.size
   omega
  ·obtain rfl:=yal.1 hm'
   have:=hcg g hg;omega
 ·rcases hloc g hg with e3|e3
  ·exact h.own g e3
  ·have:=hwW.size;omega
 ·exact ((Chg.of_ext (S:=fun b=>va.map (·.block)=some b) hwW).trans ha.chg (fun i _ e=>by rw [zaq] at e;exact e)).ext (fun i hi e=>by have:=h.own i e;omega)
theorem AllI.early {w0 w wr:World}{N:List ByteArray}{Hof:ByteArray→List (List Pt)}{k vn vc:Nat}{qs:List PaM}{va:Option Addr}(h:AllI w N Hof k qs va vn vc wr) (hx:Ext w0 w):AllI w0 N Hof k qs va vn vc wr :=
 ⟨h.row,h.nm,h.ok,h.off,fun q hq g hg=>⟨by have:=(h.lt q hq g hg).1;have:=hx.size;omega,(h.lt q hq g hg).2⟩,fun g hg=>by have:=h.own g hg;have:=hx.size;omega,hx.trans h.ext,h.len⟩
theorem stoAll_any {w:World}{p d:Nat}{s:Sta}{S:DiskS}{B:List Nat}{v:StoV}(ok:S.Ok) (h:StoAt w p d s S B v) (LS:List (List SegI)) (hH:HoldS S s.fl LS) (hN:v.fn≤4000) (hg:HasET w)
 (Hof:ByteArray→List (List Pt)) (hof:∀n∈zbd LS,HoldP S s.fl n (Hof n)∧(Hof n).length+((Hof n).map List.length).sum<4000) (hNL:(zbd LS).length≤1000000) :
 Calls Tryz.prog 48 #[.pointer (some ⟨p,0,none⟩)] w fun e w'=>∃qs va vc,e=.returned (.tuple #[.slice va qs.length vc,.int .i64 0])∧AllI w (zbd LS) Hof (zbd LS).length qs va qs.length vc w':=by
 have HH:=hid h
 have HG:=hid hg
 have HOF:=hid hof
 have HOK:=hid ok
 have HNM:=hid (fun W (hW:Ext w W)=>stoNames_any ok (h.ext hW) LS hH hN (hg.ext hW))
 obtain ⟨N,hNN⟩:∃N,N=zbd LS:=⟨_,rfl⟩
 rw [←hNN] at HOF HNM hNL ⊢
 obtain ⟨t,ht⟩:∃t,t=N.length:=⟨_,rfl⟩
 rw [←ht] at hNL ⊢
 have HT:=hid ht
 clear h hg hH ok hof hNN ht
 go_enter Tryz.func48,Tryz.ntmps48
 go_wp2_with fail
 refine (HNM.out w (Ext.refl w)).mono ?_
 rintro e w1 ⟨u,rfl,hst⟩
 have hrow:=hst.row
 rw [←HT.out] at hrow
 obtain ⟨ua,uc,rfl⟩:=hrow.shape
 have HROW:=hid hrow
 have HX1:=hid hst.ext
 clear hst hrow
 go_wp2_with fail
 go_loopw [6,21] (fun s6 s21 wr=>∃(k vn vc:Nat) (va:Option Addr),s6=.slice va vn vc∧s21=.int .i64 (k:Int)∧k≤t∧vn≤k∧Hid (∃qs,AllI w1 N Hof k qs va vn vc wr)) (fun _ z _=>t-(RowKit.intOf z).toNat)
 case atStart=>exact ⟨0,0,0,none,rfl,rfl,by omega,by omega,hid ⟨[],⟨Row.nil _ _ _,by simp,by simp,by simp,by simp,by simp,Ext.refl _,rfl⟩⟩⟩
 case round =>
  obtain ⟨k,vn,vc,va,rfl,rfl,hk,hvk,HI⟩:=hrel
  obtain ⟨qs,hI⟩:=HI.out
  have HX1R:=hid hI.ext
  have HXW:=hid (HX1.out.trans hI.ext)
  have HAI:=hid hI
  clear HI hI
  by_cases hlt:k<t
  ·obtain ⟨g,nm,rfl,hnm,hcell⟩:=strs_at (HROW.out.ext HX1R.out) HT.out hlt
   have HNK:=hid hnm
   have HP:=hid (HOF.out nm (yag hnm))
   clear hnm
   go_wp2_with fail
   refine (zdV HOK.out (HH.out.ext HXW.out) nm (Hof nm) HP.out.1 (-1152921504606846976) 1152921504606846977 HP.out.2 (HG.out.ext HXW.out)).mono ?_
   rintro e w2 ⟨v2,out,rfl,hc,hm⟩
   obtain ⟨ca,cc,rfl⟩:=hc.row.shape
   have HC:=hid hc
   have HMG:=hid hm
   have HNC:=hid (zcd hc.row)
   obtain ⟨cn,hcn⟩:∃cn,cn=out.length:=⟨_,rfl⟩
   rw [←hcn]
   have HCN:=hid hcn
   clear hc hm hcn hcell
   have HR2:=hid (HAI.out.row.ext HC.out.ext)
   go_wp2_with (at_builtin;go_must (refine zah (n:=vn) (m:=1) (v:=.slice va vn vc) elem_pam rfl _ _ rfl rfl rfl (HR2.out.alloc _) (src_pamc (q:=⟨nm,ca,cn,cc,out⟩) (heap_alloc_new _ _)) (by unfold maxLen;omega) (by omega) ?_;intro v4 w4 happ);obtain ⟨va',vc',rfl⟩:=happ.row.shape;have HA:=hid happ;clear happ)
   go_roundw
   case rel =>
    exact ⟨k+1,vn+1,vc',va',rfl,by go_num,by omega,by omega,hid ⟨_,HAI.out.add HNK.out (Ext.refl wr) HC.out HNC.out HMG.out ((Ext.refl w2).alloc _) (by have h:=HA.out;rw [HCN.out] at h;exact h)⟩⟩
   case measure=>simp [RowKit.intOf];omega
  ·obtain rfl:k=t:=by omega
   have HLN:=hid HAI.out.len
   have hvl:vn=qs.length:=HAI.out.len
   go_wp2_with fail
   go_ret2
   subst hvl
   exact ⟨qs,va,vc,rfl,HAI.out.early HX1.out⟩
def zdI (s:Sta) (n:Nat) (Q:List Prt):Sta:=⟨(n:Int)+1,s.r,s.q,s.km,[zcW (nameS 115 n) Q],s.ti⟩
def TidyTo (w:World) (p d:Nat) (s s':Sta) (B:List Nat) (v:StoV) (r:Int×DiskS) (e:Ending) (w':World):Prop :=
 if r.1≠0 then e=.returned (.int .i64 r.1)∧StoTo w p d s B v r.2 w'
 else if (saveS r.2 s').1≠0 then e=.returned (.int .i64 (saveS r.2 s').1)∧StoTo w p d s B v (saveS r.2 s').2 w'
 else e=.returned (.int .i64 (tidyS (saveS r.2 s').2 s').1)∧∃v':StoV,v'.fn=s'.fl.length∧v'.tn=s'.ti.length∧v'.New w∧zds w p d s' B v' (tidyS (saveS r.2 s').2 s').2 w'
theorem zds.then {w w1 w2:World}{p d:Nat}{s:Sta}{B:List Nat}{v:StoV}{S2:DiskS}{B1:List Nat}(c1:Chg (fun b=>b=p∨b∈B) w w1) (n1:∀b∈B1,b∈B∨w.heap.size≤b) (k:StoTo w1 p d s B1 v S2 w2):zds w p d s B v S2 w2:=by
 obtain ⟨B2,h2,c2,n2⟩:=k
 refine ⟨B2,h2,c1.trans c2 (fun i hi e=>?_),fun b hb=>?_⟩
 ·rcases n1 i e with e|e
  ·exact .inr e
  ·omega
 ·rcases n2 b hb with e|e
  ·exact n1 b e
  ·have:=c1.size;omega
def CompTo (w:World) (p d n:Nat) (s:Sta) (S:DiskS) (B:List Nat) (v:StoV) (N:List ByteArray) (Hof:ByteArray→List (List Pt)) (e:Ending) (w':World):Prop :=
 ∃Q:List Prt,Q.map Prod.fst=N∧(∀q∈Q,IsMerge (((Hof q.1).map (cutL (-1152921504606846976) 1152921504606846977)).filter neL) q.2)∧TidyTo w p d s (zdI s n Q) B v (zbT S (nameS 115 n) (segB Q)) e w'
theorem stoCompact_few {w:World}{p d:Nat}{s:Sta}{S:DiskS}{B:List Nat}{v:StoV}(h:StoAt w p d s S B v) (h2:v.fn<2) :
 Calls Tryz.prog 19 #[.pointer (some ⟨p,0,none⟩)] w fun e w'=>e=.returned (.int .i64 13)∧w=w':=by
 have HH:=hid h
 obtain ⟨fa,fn,fc,ta,tn,tc⟩:=v
 simp only at h2
 have c7:w.cell? ⟨p,7,none⟩=some (.slice fa fn fc):=by have:=zaa h.box 7;simpa using this
 clear h
 go_enter Tryz.func19,Tryz.ntmps19
 go_wp2_with fail
 refine (zbL HH.out).mono ?_
 rintro e w1 ⟨rfl,rfl⟩
 go_wp2_with fail
 go_ret
 exact ⟨rfl,rfl⟩
theorem stoCompact_any {w:World}{p d k n:Nat}{s:Sta}{S:DiskS}{B:List Nat}{v:StoV}(hk:k≤700000) (inv:DInv S k) (h:StoAt w p d s S B v) (hx:s.x=(n:Int)) (hn:n<1000000000) (hvn:v.fn≤1000∧v.tn≤1000)
 (LS:List (List SegI)) (hH:HoldS S s.fl LS) (Hof:ByteArray→List (List Pt)) (hof:∀n∈zbd LS,HoldP S s.fl n (Hof n)∧(Hof n).length+((Hof n).map List.length).sum<4000) (hNL:(zbd LS).length≤1000000)
 (hok:∀Q:List Prt,Q.map Prod.fst=zbd LS→(∀q∈Q,IsMerge (((Hof q.1).map (cutL (-1152921504606846976) 1152921504606846977)).filter neL) q.2)→PrtsOk Q) (h2:2≤v.fn) (hg:HasET w) (hgB:0∉B) :
 Calls Tryz.prog 19 #[.pointer (some ⟨p,0,none⟩)] w (CompTo w p d n s S B v (zbd LS) Hof):=by
 have HH:=hid h
 have HI:=hid inv
 have HG:=hid hg
 have HX:=hid hx
 have HGB:=hid hgB
 have HOKQ:=hid hok
 have HALL:=hid (stoAll_any inv.ok h LS hH (by omega) hg Hof hof hNL)
 have HPL:=hid (zab h.box)
 have HFL:=hid (And.intro (zaW h.st.fl:s.fl.length=v.fn) (zaV h.st.ti:s.ti.length=v.tn))
 have HKM:=hid h.st.ok
 have HBLT:Hid (∀b,w.heap.size≤b→b∉B):=hid (fun b hb e=>by have:=h.disk.lt b e;omega)
 obtain ⟨N,hN⟩:∃N,N=zbd LS:=⟨_,rfl⟩
 rw [←hN] at HALL HOKQ ⊢
 obtain ⟨fa,fn,fc,ta,tn,tc⟩:=v
 obtain ⟨sx,sr,sq,⟨mb,mt,mg⟩,fl,ti⟩:=s
 simp only at h2 hvn HFL HX HKM
 have c7:w.cell? ⟨p,7,none⟩=some (.slice fa fn fc):=by have:=zaa h.box 7;simpa using this
 clear h inv hg hx hgB hok hH hof hNL hN
 go_enter Tryz.func19,Tryz.ntmps19
 go_wp2_with fail
 refine (zbL HH.out).mono ?_
 rintro e w1 ⟨rfl,rfl⟩
 go_wp2_with fail
 refine HALL.out.mono ?_
 rintro e w1 ⟨qs,va,vc,rfl,hai⟩
 have HAI:=hid hai
 have hQ1:(zaC qs).map Prod.fst=N:=by
  have h1:=hai.nm
  rw [yai (Nat.le_refl _)] at h1
  rw [←h1]
  simp [zaC,prtOf]
 have hQ2:∀q∈zaC qs,IsMerge (((Hof q.1).map (cutL (-1152921504606846976) 1152921504606846977)).filter neL) q.2:=fun q hq=>by
  unfold zaC at hq
  obtain ⟨y,hy,rfl⟩:=yap.1 hq
  exact (hai.ok y hy).2
 have HQ:=hid (And.intro hQ1 hQ2)
 have HFI:=hid (stoFile_any (hk:=(by omega:k≤900000)) HI.out (HH.out.ext hai.ext) HX.out hn va qs.length vc qs (hai.row.src (zdX _)) (fun q hq=>(hai.ok q hq).1) (HOKQ.out _ hQ1 hQ2) (HG.out.ext hai.ext))
 have HX1:=hid hai.ext
 clear hai hQ1 hQ2 c7 HOKQ HALL
 go_wp2_with fail
 obtain ⟨Q,hQ⟩:∃Q,Q=zaC qs:=⟨_,rfl⟩
 rw [←hQ] at HFI HQ
 obtain ⟨F,hF⟩:∃F,F=zcW (nameS 115 n) Q:=⟨_,rfl⟩
 obtain ⟨R,hR⟩:∃R,R=zbT S (nameS 115 n) (segB Q):=⟨_,rfl⟩
 have HFS:Hid (zdI ⟨sx,sr,sq,⟨mb,mt,mg⟩,fl,ti⟩ n Q=⟨(n:Int)+1,sr,sq,⟨mb,mt,mg⟩,[F],ti⟩):=hid (by rw [hF];rfl)
 have HIR:Hid (DInv R.2 (k+3)):=hid (by rw [hR];exact HI.out.write _ _)
 rw [←hF,←hR] at HFI
 have HRE:Hid (zbT S (nameS 115 n) (segB Q)=R):=hid hR.symm
 clear hF hR hQ
 refine HFI.out.mono ?_
 rintro e w9 ⟨rfl,B9,hsa,hc9,hn9⟩
 have HSA:=hid hsa
 have hnw:∀b∈B9,b∈B∨w.heap.size≤b:=fun b hb=>by
  rcases hn9 b hb with e|e
  ·exact .inl e
  ·have:=HX1.out.size;exact .inr (by omega)
 have hcw:Chg (·∈B) w w9:=(Chg.of_ext HX1.out).trans hc9 (fun _ _ e=>e)
 have HCW:=hid (And.intro hcw hnw)
 have HGW:=hid (HG.out.chg hcw HGB.out)
 clear hsa hc9 hn9 hnw hcw HFI HAI
 obtain ⟨z,S9⟩:=R
 simp only at HSA HIR ⊢
 by_cases hz:z=0
 ·subst hz
  go_upto_region 9 with fail
  generalize hW:World.alloc _ _=Wa
  obtain ⟨fb,hfb⟩:∃fb,fb=w9.heap.size:=⟨_,rfl⟩
  have hxa:Ext w9 Wa:=by rw [←hW];exact (Ext.refl w9).alloc _
  have HFB:Hid (Wa.heap[fb]?=some (.cells #[.string F.nm,.int .i64 F.a,.int .i64 F.b,.int .i64 F.k] 110 (0,0))):=hid (by rw [←hW,hfb];exact heap_alloc_new w9 _)
  have HXA:=hid hxa
  have HSAa:=hid (HSA.out.ext hxa)
  rw [←hfb]
  clear hW hfb hxa
  go_wp2_with (refine zbt rfl _ _ rfl p 1 (stoC d ⟨sx,sr,sq,⟨mb,mt,mg⟩,fl,ti⟩ ⟨fa,fn,fc,ta,tn,tc⟩) [.int .i64 sx,.int .i64 sr,.int .i64 sq,.bool mb,.int .i64 mt,.int .i64 mg,.slice fa fn fc,.slice ta tn tc] _ _ _ rfl HSAa.out.box rfl Tryz.underlying66 rfl zaF ?_)
  refine (zcn Wa ⟨sx,sr,sq,⟨mb,mt,mg⟩,fl,ti⟩ fa ta fn fc tn tc HSAa.out.st.fl HSAa.out.st.ti (by omega) (by omega)).mono ?_
  rintro e w10 ⟨v4,hv1,hv2,rfl,ho4⟩
  obtain ⟨fa4,fn4,fc4,ta4,tn4,tc4⟩:=v4
  simp only at hv1 hv2
  subst hv1 hv2
  have HO4:=hid ho4
  have HX10:=hid (HXA.out.trans ho4.ext)
  have HFB10:=hid ((ho4.ext.block (zab HFB.out)).trans HFB.out)
  clear ho4
  go_upto_region 12 with fail
  generalize hW:World.alloc _ _=Wb
  obtain ⟨nb,hnb⟩:∃nb,nb=w10.heap.size:=⟨_,rfl⟩
  rw [←hnb]
  have hxb:Ext w10 Wb:=by rw [←hW];exact (Ext.refl w10).alloc _
  have HNB:Hid (Wb.heap[nb]?=some (.cells #[.int .i64 sx,.int .i64 sr,.int .i64 sq,.bool mb,.int .i64 mt,.int .i64 mg,.slice fa4 fn4 fc4,.slice ta4 tn4 tc4] 66 (0,0))):=hid (by rw [←hW,hnb];exact heap_alloc_new w10 _)
  have HXB:=hid (HX10.out.trans hxb)
  have HFBb:=hid ((hxb.block (zab HFB10.out)).trans HFB10.out)
  have HNN:Hid (w10.heap.size=nb):=hid hnb.symm
  have HTI:Hid (Row Wb 90 5 (.slice ta4 tn4 tc4) tn4 (trs ti)):=hid (HO4.out.t.ext hxb)
  have HTF:Hid (∀g,ta4.map (·.block)=some g→w9.heap.size≤g∧g<nb):=hid (fun g hg=>⟨by have:=HO4.out.to' g hg;have:=HXA.out.size;omega,by have:=HO4.out.t.lt (g:=g) (by rw [zaq];exact hg);omega⟩)
  have HX9N:Hid (w9.heap.size≤nb):=hid (by have:=HX10.out.size;omega)
  clear hW hnb hxb HX10 HO4
  have hinfo:(Tryz.prog.info? 3).map (·.size)=some 1:=by kernel_rfl
  have HINF:=hid hinfo
  clear hinfo
  have hsx:sx=(n:Int):=HX.out
  subst hsx
  have y0:=zaa HNB.out 0
  simp at y0
  go_upto_region 13 with (refine zam rfl _ _ _ rfl nb 0 _ #[.int .i64 ((n:Int)+1),.int .i64 sr,.int .i64 sq,.bool mb,.int .i64 mt,.int .i64 mg,.slice fa4 fn4 fc4,.slice ta4 tn4 tc4] _ _ rfl rfl rfl rfl HNB.out (by simp) rfl HINF.out ?_;rintro Vb hbV hcV _he;have HNBb:=hid hbV;have HCb:=hid hcV;clear hbV hcV _he)
  simp only [Act.put]
  clear y0
  have HFBv:=hid ((HCb.out.block fb (zab HFBb.out) (fun e=>by have h1:=zab HFB10.out;have:=HNN.out;omega)).trans HFBb.out)
  go_upto_region 14 with (first
   | (refine zar rfl _ _ rfl _ _ _ _ _ rfl HFBv.out Tryz.underlying110 rfl zcb ?_)
   | (refine zam rfl _ _ _ rfl nb 6 _ #[.int .i64 ((n:Int)+1),.int .i64 sr,.int .i64 sq,.bool mb,.int .i64 mt,.int .i64 mg,.slice (some ⟨Vb.heap.size,0,none⟩) 1 1,.slice ta4 tn4 tc4] _ _ rfl rfl rfl rfl ((((Ext.refl Vb).alloc _).block (zab HNBb.out)).trans HNBb.out) (by simp) rfl zcr ?_;rintro Vd hbV hcV _he;have HNBd:=hid hbV;have HCd:=hid hcV;clear hbV hcV _he))
  have hcT:Chg (·=nb) Wb Vd:=HCb.out.trans ((Chg.of_ext ((Ext.refl Vb).alloc _)).trans HCd.out (fun _ _ e=>e)) (fun _ _ e=>e)
  have hn9:w9.heap.size≤nb:=HX9N.out
  have hpn:p<w9.heap.size:=zab HSA.out.box
  have hB9:∀b∈B9,b<w9.heap.size:=HSA.out.disk.lt
  have hsd:=(HSA.out.ext HXB.out).other hcT (fun e=>by have:=hB9 nb e;omega) (by omega) (fun hn e=>by have:=(HSA.out.off.f hn nb e).2;omega) (fun hn e=>by have:=(HSA.out.off.t hn nb e).2;omega)
  have hVb:Wb.heap.size≤Vb.heap.size:=HCb.out.size
  have hWb:w9.heap.size≤Wb.heap.size:=HXB.out.size
  have hnW:nb<Wb.heap.size:=zab HNB.out
  have hsl:Vd.heap[Vb.heap.size]?=some (.cells #[.string F.nm,.int .i64 F.a,.int .i64 F.b,.int .i64 F.k] 110 (0,0)):=(HCd.out.block Vb.heap.size (by have:=(Ext.refl Vb).alloc (.cells #[.string F.nm,.int .i64 F.a,.int .i64 F.b,.int .i64 F.k] 110 (0,0)) |>.size;exact zab (heap_alloc_new Vb _)) (by omega)).trans (heap_alloc_new Vb _)
  have hin:StoV.In ⟨some ⟨Vb.heap.size,0,none⟩,1,1,ta4,tn4,tc4⟩ Vd ⟨(n:Int)+1,sr,sq,⟨mb,mt,mg⟩,[F],ti⟩ :=
   ⟨src_flc hsl,(HTI.out.chg hcT (fun g hg e=>by rw [zaq] at hg;have:=HTF.out g hg;omega)).src (trs_one _),HKM.out,by show 1<_;omega,by show tn4<_;omega⟩
  have hoff:StoV.Off ⟨some ⟨Vb.heap.size,0,none⟩,1,1,ta4,tn4,tc4⟩ Vd (p::B9):=⟨fun _ g hg=>by
   have e1:Vb.heap.size=g:=by simpa using hg
   subst e1
   refine ⟨fun e=>?_,zab hsl⟩
   rcases yaq.1 e with e|e
   ·omega
   ·have:=hB9 _ e;omega,fun _ g hg=>by
   have h1:=HTF.out g hg
   have h2:=hcT.size
   refine ⟨fun e=>?_,by omega⟩
   rcases yaq.1 e with e|e
   ·omega
   ·have:=hB9 _ e;omega⟩
  have hww:w.heap.size≤w9.heap.size:=HCW.out.1.size
  have hgd:HasET Vd:=(HGW.out.ext HXB.out).chg hcT (fun e=>by have:=HG.out.lt;omega)
  have HINS:=hid (zdu (k:=k+3) (by omega) HIR.out hsd hin hoff hgd)
  have hcw:Chg (·∈B) w Vd:=(HCW.out.1.trans (Chg.of_ext (S:=(·∈B)) HXB.out) (fun _ _ e=>e)).trans hcT (fun i hi e=>by omega)
  have HCWD:=hid hcw
  have HNEW:Hid (StoV.New ⟨some ⟨Vb.heap.size,0,none⟩,1,1,ta4,tn4,tc4⟩ w):=hid ⟨fun g hg=>by have e1:Vb.heap.size=g:=(by simpa using hg);omega,fun g hg=>by have:=HTF.out g hg;omega⟩
  clear hcT hn9 hpn hB9 hsd hVb hWb hnW hsl hin hoff hww hgd hcw
  go_wp2_with (refine zar rfl _ _ rfl _ _ _ _ _ rfl HNBd.out Tryz.underlying66 rfl zaF ?_)
  refine HINS.out.mono ?_
  rintro e we ⟨rfl,hre⟩
  obtain ⟨R2,hR2⟩:∃R2,R2=saveS S9 ⟨(n:Int)+1,sr,sq,⟨mb,mt,mg⟩,[F],ti⟩:=⟨_,rfl⟩
  have HIS:Hid (DInv R2.2 (k+3+4)):=hid (by rw [hR2];exact HIR.out.save _)
  have HR2:=hid hR2.symm
  rw [←hR2] at hre ⊢
  clear hR2
  obtain ⟨z2,S2⟩:=R2
  simp only at hre HIS ⊢
  by_cases hz2:z2=0
  ·subst hz2
   rw [if_pos rfl] at hre
   obtain ⟨B2,h2',c2,n2⟩:=hre
   have HA2:=hid h2'
   have HC2:=hid (And.intro c2 n2)
   clear h2' c2 n2
   go_wp2_with fail
   refine (stoTidy_any HIS.out (by omega) HA2.out (by show 1≤_;omega) (by show tn4≤_;omega)).mono ?_
   rintro e wf ⟨rfl,hto⟩
   have HTO:=hid hto
   clear hto
   go_wp2_with fail
   go_ret
   refine ⟨Q,HQ.out.1,HQ.out.2,?_⟩
   rw [HRE.out,HFS.out]
   unfold TidyTo
   rw [if_neg (by simp),HR2.out,if_neg (by simp)]
   refine ⟨rfl,⟨some ⟨Vb.heap.size,0,none⟩,1,1,ta4,tn4,tc4⟩,rfl,HFL.out.2.symm,HNEW.out,?_⟩
   have h1:=zds.then (w:=Vd) HC2.out.1 HC2.out.2 HTO.out
   exact zds.more HPL.out (HCWD.out.mono (fun i _ e=>.inr e)) HCW.out.2 h1
  ·have hz0:(z2==0)=false:=yam.2 hz2
   have hz1:(z2 != 0)=true:=bne_iff_ne.2 hz2
   rw [if_neg hz2] at hre
   have HRE2:=hid hre
   clear hre
   go_wp2_with fail
   go_ret
   refine ⟨Q,HQ.out.1,HQ.out.2,?_⟩
   rw [HRE.out,HFS.out]
   unfold TidyTo
   rw [if_neg (by simp),HR2.out,if_pos hz2]
   exact ⟨rfl,StoTo.more HCWD.out HCW.out.2 HRE2.out⟩
 ·have hz0:(z==0)=false:=yam.2 hz
  have hz1:(z != 0)=true:=bne_iff_ne.2 hz
  go_wp2_with fail
  go_ret
  refine ⟨Q,HQ.out.1,HQ.out.2,?_⟩
  rw [HRE.out]
  unfold TidyTo
  rw [if_pos hz]
  exact ⟨rfl,StoTo.more HCW.out.1 HCW.out.2 (.same HSA.out ((Ext.refl w9).alloc _))⟩
theorem nameS_bl (c:UInt8) (n:Nat):bl (nameS c n)=c::digs 12 n:=rfl
theorem nameS_inj {c:UInt8}{i j:Nat}(hi:i<1000000000) (hj:j<1000000000) (h:nameS c i=nameS c j):i=j:=by
 have h1:=congrArg bl h
 rw [nameS_bl,nameS_bl] at h1
 have h2:=(List.cons.inj h1).2
 have h3:=numD_digs 12 i 0
 rw [h2,numD_digs 12 j 0] at h3
 have h4:=yaG h3
 rw [Nat.mod_eq_of_lt (by omega),Nat.mod_eq_of_lt (by omega)] at h4
 omega
theorem nameS_ok (c:UInt8) (n:Nat):nameB (nameS c n)=true:=by
 unfold nameB;rw [zdF];decide
theorem nameS_fM (n:Nat):nameS 115 n≠fM:=fun e=>by
 have h:=congrArg ByteArray.size e
 rw [zdF] at h
 simp [fM,ByteArray.size] at h
theorem nameS_fN (n:Nat):nameS 115 n≠fN:=fun e=>by
 have h:=congrArg ByteArray.size e
 rw [zdF] at h
 simp [fN,ByteArray.size] at h
theorem pre_s (n:Nat):Lib.hasPrefix (bl (nameS 115 n)) (bl fS)=true:=by
 rw [nameS_bl]
 show [115].isPrefixOf (115::digs 12 n)=true
 simp [List.isPrefixOf]
theorem pre_r (n:Nat):Lib.hasPrefix (bl (nameS 115 n)) (bl fR)=false:=by
 rw [nameS_bl]
 show [114].isPrefixOf (115::digs 12 n)=false
 simp [List.isPrefixOf]
theorem pre_m:Lib.hasPrefix (bl fM) (bl fS)=false∧Lib.hasPrefix (bl fM) (bl fR)=false:=by
 constructor<;>rfl
theorem zcp {S:DiskS}{p n:ByteArray}:n∈S.list p↔(aget S.files n).isSome=true∧Lib.hasPrefix (bl n) (bl p)=true:=by
 unfold DiskS.list
 rw [(zcA _).mem_iff]
 unfold DiskS.names
 rw [yay,←zcu]
theorem list_nodupS {S:DiskS}(h:(S.files.map (·.1)).Nodup) (p:ByteArray):(S.list p).Nodup:=by
 unfold DiskS.list
 refine (zcA _).symm.nodup ?_
 exact h.filter _
theorem write_ok {S:DiskS}{n:ByteArray}{b:List UInt8}(hn:nameB n=true) (hl:S.left<0) (hg:aget S.files n=none) (hroom:S.used+b.length≤S.room) (hfew:S.files.length<512) (hb:b.length≤1048576) :
 ∃S',zbT S n b=(0,S')∧OpOk S S' (updG (getS S) n (some ⟨b,b.length,true⟩)) b.length 1:=by
 obtain ⟨S1,e1,o1⟩:=append_new hn (by omega) hg hroom hfew hb
 have l1:S1.left=S.left:=by rw [o1.left,zbI hl]
 have g1:aget S1.files n=some ⟨b,0,false⟩:=by rw [o1.get];unfold updG;rw [if_pos rfl]
 obtain ⟨S2,e2,o2⟩:=sync_ok hn (by omega) g1
 refine ⟨S2,?_,⟨fun k=>?_,by rw [o2.room,o1.room],by rw [o2.left,l1],by have:=o1.used;have:=o2.used;omega,by have:=o1.len;have:=o2.len;omega⟩⟩
 ·unfold zbT
  rw [hg]
  unfold thenS
  simp only [Option.isSome_none,Bool.false_eq_true,if_false,if_true,e1,e2]
 ·rw [o2.get]
  unfold updG
  by_cases e:k=n
  ·rw [if_pos e,if_pos e]
  ·rw [if_neg e,if_neg e]
   show aget S1.files k=_
   rw [o1.get]
   unfold updG
   rw [if_neg e]
theorem nm_fN:nameB fN=true:=by decide
theorem nm_fM:nameB fM=true:=by decide
theorem save_ok {S:DiskS}{c:Nat}{s:Sta}(inv:DInv S c) (hl:S.left<0) (hg:aget S.files fN=none) (hr:staR s=true) (hm:s.km.ok) (hroom:S.used+60100≤S.room) (hfew:S.files.length<512) :
 ∃S',saveS S s=(0,S')∧OpOk S S' (updG (getS S) fM (some ⟨sealL 7 (staP s),(sealL 7 (staP s)).length,true⟩)) 60100 1:=by
 have hsl:(sealL 7 (staP s)).length≤60100:=by
  have:=staP_len hr hm
  rw [zbq];omega
 obtain ⟨S1,e1,o1⟩:=append_new (b:=sealL 7 (staP s)) nm_fN (by omega) hg (by omega) hfew (by omega)
 have i1:DInv S1 (c+1):=by have h:=inv.append fN (sealL 7 (staP s));rw [e1] at h;exact h
 have l1:S1.left=S.left:=by rw [o1.left,zbI hl]
 have g1:aget S1.files fN=some ⟨sealL 7 (staP s),0,false⟩:=by rw [o1.get];unfold updG;rw [if_pos rfl]
 obtain ⟨S2,e2,o2⟩:=sync_ok nm_fN (by omega) g1
 have i2:DInv S2 (c+2):=by have h:=i1.sync fN;rw [e2] at h;exact h
 have l2:S2.left=S.left:=by rw [o2.left,zbI (by omega),l1]
 have g2:aget S2.files fN=some ⟨sealL 7 (staP s),(sealL 7 (staP s)).length,true⟩:=by rw [o2.get];unfold updG;rw [if_pos rfl]
 obtain ⟨S3,e3,o3⟩:=rename_ok i2.ok.names nm_fN nm_fM fN_ne (by omega) g2
 refine ⟨S3,?_,⟨fun k=>?_,by rw [o3.room,o2.room,o1.room],by rw [o3.left,zbI (by omega),l2,zbI hl],by have:=o1.used;have:=o2.used;have:=o3.used;omega,by have:=o1.len;have:=o2.len;have:=o3.len;omega⟩⟩
 ·unfold saveS saveA
  rw [if_pos hr,hg]
  unfold thenS
  simp only [Option.isSome_none,Bool.false_eq_true,if_false,if_true,e1,e2,e3]
 ·rw [o3.get]
  unfold updG
  by_cases e:k=fM
  ·rw [if_pos e,if_pos e]
  ·rw [if_neg e,if_neg e]
   by_cases e':k=fN
   ·rw [if_pos e',e'];exact hg.symm
   ·rw [if_neg e']
    show aget S2.files k=_
    rw [o2.get]
    unfold updG
    rw [if_neg e']
    show aget S1.files k=_
    rw [o1.get]
    unfold updG
    rw [if_neg e']
theorem tidy_ok {N:List ByteArray}:∀{L:List ByteArray}{S:DiskS}{c:Nat},DInv S c→S.left<0→L.Nodup→(∀f∈L,(aget S.files f).isSome=true∧nameB f=true) →
 ∃S',zbU N L S=(0,S')∧OpOk S S' (fun k=>if k∈L∧k∉N then none else aget S.files k) 0 0
 | [],S,c,inv,hl,_,_=>⟨S,rfl,⟨fun k=>by simp,rfl,by rw [zbI hl],by omega,by omega⟩⟩
 | f::L,S,c,inv,hl,hn,hL=>by
  obtain ⟨hf,hn⟩:=yaU.1 hn
  by_cases hN:f∈N
  ·obtain ⟨S',e,o⟩:=tidy_ok (N:=N) (L:=L) inv hl hn (fun g hg=>hL g (by simp [hg]))
   refine ⟨S',by rw [zbU,if_pos hN,e],⟨fun k=>?_,o.room,o.left,o.used,o.len⟩⟩
   rw [o.get]
   by_cases hk:k∈L∧k∉N
   ·rw [if_pos hk,if_pos ⟨by simp [hk.1],hk.2⟩]
   ·rw [if_neg hk,if_neg]
    rintro ⟨h1,h2⟩
    rcases yaq.1 h1 with e|e
    ·exact h2 (e▸hN)
    ·exact hk ⟨e,h2⟩
  ·obtain ⟨x,hx⟩:=Option.isSome_iff_exists.1 (hL f (by simp)).1
   obtain ⟨S1,e1,o1⟩:=delete_ok inv.ok.names (hL f (by simp)).2 (by omega) hx
   have i1:DInv S1 (c+1):=by have h:=inv.delete f;rw [e1] at h;exact h
   have l1:S1.left=S.left:=by rw [o1.left,zbI hl]
   have g1:∀g,g≠f→aget S1.files g=aget S.files g:=fun g hg=>by rw [o1.get];unfold updG;rw [if_neg hg]
   obtain ⟨S',e,o⟩:=tidy_ok (N:=N) (L:=L) i1 (by omega) hn (fun g hg=>by
    rw [g1 g (fun e=>hf (e▸hg))]
    exact hL g (by simp [hg]))
   refine ⟨S',?_,⟨fun k=>?_,by rw [o.room,o1.room],by rw [o.left,l1],by have:=o.used;have:=o1.used;omega,by have:=o.len;have:=o1.len;omega⟩⟩
   ·rw [zbU,if_neg hN,e1]
    exact e
   ·rw [o.get]
    by_cases hkf:k=f
    ·subst hkf
     rw [if_pos (show k∈k::L∧k∉N from ⟨by simp,hN⟩),if_neg (fun h=>hf h.1),o1.get]
     unfold updG
     rw [if_pos rfl]
    ·by_cases hk:k∈L∧k∉N
     ·rw [if_pos hk,if_pos ⟨by simp [hk.1],hk.2⟩]
     ·rw [if_neg hk,if_neg,g1 k hkf]
      rintro ⟨h1,h2⟩
      rcases yaq.1 h1 with e|e
      ·exact hkf e
      ·exact hk ⟨e,h2⟩
theorem okV_of:∀{l:List Pt},Rises l→(∀p∈l,-1152921504606846976≤p.t∧p.t≤1152921504606846976∧0≤p.s∧p.s≤1152921504606846976)→(okV l).1=true:=by
 intro l hr hb
 have key:∀k,k≤l.length→(okV (l.take k)).1=true∧((okV (l.take k)).2=-1152921504606846977∨∃(j:Nat) (q:Pt),j<k∧l[j]?=some q∧(okV (l.take k)).2=q.t):=by
  intro k
  induction k with
  | zero=>intro _;exact ⟨rfl,.inl rfl⟩
  | succ k ih =>
   intro hk
   have hp:l[k]?=some l[k]:=yac (by omega)
   obtain ⟨h1,h2⟩:=ih (by omega)
   have hm:=hb l[k] (yaM _)
   have hlt:(okV (l.take k)).2<(l[k]).t:=by
    rcases h2 with e|⟨j,q,hj,hq,e⟩
    ·omega
    ·rw [e];exact hr.at hq hp hj
   rw [okV_next hp]
   refine ⟨?_,.inr ⟨k,l[k],by omega,hp,rfl⟩⟩
   unfold stepV
   simp [h1]
   omega
 have h:=(key l.length (Nat.le_refl _)).1
 rwa [List.take_length] at h
theorem colV_of {l:List Pt}(hr:Rises l) (hb:∀p∈l,-1152921504606846976≤p.t∧p.t≤1152921504606846976∧0≤p.s∧p.s≤1152921504606846976) (h0:0<l.length) (h1:l.length≤4096):colV l=true:=by
 unfold colV
 rw [okV_of hr hb]
 simp only [Bool.true_and,yaK,yaL]
 exact ⟨h0,h1⟩
theorem le_sum_mem:∀{l:List Nat}{x:Nat},x∈l→x≤l.sum
 | y::l,x,h=>by
  rw [yaI]
  rcases yaq.1 h with e|e
  ·omega
  ·have:=le_sum_mem e;omega
theorem span_items {Q:List Prt}(h:PrtsOk Q):-1152921504606846976≤loS (zaw Q)∧loS (zaw Q)≤hiS (zaw Q)∧hiS (zaw Q)≤1152921504606846976∧0<cntL (zaw Q)∧cntL (zaw Q)≤1024:=by
 have hm:=minOf_fold (zaw Q)
 have hs:=h.seg
 obtain ⟨x,hx⟩:∃x,x∈zaw Q:=List.exists_mem_of_length_pos hs.pos
 have h1:=hm.l1 x hx trivial
 have h2:=hm.h1 x hx trivial
 have hxo:=hs.ok x hx
 have e1:=hxo.l1
 have hlo:-1152921504606846976≤loS (zaw Q):=by
  rcases hm.l2 with e|⟨y,hy,e⟩
  ·omega
  ·have:=(hs.ok y hy).l0;omega
 have hhi:hiS (zaw Q)≤1152921504606846976:=by
  rcases hm.h2 with e|⟨y,hy,e⟩
  ·omega
  ·have:=(hs.ok y hy).l2;omega
 have hc:cntL (zaw Q)=manyP Q:=by
  unfold cntL zaw manyP
  rw [List.map_map];rfl
 refine ⟨hlo,?_,hhi,?_,by rw [hc];exact h.many⟩
 ·omega
 ·have hx0:=hxo.n0
  have:x.n≤cntL (zaw Q):=by
   unfold cntL
   exact le_sum_mem (yax hx)
  omega
theorem flR_file {Q:List Prt}(h:PrtsOk Q) (n:Nat):flR (zcW (nameS 115 n) Q)=true:=by
 obtain ⟨h1,h2,h3,h4,h5⟩:=span_items h
 have e:nmB (nameS 115 n)=true:=by unfold nmB;rw [zdF];decide
 have t1:tmB (loS (zaw Q))=true:=by unfold tmB;rw [decide_eq_true (by omega),decide_eq_true (by omega)];rfl
 have t2:tmB (hiS (zaw Q))=true:=by unfold tmB;rw [decide_eq_true (by omega),decide_eq_true (by omega)];rfl
 have t3:z60 (cntL (zaw Q):Int)=true:=by unfold z60 inB;rw [decide_eq_true (by omega),decide_eq_true (by omega)];rfl
 unfold flR zcW
 simp only [e,t1,t2,t3]
 rw [decide_eq_true h2,decide_eq_true (by omega)]
 rfl
abbrev Gs:=List (Nat×List Prt)
def flsOf (G:Gs):List Fl:=G.map fun g=>zcW (nameS 115 g.1) g.2
def km5:Mk:=⟨false,0,5⟩
theorem staR_of {G:Gs}{x r q:Int}(hG:∀g∈G,PrtsOk g.2) (hl:G.length≤512) (hx:0≤x∧x≤1000000) (hr:0≤r∧r≤1000000) (hq:0≤q∧q≤1000000):staR ⟨x,r,q,km5,flsOf G,[]⟩=true:=by
 have h1:(flsOf G).all flR=true:=by
  rw [yaV]
  intro f hf
  obtain ⟨g,hg,rfl⟩:=yap.1 hf
  exact flR_file (hG g hg) _
 have h2:(flsOf G).length≤512:=by unfold flsOf;rw [yaw];exact hl
 have h3:mkR km5=true:=by decide
 have z:∀y:Int,0≤y∧y≤1000000→z60 y=true:=fun y hy=>by unfold z60 inB;rw [decide_eq_true (by omega),decide_eq_true (by omega)];rfl
 unfold staR staB
 simp only [h1,h3,z x hx,z r hr,z q hq]
 rw [decide_eq_true h2]
 rfl
theorem km5_ok:km5.ok:=⟨by decide,by decide,by decide,by decide⟩
def ownSt:Sta:=⟨0,0,0,km5,[],[]⟩
theorem newDisk_invS {room:Int}(h0:0≤room) (h1:room≤1073741824):DInv (zce room) 0:=⟨newDisk_ok h0 h1,Int.le_refl _,by simp [zce],by simp [zce,sumF]⟩
def totG (G:Gs):Nat:=(G.map fun g=>manyP g.2).sum
structure StI (S:DiskS) (s:Sta) (G:Gs) (X c:Nat):Prop where
 st:s=⟨(X:Int),s.r,s.q,km5,flsOf G,[]⟩
 rq:0≤s.r∧s.r≤1000∧s.q=s.r
 num:(G.map Prod.fst).Nodup∧(∀g∈G,g.1<X)∧X≤1000
 ok:∀g∈G,PrtsOk g.2∧∀q∈g.2,∀p∈q.2,-9223372036854775808≤p.v∧p.v≤9223372036854775807
 inv:DInv S c
 left:S.left<0
 room:S.room=16777216
 file:∀g∈G,∃f,aget S.files (nameS 115 g.1)=some f∧f.bytes=segB g.2
 man:(∃f,aget S.files fM=some f∧f.bytes=sealL 7 (staP s))∨(aget S.files fM=none∧s=ownSt)
 keys:∀n,(aget S.files n).isSome=true→n=fM∨∃g∈G,n=nameS 115 g.1
 few:G.length≤30
 tot:totG G≤600
theorem StI.x {S:DiskS}{s:Sta}{G:Gs}{X c:Nat}(h:StI S s G X c):s.x=(X:Int):=by rw [h.st]
theorem StI.fl {S:DiskS}{s:Sta}{G:Gs}{X c:Nat}(h:StI S s G X c):s.fl=flsOf G:=by rw [h.st]
theorem StI.ti {S:DiskS}{s:Sta}{G:Gs}{X c:Nat}(h:StI S s G X c):s.ti=[]:=by rw [h.st]
theorem StI.km {S:DiskS}{s:Sta}{G:Gs}{X c:Nat}(h:StI S s G X c):s.km=km5:=by rw [h.st]
theorem StI.r {S:DiskS}{s:Sta}{G:Gs}{X c:Nat}(h:StI S s G X c):staR s=true:=by
 have h1:=h.rq
 have h2:=h.num.2.2
 have h3:=h.few
 rw [h.st]
 exact staR_of (fun g hg=>(h.ok g hg).1) (by omega) (by omega) (by omega) (by omega)
theorem StI.kmok {S:DiskS}{s:Sta}{G:Gs}{X c:Nat}(h:StI S s G X c):s.km.ok:=by rw [h.km];exact km5_ok
theorem StI.seal {S:DiskS}{s:Sta}{G:Gs}{X c:Nat}(h:StI S s G X c):(sealL 7 (staP s)).length≤60100:=by
 have:=staP_len h.r h.kmok
 rw [zbq];omega
theorem StI.len {S:DiskS}{s:Sta}{G:Gs}{X c:Nat}(h:StI S s G X c):S.files.length≤31:=by
 have h1:=nodup_le h.inv.ok.names (b:=fM::G.map fun g=>nameS 115 g.1) (fun n hn=>by
  rcases h.keys n (zcu.2 hn) with e|⟨g,hg,e⟩
  ·rw [e];simp
  ·rw [e];exact yaD _ (yax (f:=fun g:Nat×List Prt=>nameS 115 g.1) hg))
 have:=h.few
 simp at h1
 omega
theorem sum_le_mul {l:List Nat}{k:Nat}(h:∀x∈l,x≤k):l.sum≤l.length*k:=by
 induction l with
 | nil=>simp
 | cons x l ih =>
  have h1:=ih (fun y hy=>h y (by simp [hy]))
  have h2:=h x (by simp)
  rw [yaI,List.length_cons,Nat.succ_mul];omega
theorem StI.used {S:DiskS}{s:Sta}{G:Gs}{X c:Nat}(h:StI S s G X c):S.used≤5177000:=by
 rw [h.inv.sum]
 have h1:sumF S.files≤S.files.length*167000:=by
  unfold sumF
  have:=sum_le_mul (l:=S.files.map fun p=>p.2.bytes.length) (k:=167000) (fun x hx=>by
   obtain ⟨p,hp,rfl⟩:=yap.1 hx
   have hg:=aget_of_mem h.inv.ok.names (k:=p.1) (v:=p.2) hp
   rcases h.keys p.1 (by rw [hg];rfl) with e|⟨g,hgG,e⟩
   ·rcases h.man with ⟨f,hf,hb⟩|⟨hn,_⟩
    ·rw [←e,hg] at hf
     cases hf
     rw [hb]
     have:=h.seal;omega
    ·rw [←e,hg] at hn;cases hn
   ·obtain ⟨f,hf,hb⟩:=h.file g hgG
    rw [←e,hg] at hf
    cases hf
    rw [hb]
    exact segB_len (h.ok g hgG).1)
  rwa [yaw] at this
 have h2:=h.len
 have h3:S.files.length*167000≤31*167000:=Nat.mul_le_mul_right _ h2
 omega
theorem StI.noN {S:DiskS}{s:Sta}{G:Gs}{X c:Nat}(h:StI S s G X c):aget S.files fN=none:=by
 cases hg:aget S.files fN with
 | none=>rfl
 | some f =>
  rcases h.keys fN (by rw [hg];rfl) with e|⟨g,_,e⟩
  ·exact absurd e fN_ne
  ·exact absurd e.symm (nameS_fN _)
theorem StI.noX {S:DiskS}{s:Sta}{G:Gs}{X c k:Nat}(h:StI S s G X c) (hk:X≤k) (hk2:k<1000000):aget S.files (nameS 115 k)=none:=by
 cases hg:aget S.files (nameS 115 k) with
 | none=>rfl
 | some f =>
  rcases h.keys _ (by rw [hg];rfl) with e|⟨g,hgG,e⟩
  ·exact absurd e (nameS_fM _)
  ·have h1:=h.num.2.1 g hgG
   have h2:=h.num.2.2
   have:=nameS_inj (by omega) (by omega) e
   omega
theorem StI.load {S:DiskS}{s:Sta}{G:Gs}{X c:Nat}(h:StI S s G X c):(aget S.files fM).isSome=true→loadS S=(s,true,0):=by
 intro hs
 rcases h.man with ⟨f,hf,hb⟩|⟨hn,_⟩
 ·unfold loadS
  rw [hf]
  show loadO (staRd f.bytes)=_
  rw [hb,staRd_seal h.r h.kmok (by have:=staP_len h.r h.kmok;omega)]
  rfl
 ·rw [hn] at hs;simp at hs
theorem names_flsOf (G:Gs) (x r q:Int) (m:Mk):zbH ⟨x,r,q,m,flsOf G,[]⟩=G.map fun g=>nameS 115 g.1:=by
 unfold zbH madeN flsOf
 simp [zcW,Function.comp_def]
theorem StI.names {S:DiskS}{s:Sta}{G:Gs}{X c:Nat}(h:StI S s G X c):zbH s=G.map fun g=>nameS 115 g.1:=by rw [h.st];exact names_flsOf G _ _ _ _
theorem StI.listR {S:DiskS}{s:Sta}{G:Gs}{X c:Nat}(h:StI S s G X c):S.list fR=[]:=by
 cases hl:S.list fR with
 | nil=>rfl
 | cons f L =>
  have hm:f∈S.list fR:=by rw [hl];simp
  obtain ⟨h1,h2⟩:=zcp.1 hm
  rcases h.keys f h1 with e|⟨g,_,e⟩
  ·rw [e,pre_m.2] at h2;cases h2
  ·rw [e,pre_r] at h2;cases h2
theorem StI.listS {S:DiskS}{s:Sta}{G:Gs}{X c:Nat}(h:StI S s G X c) {f:ByteArray}(hf:f∈S.list fS):∃g∈G,f=nameS 115 g.1:=by
 obtain ⟨h1,h2⟩:=zcp.1 hf
 rcases h.keys f h1 with e|h
 ·rw [e,pre_m.1] at h2;cases h2
 ·exact h
theorem tidyGo_own_all {N:List ByteArray}:∀{L:List ByteArray}(S:DiskS),(∀f∈L,f∈N)→zbU N L S=(0,S)
 | [],S,_=>rfl
 | f::L,S,h=>by rw [zbU,if_pos (h f (by simp)),tidyGo_own_all S (fun g hg=>h g (by simp [hg]))]
theorem StI.tidy {S:DiskS}{s:Sta}{G:Gs}{X c:Nat}(h:StI S s G X c):tidyS S s=(0,S):=by
 unfold tidyS
 refine tidyGo_own_all S (fun f hf=>?_)
 rw [h.names]
 unfold tidyL at hf
 rw [h.listR,yaP] at hf
 obtain ⟨g,hg,rfl⟩:=h.listS hf
 exact yax (f:=fun g:Nat×List Prt=>nameS 115 g.1) hg
theorem StI.rest {S:DiskS}{s:Sta}{G:Gs}{X c:Nat}(h:StI S s G X c):restK S s=(0,s):=by
 unfold restK
 rw [if_pos]
 rw [yaV]
 intro n hn
 rw [h.names] at hn
 obtain ⟨g,hg,rfl⟩:=yap.1 hn
 obtain ⟨f,hf,_⟩:=h.file g hg
 rw [hf];rfl
theorem alike_own {G:Gs}{x r q:Int}:alikeB ownSt ⟨x,r,q,km5,flsOf G,[]⟩=true:=rfl
theorem StI.open {S:DiskS}{s:Sta}{G:Gs}{X c:Nat}(h:StI S s G X c):stoK S ownSt (alikeB ownSt)=(0,s):=by
 unfold stoK
 rcases h.man with ⟨f,hf,_⟩|⟨hn,hs⟩
 ·have hl:=h.load (by rw [hf];rfl)
  rw [hl]
  simp only [ne_eq,not_true,if_false,if_true]
  rw [if_pos (by rw [h.st];exact alike_own)]
  exact h.rest
 ·have hl:loadS S=(staZ,false,0):=by unfold loadS;rw [hn]
  rw [hl]
  simp only [ne_eq,not_true,if_false]
  rw [if_neg (by simp),←hs]
  exact h.rest
theorem start_I:StI (zce 16777216) ownSt [] 0 0 where
 st:=rfl
 rq:=⟨by decide,by decide,rfl⟩
 num:=⟨by simp,by simp,by omega⟩
 ok:=by simp
 inv:=newDisk_invS (by decide) (by decide)
 left:=by show (-1:Int)<0;decide
 room:=rfl
 file:=by simp
 man:=.inr ⟨rfl,rfl⟩
 keys:=fun n hn=>by simp [zce,aget] at hn
 few:=by simp
 tot:=by simp [totG]
theorem flsOf_snoc (G:Gs) (n:Nat) (Q:List Prt):flsOf (G++[(n,Q)])=flsOf G++[zcW (nameS 115 n) Q]:=by simp [flsOf]
theorem totG_snoc (G:Gs) (n:Nat) (Q:List Prt):totG (G++[(n,Q)])=totG G+manyP Q:=by simp [totG]
theorem StI.flush_eq {S:DiskS}{s:Sta}{G:Gs}{X c:Nat}(h:StI S s G X c) (i:Int) (Q:List Prt):flushSt s X i i km5 Q=⟨((X+1:Nat):Int),i,i,km5,flsOf (G++[(X,Q)]),[]⟩:=by
 unfold flushSt
 rw [flsOf_snoc,h.fl,h.ti]
 simp
theorem put_file {S:DiskS}{s:Sta}{G:Gs}{X c:Nat}(h:StI S s G X c) {Q:List Prt}(hQ:PrtsOk Q) (hX:X<1000) {s':Sta}(hr:staR s'=true) (hm:s'.km.ok) :
 ∃S1 S2,zbT S (nameS 115 X) (segB Q)=(0,S1)∧saveS S1 s'=(0,S2)∧DInv S2 (c+7)∧S2.left<0∧S2.room=16777216 ∧
  ∀k,aget S2.files k=if k=fM then some ⟨sealL 7 (staP s'),(sealL 7 (staP s')).length,true⟩ else if k=nameS 115 X then some ⟨segB Q,(segB Q).length,true⟩ else aget S.files k:=by
 have hu:=h.used
 have hl:=h.len
 have hb:=segB_len hQ
 have hrm:=h.room
 have hlf:=h.left
 obtain ⟨S1,e1,o1⟩:=write_ok (nameS_ok 115 X) h.left (h.noX (Nat.le_refl _) (by omega)) (b:=segB Q) (by omega) (by omega) (by omega)
 have i1:DInv S1 (c+3):=by have h:=h.inv.write (nameS 115 X) (segB Q);rw [e1] at h;exact h
 have l1:S1.left=S.left:=by rw [o1.left,zbI hlf]
 have n1:aget S1.files fN=none:=by
  rw [o1.get];unfold updG
  rw [if_neg (fun e=>nameS_fN X e.symm)]
  exact h.noN
 obtain ⟨S2,e2,o2⟩:=save_ok i1 (by omega) n1 hr hm (by have:=o1.used;have:=o1.room;omega) (by have:=o1.len;omega)
 have i2:DInv S2 (c+7):=by have h:=i1.save s';rw [e2] at h;exact h
 refine ⟨S1,S2,e1,e2,i2,by rw [o2.left,zbI (by omega)];omega,by rw [o2.room,o1.room];exact hrm,fun k=>?_⟩
 rw [o2.get]
 unfold updG
 by_cases e:k=fM
 ·rw [if_pos e,if_pos e]
 ·rw [if_neg e,if_neg e]
  show aget S1.files k=_
  rw [o1.get]
  unfold updG
  by_cases e':k=nameS 115 X
  ·rw [if_pos e']
  ·rw [if_neg e']
theorem step_flush {S:DiskS}{s:Sta}{G:Gs}{X c:Nat}(h:StI S s G X c) {Q:List Prt}(hQ:PrtsOk Q) (hv:∀q∈Q,∀p∈q.2,-9223372036854775808≤p.v∧p.v≤9223372036854775807) {i:Int}(hi:s.r≤i∧i≤1000) (hG:G.length<30) (hX:X<1000) (ht:totG G+manyP Q≤600) :
 ∃S1 S2,zbT S (nameS 115 X) (segB Q)=(0,S1)∧saveS S1 (flushSt s X i i km5 Q)=(0,S2)∧StI S2 (flushSt s X i i km5 Q) (G++[(X,Q)]) (X+1) (c+7):=by
 have h0:=h.rq
 have hok:∀g∈G++[(X,Q)],PrtsOk g.2∧∀q∈g.2,∀p∈q.2,-9223372036854775808≤p.v∧p.v≤9223372036854775807:=fun g hg=>by
  rcases yah.1 hg with e|e
  ·exact h.ok g e
  ·obtain rfl:=yal.1 e
   exact ⟨hQ,hv⟩
 have hr:staR (flushSt s X i i km5 Q)=true:=by
  rw [h.flush_eq]
  exact staR_of (fun g hg=>(hok g hg).1) (by simp;omega) (by omega) (by omega) (by omega)
 obtain ⟨S1,S2,e1,e2,i2,l2,r2,g2⟩:=put_file h hQ hX hr (by rw [h.flush_eq];exact km5_ok)
 have hne:∀g∈G,nameS 115 g.1≠nameS 115 X:=fun g hg e=>by
  have h1:=h.num.2.1 g hg
  have h2:=h.num.2.2
  have:=nameS_inj (by omega) (by omega) e
  omega
 refine ⟨S1,S2,e1,e2,?_⟩
 refine { st:=h.flush_eq i Q,rq:=⟨by show 0≤i;omega,hi.2,rfl⟩,num:=⟨?_,fun g hg=>?_,by omega⟩,ok:=hok,inv:=i2,left:=l2,room:=r2,file:=fun g hg=>?_,man:=.inl ⟨_,by rw [g2,if_pos rfl],rfl⟩,keys:=fun k hk=>?_,few:=by simp;omega,tot:=by rw [totG_snoc];exact ht }
 ·rw [yav,List.nodup_append]
  refine ⟨h.num.1,by simp,fun a ha b hb e=>?_⟩
  obtain ⟨g,hg,rfl⟩:=yap.1 ha
  have:b=X:=by simpa using hb
  have:=h.num.2.1 g hg
  omega
 ·rcases yah.1 hg with e|e
  ·have:=h.num.2.1 g e;omega
  ·obtain rfl:=yal.1 e
   exact Nat.lt_succ_self X
 ·rcases yah.1 hg with e|e
  ·rw [g2,if_neg (nameS_fM _),if_neg (hne g e)]
   exact h.file g e
  ·obtain rfl:=yal.1 e
   exact ⟨_,by rw [g2,if_neg (nameS_fM _),if_pos rfl],rfl⟩
 ·rw [g2] at hk
  by_cases e:k=fM
  ·exact .inl e
  ·rw [if_neg e] at hk
   by_cases e':k=nameS 115 X
   ·exact .inr ⟨(X,Q),by simp,e'⟩
   ·rw [if_neg e'] at hk
    rcases h.keys k hk with h1|⟨g,hg,h1⟩
    ·exact .inl h1
    ·exact .inr ⟨g,by simp [hg],h1⟩
theorem StI.comp_eq {S:DiskS}{s:Sta}{G:Gs}{X c:Nat}(h:StI S s G X c) (Q:List Prt):zdI s X Q=⟨((X+1:Nat):Int),s.r,s.q,km5,flsOf [(X,Q)],[]⟩:=by
 unfold zdI
 rw [h.km,h.ti]
 simp [flsOf]
theorem step_compact {S:DiskS}{s:Sta}{G:Gs}{X c:Nat}(h:StI S s G X c) {Q:List Prt}(hQ:PrtsOk Q) (hv:∀q∈Q,∀p∈q.2,-9223372036854775808≤p.v∧p.v≤9223372036854775807) (hX:X<1000) (ht:manyP Q≤600) :
 ∃S1 S2 S3,zbT S (nameS 115 X) (segB Q)=(0,S1)∧saveS S1 (zdI s X Q)=(0,S2)∧tidyS S2 (zdI s X Q)=(0,S3)∧StI S3 (zdI s X Q) [(X,Q)] (X+1) (c+1031):=by
 have h0:=h.rq
 have hok:∀g∈[(X,Q)],PrtsOk g.2∧∀q∈g.2,∀p∈q.2,-9223372036854775808≤p.v∧p.v≤9223372036854775807:=fun g hg=>by
  obtain rfl:=yal.1 hg
  exact ⟨hQ,hv⟩
 have hr:staR (zdI s X Q)=true:=by
  rw [h.comp_eq]
  exact staR_of (fun g hg=>(hok g hg).1) (by simp) (by omega) (by omega) (by omega)
 obtain ⟨S1,S2,e1,e2,i2,l2,r2,g2⟩:=put_file h hQ hX hr (by rw [h.comp_eq];exact km5_ok)
 have hN:zbH (zdI s X Q)=[nameS 115 X]:=by rw [h.comp_eq,names_flsOf];rfl
 have hkeys:∀k,(aget S2.files k).isSome=true→k=fM∨∃n,k=nameS 115 n:=fun k hk=>by
  rw [g2] at hk
  by_cases e:k=fM
  ·exact .inl e
  ·rw [if_neg e] at hk
   by_cases e':k=nameS 115 X
   ·exact .inr ⟨X,e'⟩
   ·rw [if_neg e'] at hk
    rcases h.keys k hk with h1|⟨g,_,h1⟩
    ·exact .inl h1
    ·exact .inr ⟨_,h1⟩
 have hR:S2.list fR=[]:=by
  cases hl:S2.list fR with
  | nil=>rfl
  | cons f L =>
   have hm:f∈S2.list fR:=by rw [hl];simp
   obtain ⟨h1,h2⟩:=zcp.1 hm
   rcases hkeys f h1 with e|⟨n,e⟩
   ·rw [e,pre_m.2] at h2;cases h2
   ·rw [e,pre_r] at h2;cases h2
 have hL:tidyL S2=S2.list fS:=by unfold tidyL;rw [hR];rfl
 obtain ⟨S3,e3,o3⟩:=tidy_ok (N:=zbH (zdI s X Q)) (L:=tidyL S2) i2 l2 (by rw [hL];exact list_nodupS i2.ok.names _) (fun f hf=>by
  rw [hL] at hf
  obtain ⟨h1,h2⟩:=zcp.1 hf
  refine ⟨h1,?_⟩
  rcases hkeys f h1 with e|⟨n,e⟩
  ·rw [e,pre_m.1] at h2;cases h2
  ·rw [e];exact nameS_ok _ _)
 have i3:DInv S3 (c+1031):=by
  have h3:=i2.tidy (N:=zbH (zdI s X Q)) (L:=tidyL S2)
  rw [e3] at h3
  exact h3.mono (by have:=(tidyL_small i2).1;omega)
 have g3:∀k,aget S3.files k=if k=fM then some ⟨sealL 7 (staP (zdI s X Q)),(sealL 7 (staP (zdI s X Q))).length,true⟩ else if k=nameS 115 X then some ⟨segB Q,(segB Q).length,true⟩ else none:=fun k=>by
  rw [o3.get]
  by_cases e:k=fM
  ·rw [if_pos e,if_neg,g2,if_pos e]
   rintro ⟨h1,_⟩
   rw [hL] at h1
   have h2:=(zcp.1 h1).2
   rw [e,pre_m.1] at h2;cases h2
  ·rw [if_neg e]
   by_cases e':k=nameS 115 X
   ·rw [if_pos e',if_neg,g2,if_neg e,if_pos e']
    rintro ⟨_,h1⟩
    exact h1 (by rw [hN,e'];simp)
   ·rw [if_neg e']
    by_cases hk:(aget S2.files k).isSome=true
    ·rw [if_pos]
     refine ⟨?_,by rw [hN];simpa using e'⟩
     rw [hL]
     refine zcp.2 ⟨hk,?_⟩
     rcases hkeys k hk with h1|⟨n,h1⟩
     ·exact absurd h1 e
     ·rw [h1];exact pre_s n
    ·have hk2:aget S2.files k=none:=by simpa using hk
     rw [hk2]
     split<;>rfl
 refine ⟨S1,S2,S3,e1,e2,e3,?_⟩
 refine { st:=h.comp_eq Q,rq:=h0,num:=⟨by simp,fun g hg=>?_,by omega⟩,ok:=hok,inv:=i3,left:=by rw [o3.left,zbI l2];exact l2,room:=by rw [o3.room];exact r2,file:=fun g hg=>?_,man:=.inl ⟨_,by rw [g3,if_pos rfl],rfl⟩,keys:=fun k hk=>?_,few:=by simp,tot:=by simp [totG];exact ht }
 ·obtain rfl:=yal.1 hg
  exact Nat.lt_succ_self X
 ·obtain rfl:=yal.1 hg
  exact ⟨_,by rw [g3,if_neg (nameS_fM _),if_pos rfl],rfl⟩
 ·rw [g3] at hk
  by_cases e:k=fM
  ·exact .inl e
  ·rw [if_neg e] at hk
   by_cases e':k=nameS 115 X
   ·exact .inr ⟨(X,Q),by simp,e'⟩
   ·rw [if_neg e'] at hk;cases hk
def ofN:List Prt→ByteArray→List Pt
 | [],_=>[]
 | q::Q,n=>if q.1=n then q.2 else ofN Q n
theorem ofN_out:∀{Q:List Prt}{n:ByteArray},n∉Q.map Prod.fst→ofN Q n=[]
 | [],_,_=>rfl
 | q::Q,n,h=>by
  rw [ofN,if_neg (fun e=>h (by simp [e])),ofN_out (fun e=>h (by simp at e ⊢;exact .inr e))]
theorem ofN_at:∀{Q:List Prt}{n:ByteArray},n∈Q.map Prod.fst→∃(i:Nat) (q:Prt),Q[i]?=some q∧q.1=n∧ofN Q n=q.2
 | [],n,h=>by simp at h
 | q::Q,n,h=>by
  by_cases e:q.1=n
  ·exact ⟨0,q,rfl,e,by rw [ofN,if_pos e]⟩
  ·obtain ⟨i,r,h1,h2,h3⟩:=ofN_at (Q:=Q) (n:=n) (by
    rw [yaJ,yaq] at h
    exact h.resolve_left (fun x=>e x.symm))
   exact ⟨i+1,r,by simpa using h1,h2,by rw [ofN,if_neg e,h3]⟩
def VOk (l:List Pt):Prop:=∀p∈l,-9223372036854775808≤p.v∧p.v≤9223372036854775807
theorem hasP_of {Q:List Prt}(h:PrtsOk Q) (hv:∀q∈Q,VOk q.2) (n:ByteArray):HasP (zaw Q) n (ofN Q n):=by
 rcases Classical.em (n∈Q.map Prod.fst) with hn|hn
 ·obtain ⟨i,q,h1,h2,h3⟩:=ofN_at hn
  have hm:=yag h1
  rw [h3]
  exact .inr ⟨i,itemOf q,by unfold zaw;rw [yar,h1];rfl,h2,⟨rfl,rfl,rfl,rfl,h.col q hm,hv q hm⟩⟩
 ·exact .inl ⟨by rw [namesI_of];exact hn,ofN_out hn⟩
theorem sum_ite {N:List ByteArray}(h:N.Nodup) (m:ByteArray) (c:Nat):(N.map fun n=>if m=n then c else 0).sum≤c:=by
 induction N with
 | nil=>simp
 | cons n N ih =>
  obtain ⟨h1,h2⟩:=yaU.1 h
  rw [yaJ,yaI]
  by_cases e:m=n
  ·rw [if_pos e]
   have:(N.map fun n=>if m=n then c else 0).sum=0:=by
    have:∀(M:List ByteArray),m∉M→(M.map fun n=>if m=n then c else 0).sum=0:=by
     intro M
     induction M with
     | nil=>simp
     | cons x M ih =>
      intro hx
      rw [yaJ,yaI,if_neg (fun e=>hx (by simp [e])),ih (fun e=>hx (by simp [e]))]
    exact this N (by rw [e];exact h1)
   omega
  ·rw [if_neg e]
   have:=ih h2
   omega
theorem sum_add (N:List ByteArray) (f g:ByteArray→Nat):(N.map fun n=>f n+g n).sum=(N.map f).sum+(N.map g).sum:=by
 induction N with
 | nil=>rfl
 | cons n N ih=>simp only [yaJ,yaI,ih];omega
theorem sum_le {N:List ByteArray}{f g:ByteArray→Nat}(h:∀n∈N,f n≤g n):(N.map f).sum≤(N.map g).sum:=by
 induction N with
 | nil=>simp
 | cons n N ih =>
  have h1:=h n (by simp)
  have h2:=ih (fun m hm=>h m (by simp [hm]))
  simp only [yaJ,yaI];omega
theorem ofN_sum {N:List ByteArray}(h:N.Nodup):∀(Q:List Prt),(N.map fun n=>(ofN Q n).length).sum≤manyP Q
 | []=>by
  have:(N.map fun n=>(ofN [] n).length)=N.map fun _=>0:=rfl
  rw [this]
  clear h this
  induction N with
  | nil=>simp
  | cons n N ih=>simp only [yaJ,yaI];omega
 | q::Q=>by
  have e:manyP (q::Q)=q.2.length+manyP Q:=by simp [manyP]
  have h1:=ofN_sum h Q
  have h2:=sum_ite h q.1 q.2.length
  have h3:(N.map fun n=>(ofN (q::Q) n).length).sum≤(N.map fun n=>(if q.1=n then q.2.length else 0)+(ofN Q n).length).sum:=sum_le (fun n _=>by
   rw [ofN]
   split<;>omega)
  rw [sum_add] at h3
  omega
def holdG (G:Gs) (n:ByteArray):List (List Pt):=G.map fun g=>ofN g.2 n
theorem holdG_sum {N:List ByteArray}(h:N.Nodup):∀(G:Gs),(N.map fun n=>((holdG G n).map List.length).sum).sum≤totG G
 | []=>by
  have:(N.map fun n=>((holdG [] n).map List.length).sum)=N.map fun _=>0:=rfl
  rw [this]
  clear h this
  induction N with
  | nil=>simp
  | cons n N ih=>simp only [yaJ,yaI];omega
 | g::G=>by
  have e:totG (g::G)=manyP g.2+totG G:=by simp [totG]
  have h1:=holdG_sum h G
  have h2:=ofN_sum h g.2
  have h3:(N.map fun n=>((holdG (g::G) n).map List.length).sum)=N.map fun n=>(ofN g.2 n).length+((holdG G n).map List.length).sum:=by
   refine List.map_congr_left fun n _=>?_
   simp [holdG]
  rw [h3,sum_add]
  omega
theorem holdG_one (G:Gs) (n:ByteArray):((holdG G n).map List.length).sum≤totG G:=by
 have:=holdG_sum (N:=[n]) (by simp) G
 simpa using this
theorem holdG_at {G:Gs}{n:ByteArray}{l:List Pt}(h:l∈holdG G n):∃g∈G,l=ofN g.2 n:=by
 obtain ⟨g,hg,rfl⟩:=yap.1 h
 exact ⟨g,hg,rfl⟩
def OkG (G:Gs):Prop:=∀g∈G,PrtsOk g.2∧∀q∈g.2,VOk q.2
theorem zec {G:Gs}(h:OkG G) (n:ByteArray):∀l∈holdG G n,Rises l:=fun l hl=>by
 obtain ⟨g,hg,rfl⟩:=holdG_at hl
 exact (hasP_of (h g hg).1 (h g hg).2 n).rises
theorem holdG_point {G:Gs}(h:OkG G) {n:ByteArray}{l:List Pt}(hl:l∈holdG G n) {p:Pt}(hp:p∈l):(-1152921504606846976≤p.t∧p.t≤1152921504606846976∧0≤p.s∧p.s≤1152921504606846976)∧-9223372036854775808≤p.v∧p.v≤9223372036854775807:=by
 obtain ⟨g,hg,rfl⟩:=holdG_at hl
 rcases hasP_of (h g hg).1 (h g hg).2 n with ⟨_,e⟩|⟨_,_,_,_,hi⟩
 ·rw [e] at hp;simp at hp
 ·exact ⟨colV_mem hi.col hp,hi.v p hp⟩
theorem cut_all {l:List Pt}(h:∀p∈l,-1152921504606846976≤p.t∧p.t≤1152921504606846976):cutL (-1152921504606846976) 1152921504606846977 l=l:=by
 unfold cutL
 rw [List.filter_eq_self]
 intro p hp
 have:=h p hp
 simp;omega
theorem holdG_whole {G:Gs}(h:OkG G) (n:ByteArray):(holdG G n).map (cutL (-1152921504606846976) 1152921504606846977)=holdG G n:=by
 conv=>rhs;rw [←List.map_id (holdG G n)]
 refine List.map_congr_left fun l hl=>cut_all fun p hp=>?_
 have:=holdG_point h hl hp
 exact ⟨this.1.1,this.1.2.1⟩
theorem StI.okG {S:DiskS}{s:Sta}{G:Gs}{X c:Nat}(h:StI S s G X c):OkG G:=h.ok
theorem StI.onDisk {S:DiskS}{s:Sta}{G:Gs}{X c:Nat}(h:StI S s G X c) {k:Nat}{F:Fl}(hF:s.fl[k]?=some F):∃g,G[k]?=some g∧F=zcW (nameS 115 g.1) g.2∧g∈G∧OnDisk S F (zaw g.2):=by
 rw [h.fl] at hF
 unfold flsOf at hF
 rw [yar] at hF
 cases hg:G[k]? with
 | none=>rw [hg] at hF;cases hF
 | some g =>
  rw [hg] at hF
  have e:F=zcW (nameS 115 g.1) g.2:=(yaG hF).symm
  have hm:=yag hg
  subst e
  exact ⟨g,rfl,rfl,hm,⟨h.file g hm,(h.ok g hm).1.seg,rfl,rfl,rfl⟩⟩
theorem StI.flLen {S:DiskS}{s:Sta}{G:Gs}{X c:Nat}(h:StI S s G X c):s.fl.length=G.length:=by rw [h.fl];simp [flsOf]
theorem StI.holdP {S:DiskS}{s:Sta}{G:Gs}{X c:Nat}(h:StI S s G X c) (n:ByteArray):HoldP S s.fl n (holdG G n):=by
 refine ⟨by rw [h.flLen];simp [holdG],fun k F l hF hl=>?_⟩
 obtain ⟨g,hg,_,hm,ho⟩:=h.onDisk hF
 unfold holdG at hl
 rw [yar,hg] at hl
 have e:l=ofN g.2 n:=(yaG hl).symm
 subst e
 exact ⟨_,ho,hasP_of (h.ok g hm).1 (h.ok g hm).2 n⟩
def zcR (G:Gs):List (List SegI):=G.map fun g=>zaw g.2
theorem StI.holdS {S:DiskS}{s:Sta}{G:Gs}{X c:Nat}(h:StI S s G X c):HoldS S s.fl (zcR G):=by
 refine ⟨by rw [h.flLen];simp [zcR],fun k F L hF hL=>?_⟩
 obtain ⟨g,hg,_,_,ho⟩:=h.onDisk hF
 unfold zcR at hL
 rw [yar,hg] at hL
 have e:L=zaw g.2:=(yaG hL).symm
 subst e
 exact ho
theorem StI.holdFew {S:DiskS}{s:Sta}{G:Gs}{X c:Nat}(h:StI S s G X c) (n:ByteArray):(holdG G n).length+((holdG G n).map List.length).sum<4000:=by
 have h1:=holdG_one G n
 have h2:=h.tot
 have h3:=h.few
 have h4:(holdG G n).length=G.length:=by simp [holdG]
 omega
theorem compS_rises {l:List ByteArray}(h:l.Pairwise fun a b=>bl a≤bl b):(compS l).Pairwise fun a b=>bl a<bl b:=by
 unfold compS Lib.compact
 have hp:(compactUpTo (l.map bl).toArray (l.map bl).length).Pairwise (·< ·):=by
  refine upTo_rises (fun i j hij hj=>?_) (by simp)
  have hj':j<l.length:=by simpa using hj
  rw [getElem!_pos _ i (by simp;omega),getElem!_pos _ j hj]
  simpa using List.pairwise_iff_getElem.1 h i j (by omega) hj' hij
 rw [List.pairwise_map]
 refine hp.imp fun {a b} hab=>?_
 rw [bl_lb,bl_lb]
 exact hab
theorem allNames_mem {G:Gs}{n:ByteArray}:n∈zbd (zcR G)↔∃g∈G,n∈g.2.map Prod.fst:=by
 unfold zbd
 rw [compS_mem,(zcA _).mem_iff,List.mem_flatMap]
 unfold zcR
 constructor
 ·rintro ⟨L,hL,hn⟩
  obtain ⟨g,hg,rfl⟩:=yap.1 hL
  exact ⟨g,hg,by rw [namesI_of] at hn;exact hn⟩
 ·rintro ⟨g,hg,hn⟩
  exact ⟨_,yax hg,by rw [namesI_of];exact hn⟩
theorem allNames_rises (LS:List (List SegI)):(zbd LS).Pairwise fun a b=>bl a<bl b:=compS_rises (zdm _)
theorem allNames_nodup (LS:List (List SegI)):(zbd LS).Nodup:=compS_nodup (zdm _)
structure AllQ (G:Gs) (Q:List Prt):Prop where
 nm:Q.map Prod.fst=zbd (zcR G)
 mg:∀q∈Q,IsMerge (((holdG G q.1).map (cutL (-1152921504606846976) 1152921504606846977)).filter neL) q.2
theorem AllQ.isM {G:Gs}{Q:List Prt}(h:AllQ G Q) (hG:OkG G) {q:Prt}(hq:q∈Q):IsMerge ((holdG G q.1).filter neL) q.2:=by
 have:=h.mg q hq
 rwa [holdG_whole hG] at this
theorem neRises {H:List (List Pt)}(h:∀l∈H,Rises l):∀l∈H.filter neL,Rises l:=fun l hl=>h l (yay.1 hl).1
theorem AllQ.eqv {G:Gs}{Q:List Prt}(h:AllQ G Q) (hG:OkG G) {q:Prt}(hq:q∈Q):EqvL (holdG G q.1) [q.2] :=
 (eqv_ne _).symm.trans (EqvL.merged (neRises (zec hG q.1)) (h.isM hG hq))
theorem AllQ.point {G:Gs}{Q:List Prt}(h:AllQ G Q) (hG:OkG G) {q:Prt}(hq:q∈Q) {p:Pt}(hp:p∈q.2):∃l∈holdG G q.1,p∈l:=by
 have:=(h.eqv hG hq p).2 (best_one.2 hp)
 exact this.mem
theorem AllQ.v {G:Gs}{Q:List Prt}(h:AllQ G Q) (hG:OkG G):∀q∈Q,VOk q.2:=fun q hq p hp=>by
 obtain ⟨l,hl,hpl⟩:=h.point hG hq hp
 exact (holdG_point hG hl hpl).2
theorem AllQ.len {G:Gs}{Q:List Prt}(h:AllQ G Q) {q:Prt}(hq:q∈Q):q.2.length≤((holdG G q.1).map List.length).sum:=merged_le (h.mg q hq)
theorem AllQ.many {G:Gs}{Q:List Prt}(h:AllQ G Q):manyP Q≤totG G:=by
 have h1:=holdG_sum (allNames_nodup (zcR G)) G
 rw [←h.nm,List.map_map] at h1
 have h2:∀(L:List Prt),(∀q∈L,q.2.length≤((holdG G q.1).map List.length).sum)→manyP L≤(L.map ((fun n=>((holdG G n).map List.length).sum) ∘ Prod.fst)).sum:=by
  intro L
  induction L with
  | nil=>intro _;exact Nat.le_refl _
  | cons q L ih =>
   intro hL
   have a:=ih (fun x hx=>hL x (by simp [hx]))
   have b:=hL q (by simp)
   have e:manyP (q::L)=q.2.length+manyP L:=by simp [manyP]
   rw [e,yaJ,yaI]
   simp only [Function.comp_apply] at a ⊢
   omega
 have:=h2 Q (fun q hq=>h.len hq)
 omega
theorem AllQ.prts {G:Gs}{Q:List Prt}(h:AllQ G Q) (hG:OkG G) (h0:0<G.length) (ht:totG G≤600):PrtsOk Q:=by
 have hn:∀q∈Q,∃g∈G,q.1∈g.2.map Prod.fst:=fun q hq=>allNames_mem.1 (by rw [←h.nm];exact yax hq)
 refine ⟨fun q hq=>?_,fun q hq=>?_,by rw [h.nm];exact allNames_rises _,?_,by have:=h.many;omega⟩
 ·obtain ⟨g,hg,hm⟩:=hn q hq
  obtain ⟨r,hr,e⟩:=yap.1 hm
  rw [←e]
  exact (hG g hg).1.name r hr
 ·refine colV_of (h.isM hG hq).rises (fun p hp=>?_) ?_ (by have:=h.len hq;have:=holdG_one G q.1;omega)
  ·obtain ⟨l,hl,hpl⟩:=h.point hG hq hp
   exact (holdG_point hG hl hpl).1
  ·obtain ⟨g,hg,hm⟩:=hn q hq
   obtain ⟨i,r,h1,_,h3⟩:=ofN_at hm
   have hc:=zcc ((hG g hg).1.col r (yag h1))
   obtain ⟨p,hp⟩:∃p,p∈r.2:=List.exists_mem_of_length_pos hc.1
   obtain ⟨y,hy,_⟩:=Best.has (zec hG q.1) (q:=p) ⟨_,yax (f:=fun g:Nat×List Prt=>ofN g.2 q.1) hg,by show p∈ofN g.2 q.1;rw [h3];exact hp⟩
   exact List.length_pos_of_mem (best_one.1 ((h.eqv hG hq y).1 hy))
 ·obtain ⟨g,hg⟩:=List.exists_mem_of_length_pos h0
  obtain ⟨r,hr⟩:=List.exists_mem_of_length_pos (hG g hg).1.pos
  have:r.1∈Q.map Prod.fst:=by rw [h.nm];exact allNames_mem.2 ⟨g,hg,yax hr⟩
  have:=List.length_pos_of_mem this
  simpa using this
theorem AllQ.all {G:Gs}{Q:List Prt}(h:AllQ G Q) (hG:OkG G) (X:Nat) (n:ByteArray):EqvL (holdG [(X,Q)] n) (holdG G n):=by
 have e:holdG [(X,Q)] n=[ofN Q n]:=rfl
 rw [e]
 rcases Classical.em (n∈Q.map Prod.fst) with hn|hn
 ·obtain ⟨i,q,h1,h2,h3⟩:=ofN_at hn
  rw [h3,←h2]
  exact (h.eqv hG (yag h1)).symm
 ·rw [ofN_out hn]
  have he:∀l∈holdG G n,l=[]:=fun l hl=>by
   obtain ⟨g,hg,rfl⟩:=holdG_at hl
   refine ofN_out (fun hm=>hn ?_)
   rw [h.nm]
   exact allNames_mem.2 ⟨g,hg,hm⟩
  intro p
  constructor
  ·intro hp;obtain ⟨l,hl,hpl⟩:=hp.mem;rw [yal.1 hl] at hpl;simp at hpl
  ·intro hp;obtain ⟨l,hl,hpl⟩:=hp.mem;rw [he l hl] at hpl;simp at hpl
theorem modH_snoc (F:List PaM) (q:PaM) (n:ByteArray):modH (F++[q]) n=modH F n++[if q.nm=n then q.l else []]:=by simp [modH]
theorem holdG_snoc (G:Gs) (X:Nat) (Q:List Prt) (n:ByteArray):holdG (G++[(X,Q)]) n=holdG G n++[ofN Q n]:=by simp [holdG]
theorem modH_sum (F:List PaM) (n:ByteArray):((modH F n).map List.length).sum≤(F.map fun q=>q.l.length).sum:=by
 induction F with
 | nil=>simp [modH]
 | cons q F ih =>
  unfold modH at ih ⊢
  simp only [yaJ,yaI]
  split
  ·omega
  ·simp only [List.length_nil];omega
theorem modH_rises {F:List PaM}(h:∀q∈F,Rises q.l) (n:ByteArray):∀l∈modH F n,Rises l:=fun l hl=>by
 obtain ⟨q,hq,rfl⟩:=yap.1 hl
 split
 ·exact h q hq
 ·exact Rises.nil
structure ModI (G:Gs) (F:List PaM):Prop where
 eqv:∀n,EqvL (holdG G n) (modH F n)
 col:∀q∈F,colV q.l=true
 few:F.length≤25
 sum:(F.map fun q=>q.l.length).sum≤600
theorem ModI.rises {G:Gs}{F:List PaM}(h:ModI G F):∀q∈F,Rises q.l:=fun q hq=>colV_rises (h.col q hq)
theorem ModI.start:ModI [] []:=⟨fun _=>EqvL.refl _,by simp,by simp,by simp⟩
theorem ModI.add {G:Gs}{F:List PaM}(h:ModI G F) (hG:OkG G) (X:Nat) {q:PaM}(hc:colV q.l=true) (h1:F.length<25) (h2:(F.map fun q=>q.l.length).sum+q.l.length≤600):ModI (G++[(X,[(q.nm,q.l)])]) (F++[q]):=by
 refine ⟨fun n=>?_,fun r hr=>?_,by simp;omega,by simp;omega⟩
 ·rw [holdG_snoc,modH_snoc]
  have e:ofN [(q.nm,q.l)] n=if q.nm=n then q.l else []:=by rw [ofN,ofN]
  rw [e]
  refine (h.eqv n).append (zec hG n) (modH_rises h.rises n) (fun l hl=>?_)
  rw [yal.1 hl]
  split
  ·exact colV_rises hc
  ·exact Rises.nil
 ·rcases yah.1 hr with hr|hr
  ·exact h.col r hr
  ·rw [yal.1 hr];exact hc
theorem ModI.compact {G:Gs}{F:List PaM}(h:ModI G F) (hG:OkG G) {Q:List Prt}(hQ:AllQ G Q) (X:Nat):ModI [(X,Q)] F :=
 ⟨fun n=>(hQ.all hG X n).trans (h.eqv n),h.col,h.few,h.sum⟩
theorem ModI.few2 {G:Gs}{F:List PaM}(h:ModI G F) (n:ByteArray):F.length+((modH F n).map List.length).sum<4000:=by
 have h1:=h.few
 have h2:=h.sum
 have h3:=modH_sum F n
 omega
def blksV (v:StoV):List Nat:=(if v.fn=0 then [] else (v.fa.map (·.block)).toList)++(if v.tn=0 then [] else (v.ta.map (·.block)).toList)
theorem mem_blksV {v:StoV}{g:Nat}:g∈blksV v↔(v.fn≠0∧v.fa.map (·.block)=some g)∨(v.tn≠0∧v.ta.map (·.block)=some g):=by
 unfold blksV
 rw [yah]
 by_cases h1:v.fn=0<;>by_cases h2:v.tn=0<;>simp [h1,h2,Option.mem_toList]
theorem StoV.New.blks {v:StoV}{w:World}(h:v.New w):∀g∈blksV v,w.heap.size≤g:=fun g hg=>(mem_blksV.1 hg).elim (fun e=>h.1 g e.2) (fun e=>h.2 g e.2)
theorem StoAt.blks {w:World}{p d:Nat}{s:Sta}{S:DiskS}{B:List Nat}{v:StoV}(h:StoAt w p d s S B v):∀g∈blksV v,g<w.heap.size:=fun g hg=>(mem_blksV.1 hg).elim (fun e=>(h.off.f e.1 g e.2).2) (fun e=>(h.off.t e.1 g e.2).2)
structure StoI (w0:World) (p d:Nat) (r:Int) (G:Gs) (X c:Nat) (B:List Nat) (w:World):Prop where
 at':∃s S B0 v,StoAt w p d s S B0 v∧StI S s G X c∧s.r=r∧(∀b∈B0,b∈B)∧∀g∈blksV v,g∈B
 own:∀b∈B,w0.heap.size≤b
 lt:∀b∈B,b<w.heap.size
 pn:w0.heap.size≤p
 ext:Ext w0 w
 et:HasET w0
def StepTo (w0:World) (p d:Nat) (r:Int) (G:Gs) (X c:Nat) (B:List Nat) (w w':World):Prop :=
 ∃B',StoI w0 p d r G X c B' w'∧Chg (fun b=>b=p∨b∈B) w w'∧∀b∈B',b∈B∨w.heap.size≤b
theorem StoI.grow {w0 w w':World}{p d:Nat}{r r':Int}{G G':Gs}{X X' c c':Nat}{B B0 B':List Nat}(h:StoI w0 p d r G X c B w) {s:Sta}{S:DiskS}{v:StoV}(k:StoAt w' p d s S B' v) (ki:StI S s G' X' c') (kr:s.r=r') (hB0:∀b∈B0,b∈B) (hc:Chg (fun b=>b=p∨b∈B0) w w') (hn:∀b∈B',b∈B0∨w.heap.size≤b) (hv:∀g∈blksV v,g∈B∨w.heap.size≤g):StepTo w0 p d r' G' X' c' B w w':=by
 have hn':∀b∈B'++blksV v,b∈B∨w.heap.size≤b:=fun b hb=>by
  rcases yah.1 hb with e|e
  ·exact (hn b e).imp (hB0 b) id
  ·exact hv b e
 refine ⟨B'++blksV v,⟨⟨s,S,B',v,k,ki,kr,fun b hb=>yat _ hb,fun g hg=>yaR _ hg⟩,fun b hb=>?_,fun b hb=>(yah.1 hb).elim (k.disk.lt b) (k.blks b),h.pn,?_,h.et⟩,hc.mono (fun i _ e=>e.imp id (hB0 i)),hn'⟩
 ·rcases hn' b hb with e|e
  ·exact h.own b e
  ·have:=h.ext.size;omega
 ·refine (((Chg.of_ext (S:=fun b=>b=p∨b∈B0) h.ext)).trans hc (fun i hi e=>e)).ext (fun i hi e=>?_)
  rcases e with e|e
  ·have:=h.pn;omega
  ·have:=h.own i (hB0 i e);omega
theorem StoI.et' {w0 w:World}{p d:Nat}{r:Int}{G:Gs}{X c:Nat}{B:List Nat}(h:StoI w0 p d r G X c B w):HasET w:=h.et.ext h.ext
theorem StoI.gB {w0 w:World}{p d:Nat}{r:Int}{G:Gs}{X c:Nat}{B B0:List Nat}(h:StoI w0 p d r G X c B w) (hB:∀b∈B0,b∈B):0∉B0:=fun e=>by have:=h.own _ (hB _ e);have:=h.et.lt;omega
theorem StoI.okG' {w0 w:World}{p d:Nat}{r:Int}{G:Gs}{X c:Nat}{B:List Nat}(h:StoI w0 p d r G X c B w):OkG G:=by
 obtain ⟨s,S,B0,v,h1,h2,h3⟩:=h.at'
 exact h2.okG
theorem StoI.next {w0 w w':World}{p d:Nat}{r:Int}{G:Gs}{X c:Nat}{B:List Nat}(h:StoI w0 p d r G X c B w) (hx:Ext w w'):StoI w0 p d r G X c B w':=by
 obtain ⟨s,S,B0,v,h1,h2⟩:=h.at'
 exact ⟨⟨s,S,B0,v,h1.ext hx,h2⟩,h.own,fun b hb=>yan (h.lt b hb) hx.size,h.pn,h.ext.trans hx,h.et⟩
theorem StoI.beside {w0 w w':World}{p d:Nat}{r:Int}{G:Gs}{X c:Nat}{B:List Nat}{T:Nat→Prop}(h:StoI w0 p d r G X c B w) (hc:Chg T w w') (hp:¬T p) (hB:∀b∈B,¬T b) (h0:∀b,T b→w0.heap.size≤b):StoI w0 p d r G X c B w':=by
 obtain ⟨s,S,B0,v,h1,h2,h3,h4,h5⟩:=h.at'
 refine ⟨⟨s,S,B0,v,h1.apart hc (fun b hb=>hB b (h4 b hb)) hp (fun hn b hb=>hB b (h5 b (mem_blksV.2 (.inl ⟨hn,hb⟩)))) (fun hn b hb=>hB b (h5 b (mem_blksV.2 (.inr ⟨hn,hb⟩)))),h2,h3,h4,h5⟩,h.own,fun b hb=>yan (h.lt b hb) hc.size,h.pn,?_,h.et⟩
 exact ((Chg.of_ext (S:=T) h.ext).trans hc (fun i hi e=>e)).ext (fun i hi e=>by have:=h0 i e;omega)
theorem StoAt.lens {w:World}{p d:Nat}{s:Sta}{S:DiskS}{B:List Nat}{v:StoV}(h:StoAt w p d s S B v):s.fl.length=v.fn∧s.ti.length=v.tn:=⟨zaW h.st.fl,zaV h.st.ti⟩
theorem one_ok {nm:ByteArray}{l:List Pt}(hn:zaU (bl nm)=true) (hc:colV l=true) (hl:l.length≤600):PrtsOk [(nm,l)] :=
 ⟨fun q hq=>by rw [yal.1 hq];exact hn,fun q hq=>by rw [yal.1 hq];exact hc,by simp,by simp,by simp [manyP];omega⟩
theorem fresh5 {s:Sta}{S:DiskS}{G:Gs}{X c:Nat}(h:StI S s G X c):Fresh s.km km5:=by
 rw [h.km];exact ⟨rfl,rfl,by decide,km5_ok⟩
theorem flush_good {w0 w:World}{p d:Nat}{r:Int}{G:Gs}{X c:Nat}{B:List Nat}(h:StoI w0 p d r G X c B w) (i:Nat) (hr:r≤(i:Int)) (hi:i≤1000) (hX:X<1000) (hG:G.length<30) (hc:c≤500000)
 (a:Option Addr) (ca:Nat) (q:PaM) (hs:Src w 2 (.slice a 1 ca) 1 (pams [q])) (hq:q.Ok w) (hn:zaU (bl q.nm)=true) (hcol:colV q.l=true) (hv:VOk q.l) (ht:totG G+q.l.length≤600) :
 Calls Tryz.prog 11 #[.pointer (some ⟨p,0,none⟩),.slice a 1 ca,.int .i64 (i:Int),.int .i64 (i:Int),.agg #[.bool false,.int .i64 0,.int .i64 5]] w fun e w'=>e=.returned (.int .i64 0)∧StepTo w0 p d (i:Int) (G++[(X,[(q.nm,q.l)])]) (X+1) (c+7) B w w':=by
 obtain ⟨s,S,B0,v,h1,h2,h3,h4,h5⟩:=h.at'
 have hQ:=one_ok hn hcol (by omega)
 have hrq:=h2.rq
 have hfl:=h1.lens
 have e0:s.fl.length=G.length:=h2.flLen
 have e1:s.ti.length=0:=by rw [h2.ti];rfl
 have hz:s.q≤(i:Int):=by have:=hrq.2.2;omega
 have hQe:zaC [q]=[(q.nm,q.l)]:=rfl
 obtain ⟨S1,S2,g1,g2,g3⟩:=step_flush h2 hQ (fun x hx=>by rw [yal.1 hx];exact hv) (i:=(i:Int)) ⟨by omega,by omega⟩ hG hX (by simp [manyP];omega)
 have hF:=stoFlush_any (k:=c) (n:=X) (by omega) h2.inv h1 h2.x (by omega) ⟨by omega,by omega⟩ (i:Int) (i:Int) (by omega) (by omega) hz (by omega) km5 (fresh5 h2) a 1 ca [q] hs (fun x hx=>by rw [yal.1 hx];exact hq) (by rw [hQe];exact hQ) h.et' (h.gB h4)
 rw [hQe] at hF
 refine hF.mono ?_
 intro e w' hw
 unfold WriteTo at hw
 rw [g1] at hw
 simp only [ne_eq,not_true,if_false] at hw
 rw [g2] at hw
 simp only [if_true] at hw
 obtain ⟨rfl,v',hv1,hv2,hv3,B',k1,k2,k3⟩:=hw
 exact ⟨rfl,h.grow k1 g3 rfl h4 k2 k3 (fun g hg=>.inr (hv3.blks g hg))⟩
theorem flush_bad {w0 w:World}{p d:Nat}{r:Int}{G:Gs}{X c:Nat}{B:List Nat}(h:StoI w0 p d r G X c B w) (i:Nat) (hr:r≤(i:Int)) (hi:i≤1000) (hX:X<1000) (hG:G.length<30) (hc:c≤500000)
 (a:Option Addr) (ca:Nat) (q:PaM) (hs:Src w 2 (.slice a 1 ca) 1 (pams [q])) (hq:q.Ok w) (hn:zaU (bl q.nm)=true) (hcol:colV q.l=false) (hql:q.n≤1024) :
 Calls Tryz.prog 11 #[.pointer (some ⟨p,0,none⟩),.slice a 1 ca,.int .i64 (i:Int),.int .i64 (i:Int),.agg #[.bool false,.int .i64 0,.int .i64 5]] w fun e w'=>e=.returned (.int .i64 2)∧StepTo w0 p d r G X c B w w':=by
 obtain ⟨s,S,B0,v,h1,h2,h3,h4,h5⟩:=h.at'
 have hrq:=h2.rq
 have hfl:=h1.lens
 have e0:s.fl.length=G.length:=h2.flLen
 have e1:s.ti.length=0:=by rw [h2.ti];rfl
 have hz:s.q≤(i:Int):=by have:=hrq.2.2;omega
 refine (stoFlush_bad (k:=c) (n:=X) (by omega) h2.inv h1 h2.x (by omega) ⟨by omega,by omega⟩ (i:Int) (i:Int) (by omega) (by omega) hz (by omega) km5 (fresh5 h2) a ca q hs hq hn hcol hql h.et').mono ?_
 rintro e w' ⟨rfl,B',k1,k2,k3⟩
 exact ⟨rfl,h.grow k1 h2 h3 h4 (k2.mono (fun i _ e=>.inr e)) k3 (fun g hg=>.inl (h5 g hg))⟩
theorem compact_none {w0 w:World}{p d:Nat}{r:Int}{G:Gs}{X c:Nat}{B:List Nat}(h:StoI w0 p d r G X c B w) (hG:G.length<2) :
 Calls Tryz.prog 19 #[.pointer (some ⟨p,0,none⟩)] w fun e w'=>e=.returned (.int .i64 13)∧w=w':=by
 obtain ⟨s,S,B0,v,h1,h2,h3,h4,h5⟩:=h.at'
 exact stoCompact_few h1 (by have:=h1.lens.1;have:=h2.flLen;omega)
theorem names_few {G:Gs}(hok:OkG G) (htot:totG G≤600):(zbd (zcR G)).length≤1000000:=by
 have h4:(zbd (zcR G)).length≤((zcR G).flatMap zay).length:=by
  unfold zbd
  exact Nat.le_trans (compS_len _) (by rw [zdn];exact Nat.le_refl _)
 have h5:∀(K:Gs),OkG K→((zcR K).flatMap zay).length≤totG K:=by
  intro K
  induction K with
  | nil=>intro _;simp [zcR]
  | cons g K ih =>
   intro hk
   have a1:=ih (fun x hx=>hk x (by simp [hx]))
   have a2:=(body_of (P:=g.2) (hk g (by simp)).1.col).2
   have e:totG (g::K)=manyP g.2+totG K:=by simp [totG]
   have e':((zcR (g::K)).flatMap zay).length=g.2.length+((zcR K).flatMap zay).length:=by
    simp [zcR,zay,zaw]
   omega
 have:=h5 G hok
 omega
theorem compact_good {w0 w:World}{p d:Nat}{r:Int}{G:Gs}{X c:Nat}{B:List Nat}(h:StoI w0 p d r G X c B w) (hG:2≤G.length) (hX:X<1000) (hc:c≤500000) :
 Calls Tryz.prog 19 #[.pointer (some ⟨p,0,none⟩)] w fun e w'=>e=.returned (.int .i64 0)∧∃Q,AllQ G Q∧StepTo w0 p d r [(X,Q)] (X+1) (c+1031) B w w':=by
 obtain ⟨s,S,B0,v,h1,h2,h3,h4,h5⟩:=h.at'
 have hfl:=h1.lens
 have e0:s.fl.length=G.length:=h2.flLen
 have e1:s.ti.length=0:=by rw [h2.ti];rfl
 have hfew:=h2.few
 have htot:=h2.tot
 have hok:=h2.okG
 have hall:∀Q:List Prt,Q.map Prod.fst=zbd (zcR G)→(∀q∈Q,IsMerge (((holdG G q.1).map (cutL (-1152921504606846976) 1152921504606846977)).filter neL) q.2)→PrtsOk Q :=
  fun Q hn hm=>AllQ.prts ⟨hn,hm⟩ hok (by omega) htot
 have hnl:=names_few hok htot
 refine (stoCompact_any (k:=c) (n:=X) (by omega) h2.inv h1 h2.x (by omega) ⟨by omega,by omega⟩ (zcR G) h2.holdS (holdG G) (fun n _=>⟨h2.holdP n,h2.holdFew n⟩) hnl hall (by omega) h.et' (h.gB h4)).mono ?_
 rintro e w' ⟨Q,hn,hm,ht⟩
 have hQ:AllQ G Q:=⟨hn,hm⟩
 obtain ⟨S1,S2,S3,g1,g2,g3,g4⟩:=step_compact h2 (hQ.prts hok (by omega) htot) (hQ.v hok) hX (by have:=hQ.many;omega)
 unfold TidyTo at ht
 rw [g1] at ht
 simp only [ne_eq,not_true,if_false] at ht
 rw [g2] at ht
 simp only [not_true,if_false] at ht
 rw [g3] at ht
 obtain ⟨rfl,v',hv1,hv2,hv3,B',k1,k2,k3⟩:=ht
 exact ⟨rfl,Q,hQ,h.grow k1 g4 h3 h4 k2 k3 (fun g hg=>.inr (hv3.blks g hg))⟩
theorem fits_own {S:DiskS}{s:Sta}{G:Gs}{X c:Nat}(h:StI S s G X c) (t:Sta) (ht:t=ownSt∨t=(loadS S).1):t.fl.length≤1000000∧t.ti.length≤1000000:=by
 rcases ht with rfl|rfl
 ·exact ⟨by decide,by decide⟩
 ·rcases h.man with ⟨f,hf,_⟩|⟨hn,_⟩
  ·rw [h.load (by rw [hf];rfl)]
   have:=h.few
   exact ⟨by rw [h.flLen];omega,by rw [h.ti];simp⟩
  ·have e:(loadS S).1=staZ:=by unfold loadS;rw [hn]
   rw [e];exact ⟨by decide,by decide⟩
theorem open_good {w1:World}{d:Nat}{S:DiskS}{s:Sta}{G:Gs}{X c:Nat}{B:List Nat}(hd:zbx w1 d S B) (h:StI S s G X c) (hc:c≤500000) (hg:HasET w1) :
 Calls Tryz.prog 10 #[.pointer (some ⟨d,0,none⟩),.int .i64 5,.slice none 0 0] w1 fun e w'=>∃p,e=.returned (.tuple #[.pointer (some ⟨p,0,none⟩),.int .i64 0])∧StoMade w1 d s S B p w':=by
 refine (stoOpen_any (c:=c) h.inv (by omega) hd 5 (by decide) none 0 0 ownSt (alikeB ownSt) hg (fun W hW=>stoFresh_none W 5 (by decide)) (fun W t v v0 hW hs ho hl=>stoAlike_any W t ownSt v v0 hs ho hl (by decide)) (fits_own h)).mono ?_
 intro e w' ho
 unfold OpenSto at ho
 rw [h.open] at ho
 simp only [not_true,ne_eq,if_false] at ho
 rw [h.tidy] at ho
 exact ho
theorem open_new {w0 w1:World}{d:Nat}{B:List Nat}(hd:zbx w1 d (zce 16777216) B) (hx:Ext w0 w1) (hB:∀b∈B,w0.heap.size≤b) (hg:HasET w0) :
 Calls Tryz.prog 10 #[.pointer (some ⟨d,0,none⟩),.int .i64 5,.slice none 0 0] w1 fun e w'=>∃p B',e=.returned (.tuple #[.pointer (some ⟨p,0,none⟩),.int .i64 0])∧StoI w0 p d 0 [] 0 0 B' w':=by
 refine (open_good hd start_I (by omega) (hg.ext hx)).mono ?_
 rintro e w' ⟨p,rfl,v,B',k1,kv,k2,k3,k4⟩
 refine ⟨p,B'++blksV v,rfl,⟨⟨_,_,B',v,k1,start_I,rfl,fun b hb=>yat _ hb,fun g hg=>yaR _ hg⟩,fun b hb=>?_,fun b hb=>(yah.1 hb).elim (k1.disk.lt b) (k1.blks b),by have:=hx.size;omega,?_,hg⟩⟩
 ·rcases yah.1 hb with hb|hb
  ·rcases k3 b hb with e|e
   ·exact hB b e
   ·have:=hx.size;omega
  ·have:=kv.blks b hb
   have:=hx.size;omega
 ·exact ((Chg.of_ext (S:=(·∈B)) hx).trans k2 (fun i hi e=>e)).ext (fun i hi e=>by have:=hB i e;omega)
theorem field_files (x1 x2 x3:Int) (x4:Bool) (x5 x6:Int) (fa:Option Addr) (fn fc:Nat) (ta:Option Addr) (tn tc:Nat) (w:World):(Instr.field 66 (.agg #[.int .i64 x1,.int .i64 x2,.int .i64 x3,.bool x4,.int .i64 x5,.int .i64 x6,.slice fa fn fc,.slice ta tn tc]) 4).run Tryz.prog w=.ok (.slice fa fn fc) w:=by kernel_rfl
theorem state_good {w0 w:World}{p d:Nat}{r:Int}{G:Gs}{X c:Nat}{B:List Nat}(h:StoI w0 p d r G X c B w) :
 Calls Tryz.prog 20 #[.pointer (some ⟨p,0,none⟩)] w fun e w'=>∃(x1 x2 x3:Int) (x4:Bool) (x5 x6:Int) (fa:Option Addr) (fc:Nat) (ta:Option Addr) (tn tc:Nat),e=.returned (.agg #[.int .i64 x1,.int .i64 x2,.int .i64 x3,.bool x4,.int .i64 x5,.int .i64 x6,.slice fa G.length fc,.slice ta tn tc])∧Ext w w':=by
 obtain ⟨s,S,B0,v,h1,h2,h3,h4,h5⟩:=h.at'
 have e0:s.fl.length=G.length:=h2.flLen
 have e1:s.ti.length=0:=by rw [h2.ti];rfl
 have hl:=h1.lens
 have hf:=h2.few
 refine (stoState_any h1 (by omega) (by omega)).mono ?_
 rintro e w' ⟨u,hu,_,rfl,ho⟩
 exact ⟨_,_,_,_,_,_,u.fa,u.fc,u.ta,u.tn,u.tc,by rw [hu,←hl.1,e0],ho.ext⟩
theorem list_good {w0 w:World}{p d:Nat}{r:Int}{G:Gs}{X c:Nat}{B:List Nat}(h:StoI w0 p d r G X c B w):∃S B0,zbx w d S B0∧S.Ok∧∃s,StI S s G X c:=by
 obtain ⟨s,S,B0,v,h1,h2,h3,h4,h5⟩:=h.at'
 exact ⟨S,B0,h1.disk,h2.inv.ok,s,h2⟩
theorem same_of {G:Gs}{F:List PaM}(hG:OkG G) (hM:ModI G F) (f t:Int) (i:Nat):SameI F f t i (holdG G (nmL i)):=fun o1 o2 h1 h2 =>
 (hM.eqv (nmL i)).told (zec hG _) (modH_rises hM.rises _) f t h1 h2
theorem like_true {w0 w:World}{p d mb:Nat}{r:Int}{G:Gs}{X c:Nat}{B:List Nat}(h:StoI w0 p d r G X c B w) {F:List PaM}{a:Option Addr}{n cc:Nat}(hm:MoAt w mb F a n cc) (hM:ModI G F) (f t:Int) :
 Calls Tryz.prog 21 #[.pointer (some ⟨p,0,none⟩),.pointer (some ⟨mb,0,none⟩),.agg #[.int .i64 f,.int .i64 t]] w fun e w'=>e=.returned (.bool true)∧Ext w w':=by
 obtain ⟨s,S,B0,v,h1,h2,h3,h4,h5⟩:=h.at'
 refine (lawLike_any h2.inv.ok h1 hm hM.rises f t (fun i=>holdG G (nmL i)) (fun i _=>⟨h2.holdP _,h2.holdFew _,hM.few2 _⟩) h.et').mono ?_
 rintro e w' ⟨b,rfl,hb,hx⟩
 have:b=true:=hb (fun i _=>same_of h.okG' hM f t i)
 subst this
 exact ⟨rfl,hx⟩
structure MoOff (mb:Nat) (a:Option Addr) (p:Nat) (B:List Nat):Prop where
 box:mb≠p∧mb∉B
 row:∀g,a.map (·.block)=some g→g≠p∧g∉B
theorem MoAt.chg {w w':World}{mb p:Nat}{F:List PaM}{a:Option Addr}{n c:Nat}{B:List Nat}(h:MoAt w mb F a n c) (ho:MoOff mb a p B) (hc:Chg (fun b=>b=p∨b∈B) w w') (hP:∀q∈F,q.n≠0→∀g,q.a.map (·.block)=some g→g≠p∧g∉B):MoAt w' mb F a n c:=by
 refine ⟨(hc.block mb (zab h.box) (fun e=>e.elim ho.box.1 ho.box.2)).trans h.box,h.row.chg hc (fun g hg e=>?_),fun q hq=>⟨⟨zbJ (h.ok q hq).1.src hc (fun hn g hg e=>?_),(h.ok q hq).1.cap⟩,(h.ok q hq).2⟩,h.ne⟩
 ·rw [zaq] at hg
  have:=ho.row g hg
  exact e.elim this.1 this.2
 ·have:=hP q hq hn g hg
  exact e.elim this.1 this.2
theorem MoOff.to {mb:Nat}{a:Option Addr}{p:Nat}{B B':List Nat}{w:World}(h:MoOff mb a p B) (hn:∀b∈B',b∈B∨w.heap.size≤b) (hmb:mb<w.heap.size) (ha:∀g,a.map (·.block)=some g→g<w.heap.size):MoOff mb a p B':=by
 refine ⟨⟨h.box.1,fun e=>?_⟩,fun g hg=>⟨(h.row g hg).1,fun e=>?_⟩⟩
 ·rcases hn _ e with e|e
  ·exact h.box.2 e
  ·omega
 ·rcases hn _ e with e|e
  ·exact (h.row g hg).2 e
  ·have:=ha g hg;omega
theorem elem_mfl:ElemOk Tryz.prog 33 48 2 40 :=
 ⟨Tryz.underlying33,by
   obtain ⟨i0,hi,hz0,hz1,hz2⟩:=info_parts (show (Tryz.prog.info? 48).map (fun i=>(i.zero,i.size,i.bytes))=some (some (.agg #[.string ⟨#[]⟩,.slice none 0 0]),2,40) from by kernel_rfl)
   exact ⟨i0,_,hi,hz0,hz1,hz2,rfl⟩,by decide⟩
theorem mfl_slice_info:(Tryz.prog.info? 33).map (·.size)=some 1:=by kernel_rfl
def ownB (a:Option Addr) (b:Nat):Bool:=decide (a.map (·.block)=some b)
theorem src_pam {W:World}{b:Nat}{q:PaM}{t:TypeId}{fr:Nat×Nat}(h:W.heap[b]?=some (.cells #[.string q.nm,.slice q.a q.n q.c] t fr)):Src W 2 (.slice (some ⟨b,0,none⟩) 1 1) 1 (pams [q]):=by
 refine .inr ⟨_,_,rfl,rfl,fun j u hj=>?_,zdX _⟩
 rw [yak,Nat.zero_add,zaa h]
 simpa [pams,PaM.cells] using hj
theorem nmL_valid (c:Nat):zaU (bl (nmL c))=true:=by
 unfold nmL
 split
 ·decide
 ·split<;>decide
def AcM.part (p:AcM):PaM:=⟨nmL p.nm,p.pa,p.pn,p.pc,p.l⟩
theorem AcM.Ok.part {w:World}{p:AcM}(h:p.Ok w):p.part.Ok w:=⟨h.src,h.cap⟩
theorem pts_len3 (l:List Pt):(pts l).length=l.length*3:=by
 induction l with
 | nil=>rfl
 | cons p l ih=>simp [pts,Pt.cells] at ih ⊢;omega
theorem AcM.Ok.pn {w:World}{p:AcM}(h:p.Ok w):p.l.length=p.pn:=by
 rcases h.src with ⟨_,e1,e2⟩|⟨_,_,_,e2,_⟩
 ·have h1:=pts_len3 p.l;rw [e2] at h1;simp at h1;omega
 ·rw [pts_len3] at e2;omega
theorem AcM.Ok.blk {w:World}{p:AcM}(h:p.Ok w) (hn:p.pn≠0):∀g,p.pa.map (·.block)=some g→g<w.heap.size:=fun g hg=>by
 rcases h.src with ⟨_,e1,_⟩|⟨ad,_,e1,e2,e3,_⟩
 ·exact absurd e1 hn
 ·simp at e1
  rw [e1.1] at hg
  have hg':ad.block=g:=by simpa using hg
  have h0:0<(pts p.l).length:=by omega
  have:=e3 0 _ (yac h0)
  have h2:=yaf _ _ this
  rw [←hg'];exact h2
structure LawI (w0:World) (p d mb N j:Nat) (G:Gs) (F:List PaM) (X c:Nat) (B:List Nat) (ma:Option Addr) (mn mc:Nat) (w:World):Prop where
 sto:∃r,StoI w0 p d r G X c B w∧r≤(j:Int)
 mo:MoAt w mb F ma mn mc
 off:MoOff mb ma p B
 new:w0.heap.size≤mb∧∀g,ma.map (·.block)=some g→w0.heap.size≤g
 pts:∀q∈F,q.n≠0→∀g,q.a.map (·.block)=some g→g<w0.heap.size
 mod:ModI G F
 sum:(F.map fun q=>q.l.length).sum≤N∧totG G≤N
 len:F.length≤j∧G.length≤j∧X≤j∧c≤2000*j
theorem LawI.ext {w0 w w':World}{p d mb N j:Nat}{G:Gs}{F:List PaM}{X c:Nat}{B:List Nat}{ma:Option Addr}{mn mc:Nat}(h:LawI w0 p d mb N j G F X c B ma mn mc w) (hx:Ext w w'):LawI w0 p d mb N j G F X c B ma mn mc w':=by
 obtain ⟨r,h1,h2⟩:=h.sto
 exact ⟨⟨r,h1.next hx,h2⟩,h.mo.ext hx,h.off,h.new,h.pts,h.mod,h.sum,h.len⟩
theorem LawI.world {w0 w:World}{p d mb N j:Nat}{G:Gs}{F:List PaM}{X c:Nat}{B:List Nat}{ma:Option Addr}{mn mc:Nat}(h:LawI w0 p d mb N j G F X c B ma mn mc w):Ext w0 w:=by
 obtain ⟨r,h1,h2⟩:=h.sto
 exact h1.ext
theorem LawI.step {w0 w w':World}{p d mb N j:Nat}{G:Gs}{F:List PaM}{X c:Nat}{B:List Nat}{ma:Option Addr}{mn mc:Nat}(h:LawI w0 p d mb N j G F X c B ma mn mc w) {N' j' X' c':Nat}{G':Gs}{r':Int}(hs:StepTo w0 p d r' G' X' c' B w w') (hr:r'≤(j':Int)) (hM:ModI G' F) (hN:N≤N') (hT:totG G'≤N') (hj:j≤j') (hG:G'.length≤j') (hX:X'≤j') (hc:c'≤2000*j') :
 ∃B',LawI w0 p d mb N' j' G' F X' c' B' ma mn mc w':=by
 obtain ⟨B',k1,k2,k3⟩:=hs
 obtain ⟨r,h1,h2⟩:=h.sto
 have hl:=h.len
 have hs:=h.sum
 refine ⟨B',⟨r',k1,hr⟩,h.mo.chg h.off k2 (fun q hq hn g hg=>?_),h.off.to k3 (zab h.mo.box) (fun g hg=>h.mo.row.lt (by rw [zaq];exact hg)),h.new,h.pts,hM,⟨by omega,hT⟩,⟨by omega,hG,hX,hc⟩⟩
 have h3:=h.pts q hq hn g hg
 exact ⟨fun e=>by have:=h1.pn;omega,fun e=>by have:=h1.own g e;omega⟩
theorem LawI.more {w0 w:World}{p d mb N N' j j':Nat}{G:Gs}{F:List PaM}{X c:Nat}{B:List Nat}{ma:Option Addr}{mn mc:Nat}(h:LawI w0 p d mb N j G F X c B ma mn mc w) (hN:N≤N') (hj:j≤j'):LawI w0 p d mb N' j' G F X c B ma mn mc w:=by
 obtain ⟨r,h1,h2⟩:=h.sto
 have hl:=h.len
 have hs:=h.sum
 exact ⟨⟨r,h1,by omega⟩,h.mo,h.off,h.new,h.pts,h.mod,⟨by omega,by omega⟩,⟨by omega,by omega,by omega,by omega⟩⟩
theorem LawI.mid {w0 w w':World}{p d mb N j:Nat}{G:Gs}{F:List PaM}{X c:Nat}{B:List Nat}{ma:Option Addr}{mn mc:Nat}(h:LawI w0 p d mb N j G F X c B ma mn mc w) {X' c':Nat}{G':Gs}{r':Int}(hs:StepTo w0 p d r' G' X' c' B w w'):MoAt w' mb F ma mn mc∧Ext w0 w':=by
 obtain ⟨B',k1,k2,k3⟩:=hs
 obtain ⟨r,h1,h2⟩:=h.sto
 refine ⟨h.mo.chg h.off k2 (fun q hq hn g hg=>?_),k1.ext⟩
 have h3:=h.pts q hq hn g hg
 exact ⟨fun e=>by have:=h1.pn;omega,fun e=>by have:=h1.own g e;omega⟩
theorem LawI.mn {w0 w:World}{p d mb N j:Nat}{G:Gs}{F:List PaM}{X c:Nat}{B:List Nat}{ma:Option Addr}{mn mc:Nat}(h:LawI w0 p d mb N j G F X c B ma mn mc w):F.length=mn:=zcP (h.mo.row.src (zdX _))
def SameG (G:Gs) (F:List PaM):Prop:=G.map Prod.snd=F.map fun q=>[(q.nm,q.l)]
theorem SameG.len {G:Gs}{F:List PaM}(h:SameG G F):G.length=F.length:=by
 have:=congrArg List.length h
 simpa using this
theorem SameG.put {G:Gs}{F:List PaM}(h:SameG G F) (X:Nat) (q:PaM):SameG (G++[(X,[(q.nm,q.l)])]) (F++[q]):=by
 unfold SameG at *
 rw [yav,yav,h];rfl
theorem LawI.start {w0 w1:World}{p d mb:Nat}{B:List Nat}(h:StoI w0 p d 0 [] 0 0 B w1) (hmb:w1.heap.size=mb) {w2:World}(hx:Ext w1 w2) (hb:w2.heap[mb]?=some (.cells #[.slice none 0 0] 35 (0,0))) (hp:p<w1.heap.size):LawI w0 p d mb 0 0 [] [] 0 0 B none 0 0 w2:=by
 refine ⟨⟨0,h.next hx,by omega⟩,⟨hb,Row.nil _ _ _,by simp,by simp⟩,⟨⟨by omega,fun e=>by have:=h.lt mb e;omega⟩,by simp⟩,⟨by have:=h.ext.size;omega,by simp⟩,by simp,.start,⟨by simp,by simp [totG]⟩,by simp⟩
theorem LawI.put {w0 w w1 w2 W w4 w5:World}{p d mb N j:Nat}{G:Gs}{F:List PaM}{X c:Nat}{B:List Nat}{ma:Option Addr}{mn mc:Nat}(h:LawI w0 p d mb N j G F X c B ma mn mc w) (hx:Ext w w1) {q:PaM}(hcol:colV q.l=true)
 (hs:StepTo w0 p d (j:Int) (G++[(X,[(q.nm,q.l)])]) (X+1) (c+7) B w1 w2) (hF:F.length<25) (hN:N+q.l.length≤600) (hq:q.Ok w2) (hqn:q.n<4398046511104) (hq0:q.n≠0→∀g,q.a.map (·.block)=some g→g<w0.heap.size)
 (hW:Ext w2 W) {ma':Option Addr}{mc':Nat}(ha:Appended W 48 2 (.slice ma mn mc) (mn+1) (pams F++pams [q]) (.slice ma' (mn+1) mc') w4) (hc:Chg (·=mb) w4 w5) (hb:w5.heap[mb]?=some (.cells #[.slice ma' (mn+1) mc'] 35 (0,0))) :
 ∃B',LawI w0 p d mb (N+q.l.length) (j+1) (G++[(X,[(q.nm,q.l)])]) (F++[q]) (X+1) (c+7) B' ma' (mn+1) mc' w5:=by
 have hl:=h.len
 have hsum:=h.sum
 obtain ⟨r,h1,h2⟩:=h.sto
 have hM:=h.mod.add h1.okG' X (q:=q) hcol (by omega) (by omega)
 have hT:totG (G++[(X,[(q.nm,q.l)])])≤N+q.l.length:=by rw [totG_snoc];simp [manyP];omega
 obtain ⟨B',k1,k2,k3⟩:=hs
 have hmb:mb<w.heap.size:=zab h.mo.box
 have hmo2:MoAt w2 mb F ma mn mc:=(h.mo.ext hx).chg h.off k2 (fun q hq hn g hg=>by
  have h3:=h.pts q hq hn g hg
  exact ⟨fun e=>by have:=h1.pn;omega,fun e=>by have:=h1.own g e;omega⟩)
 have hoff2:MoOff mb ma p B':=h.off.to k3 (by have:=hx.size;omega) (fun g hg=>by have:=h.mo.row.lt (g:=g) (by rw [zaq];exact hg);have:=hx.size;omega)
 have hsz2:w2.heap.size≤W.heap.size:=hW.size
 have hsz4:W.heap.size≤w4.heap.size:=ha.chg.size
 have hmb2:mb<w2.heap.size:=by have:=hx.size;have:=k2.size;omega
 have hma':∀g,ma'.map (·.block)=some g→ma.map (·.block)=some g∨g=W.heap.size:=fun g hg=>by
  have hl:=ha.loc
  rw [zaq,zaq,hg] at hl
  rcases hl with e|e
  ·exact .inl e.symm
  ·exact .inr (yaG e)
 have hne':ma'.map (·.block)≠some mb:=fun e=>by
  rcases hma' mb e with e|e
  ·exact hmo2.ne e
  ·omega
 have hcT:Chg (fun b=>b=mb∨ma.map (·.block)=some b) w2 w5:=(Chg.of_ext (S:=fun b=>b=mb∨ma.map (·.block)=some b) hW).trans ((ha.chg.mono (fun i _ e=>.inr (by rw [zaq] at e;exact e))).trans (hc.mono (fun i _ e=>.inl e)) (fun _ _ e=>e)) (fun _ _ e=>e)
 have hT:totG (G++[(X,[(q.nm,q.l)])])≤N+q.l.length:=hT
 have hstoW:StoI w0 p d (j:Int) (G++[(X,[(q.nm,q.l)])]) (X+1) (c+7) B' w5:=k1.beside hcT (fun e=>e.elim (fun e=>hoff2.box.1 e.symm) (fun e=>(hoff2.row p e).1 rfl)) (fun b hb e=>e.elim (fun e=>hoff2.box.2 (e▸hb)) (fun e=>(hoff2.row b e).2 hb)) (fun b e=>e.elim (fun e=>by have:=h.new.1;omega) (fun e=>h.new.2 b e))
 have hPt:∀q∈F,∀(hn:q.n≠0) g,q.a.map (·.block)=some g→g≠mb∧ma.map (·.block)≠some g:=fun q hq hn g hg=>by
  have h3:=h.pts q hq hn g hg
  exact ⟨fun e=>by have:=h.new.1;omega,fun e=>by have:=h.new.2 g e;omega⟩
 refine ⟨B',⟨_,hstoW,by omega⟩,⟨hb,?_,fun x hx=>?_,hne'⟩,⟨hoff2.box,fun g hg=>?_⟩,⟨h.new.1,fun g hg=>?_⟩,fun x hx=>?_,hM,⟨by simp;omega,hT⟩,⟨by simp;omega,by simp;omega,by omega,by omega⟩⟩
 ·rw [pams_append]
  exact ha.row.chg hc (fun g hg e=>by rw [zaq] at hg;subst e;exact hne' hg)
 ·rcases yah.1 hx with hx|hx
  ·have h3:=hmo2.ok x hx
   exact ⟨⟨zbJ h3.1.src hcT (fun hn g hg e=>by have h4:=hPt x hx hn g hg;exact e.elim h4.1 h4.2),h3.1.cap⟩,h3.2⟩
  ·rw [yal.1 hx]
   exact ⟨⟨zbJ hq.src hcT (fun hn g hg e=>by
    have h3:=hq0 hn g hg
    exact e.elim (fun e=>by have:=h.new.1;omega) (fun e=>by have:=h.new.2 g e;omega)),hq.cap⟩,hqn⟩
 ·rcases hma' g hg with e|e
  ·exact hoff2.row g e
  ·have hp2:p<w2.heap.size:=by
    obtain ⟨s,S,B0,v,q1,_⟩:=k1.at'
    exact zab q1.box
   exact ⟨by omega,fun e'=>by have:=k1.lt g e';omega⟩
 ·rcases hma' g hg with e|e
  ·exact h.new.2 g e
  ·have:=k1.ext.size;omega
 ·rcases yah.1 hx with hx|hx
  ·exact h.pts x hx
  ·rw [yal.1 hx];exact hq0
theorem perm_names {S:DiskS}{G:Gs}{X:Nat}(hn:(G.map Prod.fst).Nodup∧(∀g∈G,g.1<X)∧X≤1000) (h1:(S.files.map (·.1)).Nodup) (hf:∀g∈G,(aget S.files (nameS 115 g.1)).isSome=true) (hk:∀n,(aget S.files n).isSome=true→n=fM∨∃g∈G,n=nameS 115 g.1):(S.list fS).length=G.length:=by
 have hp:(S.list fS).Perm (G.map fun g=>nameS 115 g.1):=by
  refine (List.perm_ext_iff_of_nodup (list_nodupS h1 _) ?_).2 (fun f=>?_)
  ·rw [List.nodup_iff_pairwise_ne,List.pairwise_map]
   have hn1:=hn.1
   rw [List.nodup_iff_pairwise_ne,List.pairwise_map] at hn1
   refine (hn1.imp_of_mem (fun {a b} ha hb hab e=>?_))
   have h1:=hn.2.1 a ha
   have h2:=hn.2.1 b hb
   have h3:=hn.2.2
   exact hab (nameS_inj (by omega) (by omega) e)
  ·rw [zcp]
   constructor
   ·rintro ⟨h1,h2⟩
    rcases hk f h1 with e|⟨g,hg,e⟩
    ·rw [e,pre_m.1] at h2;cases h2
    ·rw [e];exact yax (f:=fun g:Nat×List Prt=>nameS 115 g.1) hg
   ·intro hm
    obtain ⟨g,hg,rfl⟩:=yap.1 hm
    exact ⟨hf g hg,pre_s _⟩
 rw [hp.length_eq,yaw]
theorem StI.listS_len {S:DiskS}{s:Sta}{G:Gs}{X c:Nat}(h:StI S s G X c):(S.list fS).length=G.length :=
 perm_names h.num h.inv.ok.names (fun g hg=>by obtain ⟨f,hf,_⟩:=h.file g hg;rw [hf];rfl) h.keys
theorem run_clear_gen {P:Program}(w:World) (t e ty:TypeId) (z:Value) (ht:P.underlying t=some (.slice e)) (hv:∀w,(zeroValue e).run P w=.ok z w) (b o n c:Nat) (hn:0<n) (old:Array Value) (T:TypeId)
 (h1:∀v∈(Builtin.zeroCells z.cells n).toList,v.oneCell'=true) (hb:w.heap[b]?=some (.cells old T (0,0))) (hsz:o+(Builtin.zeroCells z.cells n).size≤old.size) :
 (Builtin.clear_ #[t] ty #[.slice (some ⟨b,o,none⟩) n c]).run P w=.ok (.tuple #[]) (w.setRow b (old.toList.take o++(Builtin.zeroCells z.cells n).toList++old.toList.drop (o+(Builtin.zeroCells z.cells n).toList.length)).toArray):=by
 have hst:=run_storeCells_at P b o T (Builtin.zeroCells z.cells n).toList 0 old w hb (by simpa using hsz) h1
 simp only [Nat.add_zero] at hst
 obtain ⟨m,rfl⟩:∃m,n=m+1:=⟨n-1,by omega⟩
 simp [Builtin.clear_,run_underlying ht,hv,hst]
def zbR (N:Int) (F:Fl):Bool:=!decide (F.b<N)
theorem retire1_any (w:World) (F:Fl) (bb:Nat) (N:Int) (hb:w.cell? ⟨bb,0,none⟩=some (.int .i64 N)) :
 Calls Tryz.prog 50 #[.agg #[.string F.nm,.int .i64 F.a,.int .i64 F.b,.int .i64 F.k],.pointer (some ⟨bb,0,none⟩)] w fun e w'=>e=.returned (.bool (decide (F.b<N)))∧Ext w w':=by
 obtain ⟨nm,a,b,k⟩:=F
 have hbl:=yaf w _ hb
 simp only at hbl
 go_enter Tryz.func50,Tryz.ntmps50
 go_wp2_with fail
 go_ret
 exact ⟨rfl,(Ext.refl w).alloc _⟩
theorem indexFl_any (w:World) (a:Option Addr) (n c:Nat) (l:List Fl) (hl:Src w 4 (.slice a n c) n (fls l)) (bb:Nat) (N:Int) (hb:w.cell? ⟨bb,0,none⟩=some (.int .i64 N)) (hn:n≤1000000) :
 Calls Tryz.prog 84 #[.slice a n c,.func (.func 50) #[] #[.pointer (some ⟨bb,0,none⟩)]] w fun e w'=>Ext w w'∧((e=.returned (.int .i64 (-1))∧∀F∈l,N≤F.b)∨∃(i:Nat) (F:Fl),l[i]?=some F∧F.b<N∧(∀G∈l.take i,N≤G.b)∧e=.returned (.int .i64 (i:Int))):=by
 have HL:=hid hl
 have HB:=hid hb
 have HNL:=hid (zaW hl)
 clear hl hb
 go_enter Tryz.func84,Tryz.ntmps84
 go_wp2_with fail
 go_loopw [8] (fun s wr=>∃j:Nat,s=.int .i64 (j:Int)∧j≤n∧Hid ((∀G∈l.take j,N≤G.b)∧Ext w wr)) (fun t _=>n-(RowKit.intOf t).toNat)
 case atStart=>exact ⟨0,rfl,Nat.zero_le _,hid ⟨by simp,Ext.refl _⟩⟩
 case round =>
  obtain ⟨j,rfl,hj,HI⟩:=hrel
  by_cases hlt:j<n
  ·obtain ⟨ab,ao,A,rfl,hA,a0,a1,a2,a3⟩:=zed (HL.out.ext HI.out.2) hlt
   have HA:=hid hA
   have HC:=hid (retire1_any wr A bb N (zbf HI.out.2 HB.out))
   clear hA
   go_wp2_with fail
   refine HC.out.mono ?_
   rintro e w5 ⟨rfl,hx5⟩
   have HX5:=hid hx5
   clear hx5 HC
   by_cases hd:A.b<N
   ·have HD:=hid hd
    rw [decide_eq_true hd]
    clear hd
    go_wp2_with fail
    go_ret
    exact ⟨HI.out.2.trans HX5.out,.inr ⟨j,A,HA.out,HD.out,HI.out.1,rfl⟩⟩
   ·have HD:=hid (Int.not_lt.1 hd)
    rw [decide_eq_false hd]
    clear hd
    go_wp2_with fail
    go_roundw
    case rel =>
     refine ⟨j+1,by go_num,by omega,hid ⟨fun G hG=>?_,HI.out.2.trans HX5.out⟩⟩
     rw [yao,HA.out] at hG
     rcases yah.1 hG with h|h
     ·exact HI.out.1 G h
     ·have:G=A:=by simpa using h
      rw [this];exact HD.out
    case measure=>simp [RowKit.intOf];omega
  ·obtain rfl:j=n:=by omega
   go_wp2_with fail
   go_ret
   refine ⟨HI.out.2,.inl ⟨rfl,fun F hF=>HI.out.1 F ?_⟩⟩
   rw [yai (by rw [HNL.out];exact Nat.le_refl _)];exact hF
theorem take_fls {cur:Array Value}{n:Nat}{L:List Fl}(hl:L.length=n) (h4:cur.toList.take (n*4)=fls L) {i:Nat}(hi:i<n) (hs:n*4≤cur.size) (F:Fl) :
 (cur.toList.take (i*4)++F.cells++cur.toList.drop (i*4+4)).take (n*4)=fls (L.set i F):=by
 have hlen:cur.toList.length=cur.size:=by simp
 have e1:cur.toList.take (i*4)=fls (L.take i):=by
  have:cur.toList.take (i*4)=(cur.toList.take (n*4)).take (i*4):=by rw [List.take_take,Nat.min_eq_left (by omega)]
  rw [this,h4]
  conv=>lhs;rw [←yaS i L,zci]
  rw [List.take_append_of_le_length (by rw [zdw,yaB];omega),yai (by rw [zdw,yaB];omega)]
 have e2:(cur.toList.drop (i*4+4)).take (n*4-(i*4+4))=fls (L.drop (i+1)):=by
  have:(cur.toList.drop (i*4+4)).take (n*4-(i*4+4))=(cur.toList.take (n*4)).drop (i*4+4):=by rw [List.drop_take]
  rw [this,h4]
  conv=>lhs;rw [←yaS (i+1) L,zci]
  rw [List.drop_append_of_le_length (by rw [zdw,yaB];omega),List.drop_of_length_le (by rw [zdw,yaB];omega),yaP]
 have e3:L.set i F=L.take i++[F]++L.drop (i+1):=by
  rw [List.set_eq_take_append_cons_drop,if_pos (by omega)]
  simp
 rw [e3,zci,zci,←e1,←e2]
 have hc:fls [F]=F.cells:=by simp [fls]
 rw [hc,List.take_append]
 have hl2:(cur.toList.take (i*4)++F.cells).length=i*4+4:=by rw [yae,yaB,hlen,Nat.min_eq_left (by omega)];rfl
 rw [hl2,yai (by rw [hl2];omega)]
structure DelI (w0:World) (g n c:Nat) (l:List Fl) (N:Int) (i j:Nat) (cur:Array Value) (w:World):Prop where
 blk:w.heap[g]?=some (.cells cur 110 (0,0))
 size:cur.size=c*4
 row:∃L:List Fl,L.length=n∧cur.toList.take (n*4)=fls L∧L.take i=(l.take j).filter (zbR N)∧L.drop j=l.drop j
 chg:Chg (·=g) w0 w
 lt:i<j∧j≤n
theorem DelI.get {w0 w:World}{g n c:Nat}{l:List Fl}{N:Int}{i j:Nat}{cur:Array Value}(h:DelI w0 g n c l N i j cur w) (hnc:n≤c) (hj:j<n):∃A,l[j]?=some A∧w.cell? ⟨g,j*4,none⟩=some (.string A.nm)∧w.cell? ⟨g,j*4+1,none⟩=some (.int .i64 A.a)∧w.cell? ⟨g,j*4+2,none⟩=some (.int .i64 A.b)∧w.cell? ⟨g,j*4+3,none⟩=some (.int .i64 A.k):=by
 obtain ⟨L,h1,h2,h3,h4⟩:=h.row
 have hA:L[j]?=some L[j]:=yac (by omega)
 have hl:l[j]?=some L[j]:=by
  have e:(L.drop j)[0]?=(l.drop j)[0]?:=by rw [h4]
  rw [List.getElem?_drop,List.getElem?_drop,Nat.add_zero] at e
  rw [←e,hA]
 have key:∀k u,k<n*4→(fls L)[k]?=some u→w.cell? ⟨g,k,none⟩=some u:=fun k u hk hu=>by
  rw [zaa h.blk]
  have e:cur.toList[k]?=some u:=by rw [←hu,←h2,yaT,if_pos hk]
  simpa using e
 obtain ⟨e0,e1,e2,e3⟩:=fls_at L j L[j] hA
 exact ⟨L[j],hl,key _ _ (by omega) e0,key _ _ (by omega) e1,key _ _ (by omega) e2,key _ _ (by omega) e3⟩
theorem DelI.skip {w0 w w':World}{g n c:Nat}{l:List Fl}{N:Int}{i j:Nat}{cur:Array Value}(h:DelI w0 g n c l N i j cur w) {A:Fl}(hA:l[j]?=some A) (hd:A.b<N) (hj:j<n) (hx:Ext w w'):DelI w0 g n c l N i (j+1) cur w':=by
 obtain ⟨L,h1,h2,h3,h4⟩:=h.row
 refine ⟨(hx.block (zab h.blk)).trans h.blk,h.size,⟨L,h1,h2,?_,?_⟩,h.chg.trans (Chg.of_ext hx) (fun _ _ e=>e),by have:=h.lt;omega⟩
 ·rw [h3,yao,hA,yaW]
  have:zbR N A=false:=by unfold zbR;simp [hd]
  simp [this]
 ·rw [←List.drop_drop,←List.drop_drop,h4]
theorem DelI.put {w0 w w' w'':World}{g n c:Nat}{l:List Fl}{N:Int}{i j:Nat}{cur:Array Value}(h:DelI w0 g n c l N i j cur w) (hnc:n≤c) {A:Fl}(hA:l[j]?=some A) (hd:N≤A.b) (hj:j<n) (hx:Ext w w') (hb:w''.heap[g]?=some (.cells (cur.toList.take (i*4)++A.cells++cur.toList.drop (i*4+4)).toArray 110 (0,0))) (hc:Chg (·=g) w' w'') :
 DelI w0 g n c l N (i+1) (j+1) (cur.toList.take (i*4)++A.cells++cur.toList.drop (i*4+4)).toArray w'':=by
 obtain ⟨L,h1,h2,h3,h4⟩:=h.row
 have hlt:=h.lt
 have hsz:=h.size
 have hcs:A.cells.length=4:=rfl
 refine ⟨hb,?_,⟨L.set i A,by rw [List.length_set];exact h1,by simpa using take_fls h1 h2 (by omega) (by omega) A,?_,?_⟩,(h.chg.trans (Chg.of_ext (S:=(·=g)) hx) (fun _ _ e=>e)).trans hc (fun _ _ e=>e),by omega⟩
 ·simp only [List.size_toArray,yae,yaB,yaC,Array.length_toList,hcs]
  omega
 ·rw [yao,List.getElem?_set_self (by omega),List.take_set_of_le (by omega),h3,yao,hA,yaW]
  have:zbR N A=true:=by unfold zbR;simp;omega
  simp [this]
 ·rw [List.drop_set_of_lt (by omega),←List.drop_drop,←List.drop_drop,h4]
theorem fl_zero:∀w:World,(zeroValue 110).run Tryz.prog w=.ok (.agg #[.string ⟨#[]⟩,.int .i64 0,.int .i64 0,.int .i64 0]) w:=fun _=>by kernel_rfl
theorem zero_cells (n:Nat):(Builtin.zeroCells #[.string ⟨#[]⟩,.int .i64 0,.int .i64 0,.int .i64 0] n).size=n*4∧∀v∈(Builtin.zeroCells #[.string ⟨#[]⟩,.int .i64 0,.int .i64 0,.int .i64 0] n).toList,v.oneCell'=true:=by
 refine ⟨by simp [Builtin.zeroCells],fun v hv=>?_⟩
 simp only [Builtin.zeroCells,Array.toList_map,yap] at hv
 obtain ⟨i,_,rfl⟩:=hv
 have h:i%4=0∨i%4=1∨i%4=2∨i%4=3:=by omega
 show (#[Value.string ⟨#[]⟩,.int .i64 0,.int .i64 0,.int .i64 0][i%4]!).oneCell'=true
 rcases h with h|h|h|h<;>rw [h]<;>rfl
theorem DelI.fin {w0 w w':World}{g n c:Nat}{l:List Fl}{N:Int}{i:Nat}{cur:Array Value}(h:DelI w0 g n c l N i n cur w) (hnc:n≤c) (hc63:c≤maxLen) (hl:l.length=n) {Z:List Value}(hZ:Z.length=(n-i)*4) (hb:w'.heap[g]?=some (.cells (cur.toList.take (i*4)++Z++cur.toList.drop (i*4+Z.length)).toArray 110 (0,0))) (hc:Chg (·=g) w w') :
 i=(l.filter (zbR N)).length∧Row w' 110 4 (.slice (some ⟨g,0,none⟩) i c) i (fls (l.filter (zbR N)))∧Chg (·=g) w0 w':=by
 obtain ⟨L,h1,h2,h3,h4⟩:=h.row
 have hlt:=h.lt
 have hsz:=h.size
 rw [yai (l:=l) (by omega)] at h3
 have hi:i=(l.filter (zbR N)).length:=by rw [←h3,yaB];omega
 refine ⟨hi,⟨by rw [zdw,←hi],.inr ⟨g,c,_,rfl,Nat.zero_le _,hb,by omega,hc63,?_,?_⟩⟩,h.chg.trans hc (fun _ _ e=>e)⟩
 ·simp only [List.size_toArray,yae,yaB,yaC,Array.length_toList]
  omega
 ·have e1:cur.toList.take (i*4)=fls (L.take i):=by
   have:cur.toList.take (i*4)=(cur.toList.take (n*4)).take (i*4):=by rw [List.take_take,Nat.min_eq_left (by omega)]
   rw [this,h2]
   conv=>lhs;rw [←yaS i L,zci]
   rw [List.take_append_of_le_length (by rw [zdw,yaB];omega),yai (by rw [zdw,yaB];omega)]
  rw [←h3]
  show ((cur.toList.take (i*4)++Z++cur.toList.drop (i*4+Z.length))).take (i*4)=_
  rw [yaj,List.take_append_of_le_length (by rw [yaB];simp;omega),List.take_take,Nat.min_self,e1]
theorem DelI.start {w w1:World}{g n c:Nat}{l:List Fl}{N:Int}{i:Nat}{F:Fl}(h:Row w 110 4 (.slice (some ⟨g,0,none⟩) n c) n (fls l)) (hl:l.length=n) (hi:l[i]?=some F) (hd:F.b<N) (hp:∀G∈l.take i,N≤G.b) (hx:Ext w w1):∃cur,DelI w g n c l N i (i+1) cur w1∧n≤c∧c≤maxLen:=by
 obtain ⟨_,⟨e',_⟩|⟨g',cap,cur,e',_,hb,h1,h2,h3,h4⟩⟩:=h
 ·cases e'
 ·simp only [Value.slice.injEq,Option.some.injEq,Addr.mk.injEq,and_true,true_and] at e'
  obtain ⟨rfl,rfl⟩:=e'
  have hin:=(yad.1 hi).1
  refine ⟨cur,⟨(hx.block (zab hb)).trans hb,h3,⟨l,hl,h4,?_,rfl⟩,Chg.of_ext hx,by omega⟩,h1,h2⟩
  rw [yao,hi,yaW]
  have e1:(l.take i).filter (zbR N)=l.take i:=by
   rw [List.filter_eq_self]
   intro G hG
   have:=hp G hG
   unfold zbR;simp;omega
  have e2:zbR N F=false:=by unfold zbR;simp [hd]
  simp [e1,e2]
theorem deleteFl_any (w:World) (a:Option Addr) (n c:Nat) (l:List Fl) (hr:Row w 110 4 (.slice a n c) n (fls l)) (bb:Nat) (N:Int) (hb:w.cell? ⟨bb,0,none⟩=some (.int .i64 N)) (hne:a.map (·.block)≠some bb) (hn:n≤1000000) :
 Calls Tryz.prog 49 #[.slice a n c,.func (.func 50) #[] #[.pointer (some ⟨bb,0,none⟩)]] w fun e w'=>∃k,e=.returned (.slice a k c)∧k=(l.filter (zbR N)).length∧Row w' 110 4 (.slice a k c) k (fls (l.filter (zbR N)))∧Chg (fun b=>a.map (·.block)=some b) w w':=by
 have HR:=hid hr
 have HB:=hid hb
 have HNE:=hid hne
 have HNL:=hid (zaW (hr.src (fls_one _)))
 have HIX:=hid (indexFl_any w a n c l (hr.src (fls_one _)) bb N hb hn)
 clear hr hb hne
 go_enter Tryz.func49,Tryz.ntmps49
 go_wp2_with fail
 refine HIX.out.mono ?_
 rintro e w1 ⟨hx,⟨rfl,hall⟩|⟨i,F,hi,hd,hpre,rfl⟩⟩
 ·have HX:=hid hx
  have HALL:=hid hall
  clear hx hall HIX
  go_wp2_with fail
  go_ret
  have e:l.filter (zbR N)=l:=by
   rw [List.filter_eq_self]
   intro G hG
   have:=HALL.out G hG
   unfold zbR;simp;omega
  exact ⟨n,rfl,by rw [e];exact HNL.out.symm,by rw [e];exact HR.out.ext HX.out,Chg.of_ext HX.out⟩
 ·have hin:=(yad.1 hi).1
  have hin2:i<n:=by have:=HNL.out;omega
  obtain ⟨g,rfl⟩:∃g,a=some ⟨g,0,none⟩:=by
   rcases HR.out.2 with ⟨e,h0⟩|⟨g',cap,cur,e',_⟩
   ·omega
   ·simp only [Value.slice.injEq] at e'
    exact ⟨g',e'.1⟩
  obtain ⟨cur0,hD,hnc,hc63⟩:=DelI.start HR.out HNL.out hi hd hpre hx
  have HD0:=hid hD
  have HC63:=hid hc63
  have hbg:bb≠g:=fun e=>HNE.out (by rw [e];rfl)
  have hi1:((i:Int)==-1)=false:=yam.2 (by omega)
  clear hi hd hpre hx hD hin HIX hc63
  go_wp2_with fail
  clear hi1
  go_loopw [5,6] (fun s5 s6 wr=>∃(i j:Nat) (cur:Array Value),s5=.int .i64 (i:Int)∧s6=.int .i64 (j:Int)∧i<j∧j≤n∧Hid (DelI w g n c l N i j cur wr)) (fun _ t _=>n-(RowKit.intOf t).toNat)
  case atStart=>exact ⟨i,i+1,cur0,rfl,by go_num,by omega,by omega,HD0⟩
  case round =>
   clear HD0 hin2
   obtain ⟨i,j,cur,rfl,rfl,hij,hj,HI⟩:=hrel
   by_cases hlt:j<n
   ·obtain ⟨A,hA,a0,a1,a2,a3⟩:=HI.out.get hnc hlt
    have HA:=hid hA
    have HBW:=hid ((HI.out.chg.cell (yaf w _ HB.out) hbg).trans HB.out)
    clear hA
    go_upto_region 8 with fail
    generalize hV:World.alloc _ _=V
    obtain ⟨x,hx⟩:∃b,b=wr.heap.size:=⟨_,rfl⟩
    rw [←hx]
    have HXV:Hid (Ext wr V):=hid (by rw [←hV];exact (Ext.refl wr).alloc _)
    have HBX:Hid (V.heap[x]?=some (.cells #[.string A.nm,.int .i64 A.a,.int .i64 A.b,.int .i64 A.k] 110 (0,0))):=hid (by rw [←hV,hx];exact heap_alloc_new wr _)
    clear hV hx a0 a1 a2 a3
    have HCL:=hid (retire1_any V A bb N (zbf HXV.out HBW.out))
    go_wp2_with (refine zar rfl _ _ rfl _ _ _ _ _ rfl HBX.out Tryz.underlying110 rfl zcb ?_)
    refine HCL.out.mono ?_
    rintro e w5 ⟨rfl,hx5⟩
    have HX5:=hid (HXV.out.trans hx5)
    have HBX5:=hid ((hx5.block (zab HBX.out)).trans HBX.out)
    clear hx5 HCL
    by_cases hd:A.b<N
    ·have HD:=hid hd
     rw [decide_eq_true hd]
     clear hd
     go_wp2_with fail
     go_roundw
     case rel=>exact ⟨i,j+1,cur,rfl,by go_num,by omega,by omega,hid (HI.out.skip HA.out HD.out hlt HX5.out)⟩
     case measure=>simp [RowKit.intOf];omega
    ·have HD:=hid (Int.not_lt.1 hd)
     rw [decide_eq_false hd]
     clear hd
     have HGB:=hid ((HX5.out.block (zab HI.out.blk)).trans HI.out.blk)
     have hsz:i*4+4≤cur.size:=by rw [HI.out.size];omega
     go_wp2_with (first
      | (refine zar rfl _ _ rfl _ _ _ _ _ rfl HBX5.out Tryz.underlying110 rfl zcb ?_)
      | (refine zbm rfl _ _ _ rfl g (i*4) cur #[.string A.nm,.int .i64 A.a,.int .i64 A.b,.int .i64 A.k] (cur.toList.take (i*4)++A.cells++cur.toList.drop (i*4+4)).toArray _ rfl rfl HGB.out hsz (by simp [Fl.cells]) zcb (by simp [Value.oneCell']) ?_;rintro V8 hbV hcV;have HB8:=hid hbV;have HC8:=hid hcV;clear hbV hcV))
     go_roundw
     case rel=>exact ⟨i+1,j+1,_,by go_num,by go_num,by omega,by omega,hid (HI.out.put hnc HA.out HD.out hlt HX5.out HB8.out HC8.out)⟩
     case measure=>simp [RowKit.intOf];omega
   ·obtain rfl:j=n:=by omega
    obtain ⟨Z,hZ⟩:∃Z,Z=(Builtin.zeroCells #[.string ⟨#[]⟩,.int .i64 0,.int .i64 0,.int .i64 0] (j-i)).toList:=⟨_,rfl⟩
    have hzl:Z.length=(j-i)*4:=by rw [hZ];simpa using (zero_cells (j-i)).1
    have hsz:i*4+(Builtin.zeroCells #[.string ⟨#[]⟩,.int .i64 0,.int .i64 0,.int .i64 0] (j-i)).size≤cur.size:=by rw [(zero_cells (j-i)).1,HI.out.size];omega
    have hcl:=fun ty=>run_clear_gen (P:=Tryz.prog) wr 63 110 ty _ Tryz.underlying63 fl_zero g (i*4) (j-i) (c-i) (by omega) cur _ (zero_cells (j-i)).2 HI.out.blk hsz
    have hic:¬c-i=0:=by omega
    obtain ⟨W2,hW2⟩:∃W2,W2=wr.setRow g (cur.toList.take (i*4)++Z++cur.toList.drop (i*4+Z.length)).toArray:=⟨_,rfl⟩
    have HZL:=hid hzl
    have HB2:Hid (W2.heap[g]?=some (.cells (cur.toList.take (i*4)++Z++cur.toList.drop (i*4+Z.length)).toArray 110 (0,0))):=hid (by rw [hW2];exact setRow_heap wr g cur _ _ (0,0) HI.out.blk)
    have HC2:Hid (Chg (·=g) wr W2):=hid (by rw [hW2];exact ⟨rfl,rfl,rfl,by simp [World.setRow],fun k _ hn=>setRow_other wr g k _ hn⟩)
    have hcl2:∀ty,(Builtin.clear_ #[63] ty #[.slice (some ⟨g,i*4,none⟩) (j-i) (c-i)]).run Tryz.prog wr=.ok (.tuple #[]) W2:=fun ty=>by
     have:=hcl ty
     rw [hW2,hZ];exact this
    clear hcl hW2 hZ hsz hzl
    go_wp2_with fail
    go_ret
    obtain ⟨f1,f2,f3⟩:=HI.out.fin hnc HC63.out HNL.out HZL.out HB2.out HC2.out
    exact ⟨i,rfl,f1,f2,f3.mono (fun b _ e=>by rw [e];rfl)⟩
def retSt (s:Sta) (N:Int):Sta:=⟨s.x,s.r,s.q,s.km,s.fl.filter (zbR N),s.ti⟩
def RetTo (w:World) (p d:Nat) (s s':Sta) (B:List Nat) (v:StoV) (S:DiskS) (e:Ending) (w':World):Prop :=
 if s'.fl.length=s.fl.length then e=.returned (.int .i64 0)∧StoTo w p d s B v S w'
 else if (saveS S s').1≠0 then e=.returned (.int .i64 (saveS S s').1)∧StoTo w p d s B v (saveS S s').2 w'
 else e=.returned (.int .i64 (tidyS (saveS S s').2 s').1)∧∃v':StoV,v'.fn=s'.fl.length∧v'.tn=s'.ti.length∧v'.New w∧zds w p d s' B v' (tidyS (saveS S s').2 s').2 w'
theorem stoRetire_any {w:World}{p d k:Nat}{s:Sta}{S:DiskS}{B:List Nat}{v:StoV}(hk:k≤700000) (inv:DInv S k) (h:StoAt w p d s S B v) (hvn:v.fn≤1000∧v.tn≤1000) (N:Int) (hg:HasET w) (hgB:0∉B) :
 Calls Tryz.prog 25 #[.pointer (some ⟨p,0,none⟩),.int .i64 N] w (RetTo w p d s (retSt s N) B v S):=by
 have HH:=hid h
 have HI:=hid inv
 have HG:=hid hg
 have HGB:=hid hgB
 have HPL:=hid (zab h.box)
 have HFL:=hid (And.intro (zaW h.st.fl:s.fl.length=v.fn) (zaV h.st.ti:s.ti.length=v.tn))
 have HKM:=hid h.st.ok
 have HBLT:Hid (∀b,w.heap.size≤b→b∉B):=hid (fun b hb e=>by have:=h.disk.lt b e;omega)
 obtain ⟨fa,fn,fc,ta,tn,tc⟩:=v
 obtain ⟨sx,sr,sq,⟨mb,mt,mg⟩,fl,ti⟩:=s
 simp only at hvn HFL HKM
 clear h inv hg hgB
 go_enter Tryz.func25,Tryz.ntmps25
 go_upto_region 1 with fail
 generalize hW:World.alloc _ _=W
 obtain ⟨bb,hbb⟩:∃b,b=w.heap.size:=⟨_,rfl⟩
 rw [←hbb]
 have HXW:Hid (Ext w W):=hid (by rw [←hW];exact (Ext.refl w).alloc _)
 have HBB:Hid (W.heap[bb]?=some (.cells #[.int .i64 N] 3 (0,0))):=hid (by rw [←hW,hbb];exact heap_alloc_new w _)
 have HBN:Hid (w.heap.size=bb):=hid hbb.symm
 have HHW:=hid (HH.out.ext HXW.out)
 clear hW hbb
 go_wp2_with fail
 refine (zbL HHW.out).mono ?_
 rintro e w1 ⟨rfl,rfl⟩
 go_wp2_with (refine zbt rfl _ _ rfl p 1 (stoC d ⟨sx,sr,sq,⟨mb,mt,mg⟩,fl,ti⟩ ⟨fa,fn,fc,ta,tn,tc⟩) [.int .i64 sx,.int .i64 sr,.int .i64 sq,.bool mb,.int .i64 mt,.int .i64 mg,.slice fa fn fc,.slice ta tn tc] _ _ _ rfl HHW.out.box rfl Tryz.underlying66 rfl zaF ?_)
 refine (zcn W ⟨sx,sr,sq,⟨mb,mt,mg⟩,fl,ti⟩ fa ta fn fc tn tc HHW.out.st.fl HHW.out.st.ti (by omega) (by omega)).mono ?_
 rintro e w10 ⟨v4,hv1,hv2,rfl,ho4⟩
 obtain ⟨fa4,fn4,fc4,ta4,tn4,tc4⟩:=v4
 simp only at hv1 hv2
 subst hv1 hv2
 have HO4:=hid ho4
 have HX10:=hid ho4.ext
 have HX0:=hid ho4.ext.size
 have HBB10:=hid ((ho4.ext.block (zab HBB.out)).trans HBB.out)
 clear ho4
 go_upto_region 4 with fail
 generalize hW:World.alloc _ _=Wb
 obtain ⟨nb,hnb⟩:∃nb,nb=w10.heap.size:=⟨_,rfl⟩
 rw [←hnb]
 have hxb:Ext w10 Wb:=by rw [←hW];exact (Ext.refl w10).alloc _
 have HNB:Hid (Wb.heap[nb]?=some (.cells #[.int .i64 sx,.int .i64 sr,.int .i64 sq,.bool mb,.int .i64 mt,.int .i64 mg,.slice fa4 fn4 fc4,.slice ta4 tn4 tc4] 66 (0,0))):=hid (by rw [←hW,hnb];exact heap_alloc_new w10 _)
 have HXB:=hid (HX10.out.trans hxb)
 have HBBb:=hid ((hxb.block (zab HBB10.out)).trans HBB10.out)
 have HNN:Hid (w10.heap.size=nb):=hid hnb.symm
 have HTI:Hid (Row Wb 90 5 (.slice ta4 tn4 tc4) tn4 (trs ti)):=hid (HO4.out.t.ext hxb)
 have HFI:Hid (Row Wb 110 4 (.slice fa4 fn4 fc4) fn4 (fls fl)):=hid (HO4.out.f.ext hxb)
 have HTF:Hid (∀g,ta4.map (·.block)=some g→W.heap.size≤g∧g<nb):=hid (fun g hg=>⟨HO4.out.to' g hg,by have:=HO4.out.t.lt (g:=g) (by rw [zaq];exact hg);omega⟩)
 have HFF:Hid (∀g,fa4.map (·.block)=some g→W.heap.size≤g∧g<nb):=hid (fun g hg=>⟨HO4.out.fo g hg,by have:=HO4.out.f.lt (g:=g) (by rw [zaq];exact hg);omega⟩)
 have HNEQ:Hid (∀g,fa4.map (·.block)=some g→ta4.map (·.block)≠some g):=hid HO4.out.ne
 have hbbW:bb<W.heap.size:=zab HBB.out
 have HBW:=hid hbbW
 have hbc:Wb.cell? ⟨bb,0,none⟩=some (.int .i64 N):=by have:=zaa HBBb.out 0;simpa using this
 have HDL:=hid (deleteFl_any Wb fa4 fn4 fc4 fl HFI.out bb N hbc (fun e=>by have:=HFF.out bb e;omega) (by omega))
 clear hW hnb hxb HO4 HX10 hbc
 have y6:=zaa HNB.out 6
 simp at y6
 go_wp2_with fail
 refine HDL.out.mono ?_
 rintro e w5 ⟨q,rfl,hq,hrow,hch⟩
 have HQ:=hid hq
 have HROW:=hid hrow
 have HCH:=hid hch
 have HNB5:Hid (w5.heap[nb]?=some (.cells #[.int .i64 sx,.int .i64 sr,.int .i64 sq,.bool mb,.int .i64 mt,.int .i64 mg,.slice fa4 fn4 fc4,.slice ta4 tn4 tc4] 66 (0,0))):=hid ((hch.block nb (zab HNB.out) (fun e=>by have:=HFF.out nb e;omega)).trans HNB.out)
 clear hq hrow hch y6 HDL
 go_upto_region 5 with (refine zam rfl _ _ _ rfl nb 6 _ #[.int .i64 sx,.int .i64 sr,.int .i64 sq,.bool mb,.int .i64 mt,.int .i64 mg,.slice fa4 q fc4,.slice ta4 tn4 tc4] _ _ rfl rfl rfl rfl HNB5.out (by simp) rfl zcr ?_;rintro Vd hbV hcV _he;have HNBd:=hid hbV;have HCd:=hid hcV;clear hbV hcV _he)
 simp only [Act.put]
 have hcT:Chg (fun b=>b=nb∨fa4.map (·.block)=some b) Wb Vd:=(HCH.out.mono (fun i _ e=>.inr e)).trans (HCd.out.mono (fun i _ e=>.inl e)) (fun _ _ e=>e)
 have hWn:W.heap.size≤nb:=by have:=HX0.out;have:=HNN.out;omega
 have hwb:w.heap.size≤W.heap.size:=HXW.out.size
 have hpn:p<w.heap.size:=HPL.out
 have hBw:∀b∈B,b<w.heap.size:=HH.out.disk.lt
 have hff:=HFF.out
 have htf:=HTF.out
 have hnbV:nb<Vd.heap.size:=zab HNBd.out
 have hsd:StoAt Vd p d ⟨sx,sr,sq,⟨mb,mt,mg⟩,fl,ti⟩ S B ⟨fa,fn4,fc,ta,tn4,tc⟩:=(HHW.out.ext HXB.out).apart hcT (fun b hb e=>by
  have:=hBw b hb
  rcases e with e|e
  ·omega
  ·have:=hff b e;omega) (fun e=>by
  rcases e with e|e
  ·omega
  ·have:=hff p e;omega) (fun hn b hb e=>by
  have:=(HH.out.off.f hn b hb).2
  rcases e with e|e
  ·omega
  ·have:=hff b e;omega) (fun hn b hb e=>by
  have:=(HH.out.off.t hn b hb).2
  rcases e with e|e
  ·omega
  ·have:=hff b e;omega)
 have hin:StoV.In ⟨fa4,q,fc4,ta4,tn4,tc4⟩ Vd (retSt ⟨sx,sr,sq,⟨mb,mt,mg⟩,fl,ti⟩ N) :=
  ⟨(HROW.out.chg HCd.out (fun g hg e=>by rw [zaq] at hg;have:=hff g hg;omega)).src (fls_one _),(HTI.out.chg hcT (fun g hg e=>by
    rw [zaq] at hg
    have:=htf g hg
    rcases e with e|e
    ·omega
    ·exact HNEQ.out g e hg)).src (trs_one _),HKM.out,by have:=HQ.out;have:=List.length_filter_le (zbR N) fl;have:=HFL.out.1;show q<_;omega,by show tn4<_;omega⟩
 have hoff:StoV.Off ⟨fa4,q,fc4,ta4,tn4,tc4⟩ Vd (p::B):=⟨fun _ g hg=>by
  have h1:=hff g hg
  refine ⟨fun e=>?_,by omega⟩
  rcases yaq.1 e with e|e
  ·omega
  ·have:=hBw g e;omega,fun _ g hg=>by
  have h1:=htf g hg
  refine ⟨fun e=>?_,by omega⟩
  rcases yaq.1 e with e|e
  ·omega
  ·have:=hBw g e;omega⟩
 have HNEW:Hid (StoV.New ⟨fa4,q,fc4,ta4,tn4,tc4⟩ w):=hid ⟨fun g hg=>by have:=hff g hg;omega,fun g hg=>by have:=htf g hg;omega⟩
 have hcw:Chg (·∈B) w Vd:=((Chg.of_ext (S:=(·∈B)) (HXW.out.trans HXB.out)).trans hcT (fun i hi e=>by
  rcases e with e|e
  ·omega
  ·have:=hff i e;omega))
 have hgd:HasET Vd:=HG.out.chg hcw HGB.out
 have HCWD:=hid hcw
 have HGD:=hid hgd
 have HSD:=hid hsd
 have HIN:=hid hin
 have HOFF:=hid hoff
 have hql:q≤fn4:=by have:=HQ.out;have:=List.length_filter_le (zbR N) fl;have:=HFL.out.1;omega
 have HQF:Hid ((retSt ⟨sx,sr,sq,⟨mb,mt,mg⟩,fl,ti⟩ N).fl.length=q∧fl.length=fn4):=hid ⟨HQ.out.symm,HFL.out.1⟩
 clear hcT hWn hwb hff htf hnbV hsd hin hoff hcw hgd hBw hpn hbbW
 have z6:=zaa HNBd.out 6
 have z7:=zaa HSD.out.box 7
 simp at z6 z7
 go_big_quiet (fail)
 generalize hWq:Vd.drewN nq=Vq
 have HXQ:Hid (Ext Vd Vq):=hid (by subst hWq;exact Ext.drewN _ _)
 have HSQ:=hid (HSD.out.ext HXQ.out)
 have HNBq:=hid ((HXQ.out.block (zab HNBd.out)).trans HNBd.out)
 have HCWQ:Hid (Chg (·∈B) w Vq):=hid (HCWD.out.trans (Chg.of_ext HXQ.out) (fun _ _ e=>e))
 have HINQ:Hid (StoV.In ⟨fa4,q,fc4,ta4,tn4,tc4⟩ Vq (retSt ⟨sx,sr,sq,⟨mb,mt,mg⟩,fl,ti⟩ N)):=hid (HIN.out.chg (B:=p::B) (Chg.of_ext (S:=fun _=>False) HXQ.out) HOFF.out (fun _ _ e=>e.elim))
 have HOFQ:Hid (StoV.Off ⟨fa4,q,fc4,ta4,tn4,tc4⟩ Vq (p::B)):=hid (HOFF.out.to HXQ.out.size (fun b hb=>.inl hb))
 clear hWq z6 z7
 by_cases hqe:q=fn4
 ·have hb1:((q:Int)==(fn4:Int))=true:=beq_iff_eq.2 (by omega)
  have HQE:=hid hqe
  clear hqe
  go_wp2_with fail
  go_ret
  unfold RetTo
  rw [if_pos (by rw [HQF.out.1,HQE.out];exact HQF.out.2.symm)]
  exact ⟨rfl,B,HSQ.out,HCWQ.out,fun b hb=>.inl hb⟩
 ·have hb1:((q:Int)==(fn4:Int))=false:=yam.2 (by omega)
  have HQE:=hid hqe
  have HINS:=hid (zdu (k:=k) (by omega) HI.out HSQ.out HINQ.out HOFQ.out (HGD.out.ext HXQ.out))
  clear hqe
  go_wp2_with (refine zar rfl _ _ rfl _ _ _ _ _ rfl HNBq.out Tryz.underlying66 rfl zaF ?_)
  clear hb1
  refine HINS.out.mono ?_
  rintro e we ⟨rfl,hre⟩
  obtain ⟨R2,hR2⟩:∃R2,R2=saveS S (retSt ⟨sx,sr,sq,⟨mb,mt,mg⟩,fl,ti⟩ N):=⟨_,rfl⟩
  have HIS:Hid (DInv R2.2 (k+4)):=hid (by rw [hR2];exact HI.out.save _)
  have HR2:=hid hR2.symm
  rw [←hR2] at hre ⊢
  clear hR2
  obtain ⟨z2,S2⟩:=R2
  simp only at hre HIS ⊢
  by_cases hz2:z2=0
  ·subst hz2
   rw [if_pos rfl] at hre
   obtain ⟨B2,h2',c2,n2⟩:=hre
   have HA2:=hid h2'
   have HC2:=hid (And.intro c2 n2)
   clear h2' c2 n2
   go_wp2_with fail
   refine (stoTidy_any HIS.out (by omega) HA2.out (by show q≤_;omega) (by show tn4≤_;omega)).mono ?_
   rintro e wf ⟨rfl,hto⟩
   have HTO:=hid hto
   clear hto
   go_wp2_with fail
   go_ret
   unfold RetTo
   rw [if_neg (by rw [HQF.out.1];show ¬q=fl.length;rw [HQF.out.2];exact HQE.out),HR2.out,if_neg (by simp)]
   refine ⟨rfl,⟨fa4,q,fc4,ta4,tn4,tc4⟩,HQF.out.1.symm,HFL.out.2.symm,HNEW.out,?_⟩
   have h1:=zds.then (w:=Vq) HC2.out.1 HC2.out.2 HTO.out
   exact zds.more HPL.out (HCWQ.out.mono (fun i _ e=>.inr e)) (fun b hb=>.inl hb) h1
  ·have hz0:(z2==0)=false:=yam.2 hz2
   have hz1:(z2 != 0)=true:=bne_iff_ne.2 hz2
   rw [if_neg hz2] at hre
   have HRE2:=hid hre
   clear hre
   go_wp2_with fail
   go_ret
   unfold RetTo
   rw [if_neg (by rw [HQF.out.1];show ¬q=fl.length;rw [HQF.out.2];exact HQE.out),HR2.out,if_pos hz2]
   exact ⟨rfl,StoTo.more HCWQ.out (fun b hb=>.inl hb) HRE2.out⟩
def keepG (N:Int) (g:Nat×List Prt):Bool:=zbR N (zcW (nameS 115 g.1) g.2)
theorem flsOf_filter (G:Gs) (N:Int):(flsOf G).filter (zbR N)=flsOf (G.filter (keepG N)):=by
 unfold flsOf
 rw [List.filter_map]
 rfl
theorem StI.ret_eq {S:DiskS}{s:Sta}{G:Gs}{X c:Nat}(h:StI S s G X c) (N:Int):retSt s N=⟨(X:Int),s.r,s.q,km5,flsOf (G.filter (keepG N)),[]⟩:=by
 unfold retSt
 rw [h.fl,h.ti,h.km,h.x,flsOf_filter]
theorem totG_filter (G:Gs) (P:Nat×List Prt→Bool):totG (G.filter P)≤totG G:=by
 induction G with
 | nil=>exact Nat.le_refl _
 | cons g G ih =>
  have e:totG (g::G)=manyP g.2+totG G:=by simp [totG]
  rw [List.filter_cons]
  split
  ·have e':totG (g::G.filter P)=manyP g.2+totG (G.filter P):=by simp [totG]
   omega
  ·omega
theorem step_retire {S:DiskS}{s:Sta}{G:Gs}{X c:Nat}(h:StI S s G X c) (N:Int) :
 ∃S2 S3,saveS S (retSt s N)=(0,S2)∧tidyS S2 (retSt s N)=(0,S3)∧StI S3 (retSt s N) (G.filter (keepG N)) X (c+1028):=by
 have h0:=h.rq
 have hfew:=h.few
 have hfl:=List.length_filter_le (keepG N) G
 have hX:=h.num.2.2
 have hok:∀g∈G.filter (keepG N),PrtsOk g.2∧∀q∈g.2,∀p∈q.2,-9223372036854775808≤p.v∧p.v≤9223372036854775807:=fun g hg=>h.ok g (yay.1 hg).1
 have hr:staR (retSt s N)=true:=by
  rw [h.ret_eq]
  exact staR_of (fun g hg=>(hok g hg).1) (by omega) (by omega) (by omega) (by omega)
 have hu:=h.used
 have hl:=h.len
 obtain ⟨S2,e2,o2⟩:=save_ok h.inv h.left h.noN hr (by rw [h.ret_eq];exact km5_ok) (by rw [h.room];omega) (by omega)
 have i2:DInv S2 (c+4):=by have k:=h.inv.save (retSt s N);rw [e2] at k;exact k
 have l2:S2.left<0:=by rw [o2.left,zbI h.left];exact h.left
 have g2:∀k,aget S2.files k=if k=fM then some ⟨sealL 7 (staP (retSt s N)),(sealL 7 (staP (retSt s N))).length,true⟩ else aget S.files k:=fun k=>by rw [o2.get];rfl
 have hN:zbH (retSt s N)=(G.filter (keepG N)).map fun g=>nameS 115 g.1:=by rw [h.ret_eq,names_flsOf]
 have hkeys:∀k,(aget S2.files k).isSome=true→k=fM∨∃g∈G,k=nameS 115 g.1:=fun k hk=>by
  rw [g2] at hk
  by_cases e:k=fM
  ·exact .inl e
  ·rw [if_neg e] at hk
   exact h.keys k hk
 have hR:S2.list fR=[]:=by
  cases hL:S2.list fR with
  | nil=>rfl
  | cons f L =>
   have hm:f∈S2.list fR:=by rw [hL];simp
   obtain ⟨h1,h2⟩:=zcp.1 hm
   rcases hkeys f h1 with e|⟨g,_,e⟩
   ·rw [e,pre_m.2] at h2;cases h2
   ·rw [e,pre_r] at h2;cases h2
 have hL:tidyL S2=S2.list fS:=by unfold tidyL;rw [hR];rfl
 obtain ⟨S3,e3,o3⟩:=tidy_ok (N:=zbH (retSt s N)) (L:=tidyL S2) i2 l2 (by rw [hL];exact list_nodupS i2.ok.names _) (fun f hf=>by
  rw [hL] at hf
  obtain ⟨h1,h2⟩:=zcp.1 hf
  refine ⟨h1,?_⟩
  rcases hkeys f h1 with e|⟨g,_,e⟩
  ·rw [e,pre_m.1] at h2;cases h2
  ·rw [e];exact nameS_ok _ _)
 have i3:DInv S3 (c+1028):=by
  have h3:=i2.tidy (N:=zbH (retSt s N)) (L:=tidyL S2)
  rw [e3] at h3
  exact h3.mono (by have:=(tidyL_small i2).1;omega)
 have gM:aget S3.files fM=some ⟨sealL 7 (staP (retSt s N)),(sealL 7 (staP (retSt s N))).length,true⟩:=by
  rw [o3.get,if_neg,g2,if_pos rfl]
  rintro ⟨h1,_⟩
  rw [hL] at h1
  have h2:=(zcp.1 h1).2
  rw [pre_m.1] at h2;cases h2
 refine ⟨S2,S3,e2,e3,?_⟩
 refine { st:=h.ret_eq N,rq:=h0,num:=⟨h.num.1.sublist ((List.filter_sublist (l:=G)).map _),fun g hg=>h.num.2.1 g (yay.1 hg).1,hX⟩,ok:=hok,inv:=i3,left:=by rw [o3.left,zbI l2];exact l2,room:=by rw [o3.room,o2.room];exact h.room,file:=fun g hg=>?_,man:=.inl ⟨_,gM,rfl⟩,keys:=fun k hk=>?_,few:=by omega,tot:=by have:=totG_filter G (keepG N);have:=h.tot;omega }
 ·rw [o3.get,if_neg,g2,if_neg (nameS_fM _)]
  ·exact h.file g (yay.1 hg).1
  ·rintro ⟨_,h1⟩
   exact h1 (by rw [hN];exact yax (f:=fun g:Nat×List Prt=>nameS 115 g.1) hg)
 ·rw [o3.get] at hk
  by_cases hkn:k∈tidyL S2∧k∉zbH (retSt s N)
  ·rw [if_pos hkn] at hk;cases hk
  ·rw [if_neg hkn] at hk
   rcases hkeys k hk with e|⟨g,hg,e⟩
   ·exact .inl e
   ·right
    have hin:k∈tidyL S2:=by rw [hL];exact zcp.2 ⟨hk,by rw [e];exact pre_s _⟩
    have hnm:k∈zbH (retSt s N):=Classical.byContradiction fun hc=>hkn ⟨hin,hc⟩
    rw [hN] at hnm
    obtain ⟨g',hg',e'⟩:=yap.1 hnm
    exact ⟨g',hg',e'.symm⟩
theorem retire_good {w0 w:World}{p d:Nat}{r:Int}{G:Gs}{X c:Nat}{B:List Nat}(h:StoI w0 p d r G X c B w) (N:Int) (hc:c≤500000) :
 Calls Tryz.prog 25 #[.pointer (some ⟨p,0,none⟩),.int .i64 N] w fun e w'=>e=.returned (.int .i64 0)∧∃c',c'≤c+1028∧StepTo w0 p d r (G.filter (keepG N)) X c' B w w':=by
 obtain ⟨s,S,B0,v,h1,h2,h3,h4,h5⟩:=h.at'
 have hfl:=h1.lens
 have e0:s.fl.length=G.length:=h2.flLen
 have e1:s.ti.length=0:=by rw [h2.ti];rfl
 have hfew:=h2.few
 have e2:(retSt s N).fl.length=(G.filter (keepG N)).length:=by rw [h2.ret_eq];simp [flsOf]
 refine (stoRetire_any (k:=c) (by omega) h2.inv h1 ⟨by omega,by omega⟩ N h.et' (h.gB h4)).mono ?_
 intro e w' hw
 unfold RetTo at hw
 by_cases hq:(retSt s N).fl.length=s.fl.length
 ·rw [if_pos hq] at hw
  obtain ⟨rfl,B',k1,k2,k3⟩:=hw
  have hGe:G.filter (keepG N)=G:=by
   have:=List.filter_sublist (p:=keepG N) (l:=G)
   exact this.eq_of_length (by omega)
  rw [hGe]
  exact ⟨rfl,c,by omega,h.grow k1 h2 h3 h4 (k2.mono (fun i _ e=>.inr e)) k3 (fun g hg=>.inl (h5 g hg))⟩
 ·obtain ⟨S2,S3,g1,g2,g3⟩:=step_retire h2 N
  rw [if_neg hq,g1] at hw
  simp only [ne_eq,not_true,if_false] at hw
  rw [g2] at hw
  obtain ⟨rfl,v',hv1,hv2,hv3,B',k1,k2,k3⟩:=hw
  exact ⟨rfl,c+1028,by omega,h.grow k1 g3 h3 h4 k2 k3 (fun g hg=>.inr (hv3.blks g hg))⟩
def keepM (N:Int) (q:PaM):Bool:=!decide (hiT q.l<N)
theorem hiS_one {nm:ByteArray}{l:List Pt}(hc:colV l=true):hiS (zaw [(nm,l)])=hiT l:=by
 have h:=span_colV hc
 show max (-1152921504606846976) (hiT l)=hiT l
 omega
theorem SameG.filter:∀{G:Gs}{F:List PaM},SameG G F→(∀q∈F,colV q.l=true)→∀N:Int,SameG (G.filter (keepG N)) (F.filter (keepM N))
 | [],[],_,_,_=>rfl
 | [],q::F,h,_,_=>by cases h
 | g::G,[],h,_,_=>by cases h
 | g::G,q::F,h,hc,N=>by
  unfold SameG at h
  rw [yaJ,yaJ] at h
  obtain ⟨h1,h2⟩:=List.cons.inj h
  have ih:=SameG.filter (G:=G) (F:=F) h2 (fun x hx=>hc x (by simp [hx])) N
  have hk:keepG N g=keepM N q:=by
   unfold keepG zbR keepM zcW
   simp only
   rw [h1,hiS_one (hc q (by simp))]
  rw [List.filter_cons,List.filter_cons,hk]
  split
  ·unfold SameG
   rw [yaJ,yaJ,h1]
   exact congrArg _ ih
  ·exact ih
theorem SameG.hold {G:Gs}{F:List PaM}(h:SameG G F) (n:ByteArray):holdG G n=modH F n:=by
 have e1:holdG G n=(G.map Prod.snd).map fun Q=>ofN Q n:=by simp [holdG,Function.comp_def]
 rw [e1,h,List.map_map]
 unfold modH
 refine List.map_congr_left fun q _=>?_
 show ofN [(q.nm,q.l)] n=_
 rw [ofN,ofN]
theorem SameG.mod {G:Gs}{F:List PaM}(h:SameG G F) (hc:∀q∈F,colV q.l=true) (hf:F.length≤25) (hs:(F.map fun q=>q.l.length).sum≤600):ModI G F :=
 ⟨fun n=>by rw [h.hold n];exact EqvL.refl _,hc,hf,hs⟩
theorem sum_filterM (F:List PaM) (P:PaM→Bool):((F.filter P).map fun q=>q.l.length).sum≤(F.map fun q=>q.l.length).sum:=by
 induction F with
 | nil=>exact Nat.le_refl _
 | cons q F ih =>
  rw [List.filter_cons]
  split
  ·simp only [yaJ,yaI];omega
  ·simp only [yaJ,yaI];omega
end
section
open Go.RowKit Go.Sort Go.Lib
theorem span2_infoP:(Tryz.prog.info? 61).map (·.size)=some 2:=by kernel_rfl
def PlayI (w0:World) (p d mb N j:Nat) (w:World):Prop:=∃G F X c B ma mn mc,LawI w0 p d mb N j G F X c B ma mn mc w∧SameG G F
theorem PlayI.ext {w0 w w':World}{p d mb N j:Nat}(h:PlayI w0 p d mb N j w) (hx:Ext w w'):PlayI w0 p d mb N j w':=by
 obtain ⟨G,F,X,c,B,ma,mn,mc,h1,h2⟩:=h
 exact ⟨G,F,X,c,B,ma,mn,mc,h1.ext hx,h2⟩
structure LeftI (w5:World) (F:List PaM) (N:Int) (k:Nat) (la:Option Addr) (ln lc:Nat) (wr:World):Prop where
 row:Row wr 48 2 (.slice la ln lc) ln (pams ((F.take k).filter (keepM N)))
 own:∀g,la.map (·.block)=some g→w5.heap.size≤g
 ext:Ext w5 wr
theorem last_src {w:World}{a:Option Addr}{n c:Nat}{l:List Pt}(h:Src w 3 (.slice a n c) n (pts l)) {k:Nat}(hk:k<n) :
 ∃b off y,a=some ⟨b,off,none⟩∧l[k]?=some y∧w.cell? ⟨b,off+k*3,none⟩=some (.int .i64 y.t):=by
 rcases h with ⟨_,h,_⟩|⟨ad,c',h,hl,h2,_⟩
 ·omega
 ·simp at h
  obtain ⟨rfl,rfl⟩:=h
  rw [pts_len3] at hl
  have hkl:k<l.length:=by omega
  have key:∀j (hj:j<l.length),(pts l)[j*3]?=some (.int .i64 (l[j]).t):=by
   intro j hj
   have:∀(L:List Pt) (j:Nat) (x:Pt),L[j]?=some x→(pts L)[j*3]?=some (.int .i64 x.t):=by
    intro L
    induction L with
    | nil=>intro j x hx;simp at hx
    | cons y L ih =>
     intro j x hx
     cases j with
     | zero=>simp at hx;subst hx;simp [pts,Pt.cells]
     | succ j =>
      have:=ih j x (by simpa using hx)
      rw [show (j+1)*3=j*3+3 by omega]
      simpa [pts,Pt.cells] using this
   exact this l j _ (yac hj)
  have hz:=h2 _ _ (key 0 (by omega))
  obtain ⟨b,off,spot⟩:=ad
  have hspot:spot=none:=by simpa [Addr.add] using World.cell?_spot hz
  subst hspot
  have:=h2 _ _ (key k hkl)
  simp only [yak] at this
  exact ⟨b,off,l[k],rfl,yac hkl,this⟩
theorem storePlays_any (w:World) (a:Option Addr) (n c:Nat) (P:List AcM) (hs:Src w 5 (.slice a n c) n (acms P)) (hok:∀p∈P,p.Ok w) (hn:n<4398046511104) (f t:Int) (hg:HasET w) :
 Calls Tryz.prog 6 #[.slice a n c,.agg #[.int .i64 f,.int .i64 t]] w fun e w'=>e=.returned (.bool true)∧Ext w w':=by
 have HS:=hid hs
 have HOK:=hid hok
 have HG:=hid hg
 have HPL:=hid (acms_src_len hs)
 clear hs hok hg
 go_enter Tryz.func6,Tryz.ntmps6
 go_upto_region 1 with fail
 generalize hW:World.alloc _ _=W
 obtain ⟨sb,hsb⟩:∃b,b=w.heap.size:=⟨_,rfl⟩
 rw [←hsb]
 have HXW:Hid (Ext w W):=hid (by rw [←hW];exact (Ext.refl w).alloc _)
 have HSB:Hid (W.heap[sb]?=some (.cells #[.int .i64 f,.int .i64 t] 61 (0,0))):=hid (by rw [←hW,hsb];exact heap_alloc_new w _)
 clear hW hsb
 go_wp2_with fail
 refine (lawFew_any W a n c P (HS.out.ext HXW.out) (fun p hp=>(HOK.out p hp).ext HXW.out) hn).mono ?_
 rintro e w1 ⟨rfl,rfl⟩
 by_cases hfew:n+manyA P<600
 case neg =>
  rw [decide_eq_false hfew]
  go_wp2_with fail
  go_ret
  exact ⟨rfl,HXW.out⟩
 rw [decide_eq_true hfew]
 have HFEW:=hid hfew
 have hn6:n<600:=by omega
 clear hfew
 go_wp2_with fail
 refine (disk_new (by omega) (by omega) W).mono ?_
 rintro e w2 ⟨rfl,hd,hx⟩
 obtain ⟨d,hde⟩:∃d,d=W.heap.size+1:=⟨_,rfl⟩
 have hB:∀b∈[W.heap.size+1,W.heap.size],W.heap.size≤b:=fun b hb=>by simp at hb;omega
 have HO:=hid (open_new hd hx hB (HG.out.ext HXW.out))
 rw [←hde] at HO ⊢
 clear hd hx hB hde
 go_wp2_with fail
 refine HO.out.mono ?_
 rintro e w3 ⟨p,B,rfl,hsto⟩
 have HSTO:=hid hsto
 clear hsto HO
 go_upto_region 10 with fail
 generalize hW:World.alloc _ _=w4
 obtain ⟨mb,hmb⟩:∃b,b=w3.heap.size:=⟨_,rfl⟩
 rw [←hmb]
 have hpl:p<w3.heap.size:=by
  obtain ⟨s,S,B0,v,q1,_⟩:=HSTO.out.at'
  exact zab q1.box
 have HL0:Hid (PlayI W p d mb 0 0 w4):=hid ⟨_,_,_,_,_,_,_,_,LawI.start HSTO.out hmb.symm (by rw [←hW];exact (Ext.refl w3).alloc _) (by rw [←hW,hmb];exact heap_alloc_new w3 _) hpl,rfl⟩
 clear hW hmb hpl HSTO
 go_upto_block 0 with fail
 go_cut [9] (fun s9 wc=>Hid (PlayI W p d mb 599 25 wc))
 case first =>
  go_wp2_with fail
  go_loopw [9] (fun s9 wr=>∃j:Nat,s9=.int .i64 (j:Int)∧j≤n∧j≤25∧Hid (PlayI W p d mb (manyA (P.take j)) j wr)) (fun z _=>25-(RowKit.intOf z).toNat)
  case atStart=>exact ⟨0,rfl,by omega,by omega,hid (show PlayI W p d mb (manyA (P.take 0)) 0 w4 from by simpa [manyA] using HL0.out)⟩
  case round =>
   clear HL0
   obtain ⟨j,rfl,hj,hj25,HI⟩:=hrel
   by_cases hlt:j<n
   ·by_cases h25:j<25
    ·obtain ⟨G,F,X,cc,B,ma,mn,mc,hL,hsm⟩:=HI.out
     have HL:=hid hL
     have HSM:=hid hsm
     obtain ⟨b,off,q,rfl,hq,d0,d1,d2,d3,d4⟩:=acms_src (HS.out.ext HXW.out) hlt
     have c0:=zbf hL.world d0
     have c1:=zbf hL.world d1
     have c2:=zbf hL.world d2
     have c3:=zbf hL.world d3
     have c4:=zbf hL.world d4
     have HQ:=hid (((HOK.out q (yag hq)).ext HXW.out))
     have HMA:=hid (manyA_take hq)
     have HML:=hid (manyA_le P (j+1))
     clear hL hsm hq HI d0 d1 d2 d3 d4
     go_upto_region 14 with fail
     generalize hW:World.alloc _ _=v1
     obtain ⟨ab,hab⟩:∃k,k=wr.heap.size:=⟨_,rfl⟩
     rw [←hab]
     have HX1:Hid (Ext wr v1):=hid (by rw [←hW];exact (Ext.refl wr).alloc _)
     have HAB:Hid (v1.heap[ab]?=some (.cells #[.int .i64 q.k,.int .u8 (q.nm:Int),.slice q.pa q.pn q.pc,.int .i64 q.n,.slice q.ka q.kn q.kc] 41 (0,0))):=hid (by rw [←hW,hab];exact heap_alloc_new wr _)
     have HABP:Hid (ab≠p∧ab∉B∧ab≠mb∧ma.map (·.block)≠some ab∧W.heap.size≤ab):=hid (by
      obtain ⟨r,h1,_⟩:=HL.out.sto
      obtain ⟨s,S,B0,v,q1,_⟩:=h1.at'
      refine ⟨fun e=>by have:=zab q1.box;omega,fun e=>by have:=h1.lt ab e;omega,fun e=>by have:=zab HL.out.mo.box;omega,fun e=>by have:=HL.out.mo.row.lt (g:=ab) (by rw [zaq];exact e);omega,by rw [hab];exact HL.out.world.size⟩)
     have HL1:=hid (HL.out.ext HX1.out)
     clear hW hab c0 c1 c2 c3 c4
     have y0:=zaa HAB.out 0
     simp at y0
     go_upto_block 2 with fail
     clear y0
     have hmn:mn≤25:=by have:=HL.out.mn;have:=HL.out.len;omega
     go_cut [10] (fun s10 wx=>s10=.pointer (some ⟨ab,0,none⟩)∧Hid (PlayI W p d mb (manyA (P.take (j+1))) (j+1) wx))
     case first =>
      have y1:=zaa HAB.out 1
      have y2:=zaa HAB.out 2
      have y3:=zaa HAB.out 3
      simp at y1 y2 y3
      obtain ⟨r,hst,hrj⟩:=HL1.out.sto
      have HST:=hid hst
      have HRJ:=hid hrj
      clear hst hrj
      by_cases hk0:q.k=0
      ·have hk0':(q.k==0)=true:=beq_iff_eq.2 hk0
       clear hk0
       as_aux_lemma =>
        have HFB:∀(Ws:World) (bk:Nat),Ext v1 Ws→Ws.heap[bk]?=some (.cells #[.string (nmL q.nm),.slice q.pa q.pn q.pc] 43 (0,0))→Calls Tryz.prog 11 #[.pointer (some ⟨p,0,none⟩),.slice (some ⟨bk,0,none⟩) 1 1,.int .i64 (j:Int),.int .i64 (j:Int),.agg #[.bool false,.int .i64 0,.int .i64 5]] Ws fun e w'=>(colV q.l=true∧e=.returned (.int .i64 0)∧StepTo W p d (j:Int) (G++[(X,[(nmL q.nm,q.l)])]) (X+1) (cc+7) B Ws w')∨(colV q.l=false∧e=.returned (.int .i64 2)∧StepTo W p d r G X cc B Ws w'):=by
         intro Ws bk hx hb
         have hCs:=HL1.out.ext hx
         have hrj:=HRJ.out
         have hlen:=hCs.len
         have hsum:=hCs.sum
         have hqo:=HQ.out.ext hCs.world
         have hpn:=hqo.pn
         have h1:=HMA.out
         have h2:=HML.out
         have h3:=HFEW.out
         by_cases hc:colV q.l=true
         ·exact (flush_good (HST.out.next hx) j hrj (by omega) (by omega) (by omega) (by omega) (some ⟨bk,0,none⟩) 1 q.part (src_pam hb) hqo.part (nmL_valid _) hc hqo.v (by show totG G+q.l.length≤600;omega)).mono (fun e w' h=>.inl ⟨hc,h⟩)
         ·have hc':colV q.l=false:=by simpa using hc
          exact (flush_bad (HST.out.next hx) j hrj (by omega) (by omega) (by omega) (by omega) (some ⟨bk,0,none⟩) 1 q.part (src_pam hb) hqo.part (nmL_valid _) hc' (by show q.pn≤1024;omega)).mono (fun e w' h=>.inr ⟨hc',h⟩)
        have HFL:=hid HFB
        clear HFB y3
        have x1:=zaf (T:=fun _=>false) y1 rfl
        have x2:=zaf (T:=fun _=>false) y2 rfl
        clear y1 y2
        go_upto_region 16 with fail
        refine zao 11 (fun w'=>∃z:Turned,w'=turned v1 (fun _=>false) z.d z.f z.os) (.reads [0,1,2,4,5,8,9,10] (.one 3 (.one 6 (.one 7 (.one 11 (.one 12 .done)))))) (by kernel_rfl) (by kernel_rfl) (fun _ _ dd _ _ hh=>by cases dd<;>exact hh) ?_ ?_
        ·exact zac (Ext.drewN v1 1)
        refine zak ?_
        simp only [zad,yab,yaa]
        repeat (go_big_quiet_step (fail))
        refine yaF ?_
        clear x1 x2
        change zaz _ _ _ _ _ _ _ _ (v1.drewN 1)
        have HXd:Hid (Ext v1 (v1.drewN 1)):=hid (Ext.drewN v1 1)
        generalize v1.drewN 1=Wd at HXd ⊢
        refine zae ?_
        simp only [zad,yab,yaa]
        go_wp2_with fail
        refine (zea Wd q.nm HQ.out.nm).mono ?_
        rintro e w6 ⟨rfl,hx6⟩
        have HX6:=hid (HXd.out.trans hx6)
        clear hx6 HXd
        go_wp2_with fail
        refine zaj (zac HX6.out) (zae ?_)
        simp only [zad,yab,yaa]
        go_wp2_with fail
        refine zaj (zac HX6.out) (zae ?_)
        simp only [zad,yab,yaa]
        go_wp2_with fail
        generalize hW6:World.alloc _ _=wS
        obtain ⟨bk,hbk⟩:∃k,k=w6.heap.size:=⟨_,rfl⟩
        rw [←hbk]
        have HXS:Hid (Ext v1 wS):=hid (HX6.out.trans (by rw [←hW6];exact (Ext.refl w6).alloc _))
        have HBK:Hid (wS.heap[bk]?=some (.cells #[.string (nmL q.nm),.slice q.pa q.pn q.pc] 43 (0,0))):=hid (by rw [←hW6,hbk];exact heap_alloc_new w6 _)
        clear hW6 hbk HX6
        refine zaj (zac HXS.out) (zae ?_)
        simp only [zad,yab,yaa]
        go_wp2_with fail
        refine (HFL.out wS bk HXS.out HBK.out).mono ?_
        rintro e w7 hres
        have hcom:Chg (fun b=>b=p∨b∈B) wS w7∧MoAt w7 mb F ma mn mc∧Ext W w7:=by
         rcases hres with ⟨_,_,hst⟩|⟨_,_,hst⟩
         ·obtain ⟨k1,k2⟩:=(HL1.out.ext HXS.out).mid hst
          obtain ⟨B7,_,h2,_⟩:=hst
          exact ⟨h2,k1,k2⟩
         ·obtain ⟨k1,k2⟩:=(HL1.out.ext HXS.out).mid hst
          obtain ⟨B7,_,h2,_⟩:=hst
          exact ⟨h2,k1,k2⟩
        obtain ⟨hc7,hmo7,hx7⟩:=hcom
        have HMO7:=hid hmo7
        have HX7:=hid hx7
        have HABS:=hid ((HXS.out.block (zab HAB.out)).trans HAB.out)
        have HAB7:=hid ((hc7.block ab (zab HABS.out) (fun e=>e.elim HABP.out.1 HABP.out.2.1)).trans HABS.out)
        clear hc7 hmo7 hx7 HFL HBK HABS
        rcases hres with ⟨hcv,rfl,hst⟩|⟨hcv,rfl,hst⟩
        ·have HSTP:=hid hst
         have HCV:=hid hcv
         clear hst hcv
         go_wp2_with fail
         refine zau (zae ?_)
         simp only [zad,yab,yaa]
         go_wp2_with fail
         refine zau (zav ?_)
         have z2:=zaa HAB7.out 2
         simp at z2
         go_wp2_with fail
         clear z2
         have hqo:=HQ.out.ext HX7.out
         refine (refValid_any w7 q.pa q.pn q.pc q.l hqo.src (by have:=hqo.pn;have:=HMA.out;have:=HML.out;have:=HFEW.out;omega)).mono ?_
         rintro e w8 ⟨rfl,hx8⟩
         have HX8':=hid hx8
         have HMO8:=hid (HMO7.out.ext hx8)
         have HAB8:=hid ((hx8.block (zab HAB7.out)).trans HAB7.out)
         rw [HCV.out]
         clear hx8 hqo
         have t0:=zaa HMO8.out.box 0
         have t1:=zaa HAB8.out 1
         have t2:=zaa HAB8.out 2
         simp at t0 t1 t2
         have habT:ownB ma ab=false:=decide_eq_false HABP.out.2.2.2.1
         have y0:=zaf (T:=ownB ma) t0 (decide_eq_false HMO8.out.ne)
         have y1:=zaf (T:=ownB ma) t1 habT
         have y2:=zaf (T:=ownB ma) t2 habT
         clear t0 t1 t2 habT
         go_upto_region 20 with fail
         refine zao 15 (fun w'=>∃z:Turned,w'=turned w8 (ownB ma) z.d z.f z.os) (.reads [0,1,2,3,4,5,6,8,9] (.one 7 (.one 10 (.one 11 (.one 12 (.one 13 (.one 14 (.one 15 .done)))))))) (by kernel_rfl) (by kernel_rfl) (fun _ _ dd _ _ hh=>by cases dd<;>exact hh) ?_ ?_
         ·exact zac (Ext.drewN w8 1)
         refine zak ?_
         simp only [zad,yab,yaa]
         repeat (go_big_quiet_step (fail))
         refine yaF ?_
         clear y0 y1 y2
         change zaz _ _ _ _ _ _ _ _ (w8.drewN 1)
         have HXd:Hid (Ext w8 (w8.drewN 1)):=hid (Ext.drewN w8 1)
         generalize w8.drewN 1=We at HXd ⊢
         refine zae ?_
         simp only [zad,yab,yaa]
         go_wp2_with fail
         refine (zea We q.nm HQ.out.nm).mono ?_
         rintro e w9 ⟨rfl,hx9⟩
         have HX9:=hid (HXd.out.trans hx9)
         clear hx9 HXd
         go_wp2_with fail
         refine zaj (zac HX9.out) (zae ?_)
         simp only [zad,yab,yaa]
         go_wp2_with fail
         refine zaj (zac HX9.out) (zae ?_)
         simp only [zad,yab,yaa]
         go_wp2_with fail
         generalize hW9:World.alloc _ _=wA
         obtain ⟨fk,hfk⟩:∃k,k=w9.heap.size:=⟨_,rfl⟩
         rw [←hfk]
         have HXA:Hid (Ext w8 wA):=hid (HX9.out.trans (by rw [←hW9];exact (Ext.refl w9).alloc _))
         have HFK:Hid (wA.heap[fk]?=some (.cells #[.string q.part.nm,.slice q.part.a q.part.n q.part.c] 48 (0,0))):=hid (by rw [←hW9,hfk];exact heap_alloc_new w9 _)
         clear hW9 hfk
         refine zaj (zac HXA.out) (zae ?_)
         simp only [zad,yab,yaa]
         have HMO9:=hid (HMO8.out.ext HXA.out)
         obtain ⟨mn',hmn'⟩:∃k,k=mn+1:=⟨_,rfl⟩
         have HME:=hid hmn'
         clear hmn'
         go_wp2_with (at_builtin;go_must (refine zah (n:=mn) (m:=1) (v:=.slice ma mn mc) elem_mfl rfl _ _ rfl rfl rfl HMO9.out.row (src_pam (q:=q.part) HFK.out) (by unfold maxLen;omega) (by omega) ?_;rw [←HME.out];intro v4 wB happ);obtain ⟨va',vc',rfl⟩:=happ.row.shape;have HA:=hid happ;clear happ)
         have HMB:Hid (wB.heap[mb]?=some (.cells #[.slice ma mn mc] 35 (0,0))):=hid ((HA.out.chg.block mb (zab HMO9.out.box) (fun e=>HMO9.out.ne (by rw [zaq] at e;exact e))).trans HMO9.out.box)
         have HCH:Hid (Chg (fun k=>ownB ma k=true) w8 wB):=hid ((Chg.of_ext (S:=fun k=>ownB ma k=true) HXA.out).trans (HA.out.chg.mono (fun i _ e=>by rw [zaq] at e;exact decide_eq_true e)) (fun _ _ e=>e))
         refine zaj (zas HCH.out) (zae ?_)
         simp only [zad,yab,yaa]
         go_wp2_with fail
         refine zaj (zas HCH.out) (zae ?_)
         simp only [zad,yab,yaa]
         go_wp2_with fail
         refine zaj (zas HCH.out) (zae ?_)
         simp only [zad,yab,yaa]
         go_wp2_with (refine zam rfl _ _ _ rfl mb 0 _ #[.slice va' mn' vc'] _ _ rfl rfl rfl rfl HMB.out (by simp) rfl mfl_slice_info ?_;rintro wC hbV hcV _he;have HBV:=hid hbV;have HCV2:=hid hcV;clear hbV hcV _he)
         refine zau (zav ?_)
         have HD:Hid (PlayI W p d mb (manyA (P.take (j+1))) (j+1) wC):=hid (by
          have hqo:=HQ.out.ext HX7.out
          have hlen:=HL1.out.len
          have ha:=HA.out
          have hb:=HBV.out
          rw [HME.out] at ha hb
          obtain ⟨B2,h2⟩:=(HL1.out.ext HXS.out).put (Ext.refl wS) (q:=q.part) HCV.out HSTP.out (by omega) (by have:=hqo.pn;have:=HMA.out;have:=HML.out;have:=HFEW.out;show _+q.l.length≤600;omega) hqo.part (by have:=hqo.pn;have:=HMA.out;have:=HML.out;have:=HFEW.out;show q.pn<_;omega) (fun hn g hg=>HQ.out.blk hn g hg) (HX8'.out.trans HXA.out) ha HCV2.out hb
          have e:manyA (P.take (j+1))=manyA (P.take j)+q.part.l.length:=by rw [HMA.out];have:=HQ.out.pn;show _=_+q.l.length;omega
          rw [←e] at h2
          exact ⟨_,_,_,_,_,_,_,_,h2,HSM.out.put X q.part⟩)
         go_wp2_with fail
         go_meet
         exact ⟨rfl,HD⟩
        ·have HSTP:=hid hst
         have HCV:=hid hcv
         clear hst hcv
         go_wp2_with fail
         refine zau (zae ?_)
         simp only [zad,yab,yaa]
         go_wp2_with fail
         refine zau (zav ?_)
         have z2:=zaa HAB7.out 2
         simp at z2
         go_wp2_with fail
         clear z2
         have hqo:=HQ.out.ext HX7.out
         refine (refValid_any w7 q.pa q.pn q.pc q.l hqo.src (by have:=hqo.pn;have:=HMA.out;have:=HML.out;have:=HFEW.out;omega)).mono ?_
         rintro e w8 ⟨rfl,hx8⟩
         rw [HCV.out]
         have HD:Hid (PlayI W p d mb (manyA (P.take (j+1))) (j+1) w8):=hid (by
          have hl:=HL1.out.len
          have hsum:=HL1.out.sum
          have hrj0:=HRJ.out
          obtain ⟨B2,h2⟩:=(HL1.out.ext HXS.out).step HSTP.out (N':=manyA (P.take (j+1))) (j':=j+1) (by omega) HL1.out.mod (by rw [HMA.out];omega) (by rw [HMA.out];omega) (by omega) (by omega) (by omega) (by omega)
          exact ⟨_,_,_,_,_,_,_,_,h2.ext hx8,HSM.out⟩)
         clear hx8 hqo
         go_wp2_with fail
         go_meet
         exact ⟨rfl,HD⟩
      ·have hk0':(q.k==0)=false:=yam.2 hk0
       by_cases hk1:q.k=1
       ·have hk1':(q.k==1)=true:=beq_iff_eq.2 hk1
        clear hk1
        as_aux_lemma =>
         have hlen:=HL1.out.len
         have hsum:=HL1.out.sum
         have hFm:=HL1.out.mn
         have hGF:=HSM.out.len
         by_cases hG2:G.length<2
         ·go_wp2_with fail
          refine (compact_none HST.out hG2).mono ?_
          rintro e w5 ⟨rfl,rfl⟩
          have m0:=zaa HL1.out.mo.box 0
          simp at m0
          go_wp2_with fail
          refine (state_good HST.out).mono ?_
          rintro e w6 ⟨x1,x2,x3,x4,x5,x6,sfa,sfc,sta,stn,stc,rfl,hx6⟩
          have hGm:G.length=mn:=by omega
          rw [hGm]
          have hfd:=field_files x1 x2 x3 x4 x5 x6 sfa mn sfc sta stn stc
          have m1:=zbf hx6 m0
          have HD:Hid (PlayI W p d mb (manyA (P.take (j+1))) (j+1) w6):=hid ⟨_,_,_,_,_,_,_,_,(HL1.out.more (by have:=HMA.out;omega) (by omega)).ext hx6,HSM.out⟩
          have hm2:¬(1:Int)<(mn:Int):=by omega
          clear hx6 m0 y1 y2 y3
          go_wp2_with fail
          go_meet
          exact ⟨rfl,HD⟩
         ·have HOKG:=hid HST.out.okG'
          have HCO:=hid (compact_good HST.out (by omega) (by omega) (by omega))
          go_wp2_with fail
          refine HCO.out.mono ?_
          rintro e w5 ⟨rfl,Q,hQ,hstep⟩
          obtain ⟨B2,hL2⟩:=HL1.out.step hstep (N':=599) (j':=26) (by have:=HRJ.out;have:=HML.out;have:=HFEW.out;omega) (HL1.out.mod.compact HOKG.out hQ X) (by have:=HMA.out;have:=HML.out;have:=HFEW.out;omega) (by have:=hQ.many;have:=HMA.out;have:=HML.out;have:=HFEW.out;simp [totG];omega) (by omega) (by simp) (by omega) (by omega)
          obtain ⟨r2,hst2,_⟩:=hL2.sto
          have HST2:=hid hst2
          have HMO2:=hid hL2.mo
          have HMD2:=hid hL2.mod
          have HXL2:=hid hL2.world
          have m0:=zaa hL2.mo.box 0
          simp at m0
          have hone:([(X,Q)]:Gs).length=1:=rfl
          clear hQ hstep hL2 hst2 HCO y1 y2 y3
          go_wp2_with fail
          refine (state_good HST2.out).mono ?_
          rintro e w6 ⟨x1,x2,x3,x4,x5,x6,sfa,sfc,sta,stn,stc,rfl,hx6⟩
          rw [hone]
          have hfd:=field_files x1 x2 x3 x4 x5 x6 sfa 1 sfc sta stn stc
          have m1:=zbf hx6 m0
          have HX6:=hid hx6
          have hm2:(1:Int)<(mn:Int):=by omega
          have hsb:=((HXL2.out.trans hx6).block (zab HSB.out)).trans HSB.out
          have z0:=zaa hsb 0
          have z1:=zaa hsb 1
          simp at z0 z1
          clear hx6 m0 hone hsb
          go_wp2_with fail
          clear z0 z1 m1 hfd hm2
          refine (like_true (HST2.out.next HX6.out) (HMO2.out.ext HX6.out) HMD2.out f t).mono ?_
          rintro e w7 ⟨rfl,hx7⟩
          have HX7:=hid (HX6.out.trans hx7)
          clear hx7
          go_wp2_with fail
          refine (like_true (HST2.out.next HX7.out) (HMO2.out.ext HX7.out) HMD2.out _ _).mono ?_
          rintro e w8 ⟨rfl,hx8⟩
          have HX8:=hid (HX7.out.trans hx8)
          clear hx8
          go_wp2_with fail
          go_ret
          exact ⟨rfl,(HXW.out.trans HXL2.out).trans HX8.out⟩
       ·have hk1':(q.k==1)=false:=yam.2 hk1
        by_cases hk2:q.k=2
        ·have hk2':(q.k==2)=true:=beq_iff_eq.2 hk2
         clear hk2
         as_aux_lemma =>
          have hlen:=HL1.out.len
          have hsum:=HL1.out.sum
          go_wp2_with fail
          refine (retire_good HST.out q.n (by omega)).mono ?_
          rintro e w5 ⟨rfl,c5,hc5,hstep⟩
          obtain ⟨hmo5,hx5⟩:=HL1.out.mid hstep
          obtain ⟨B5,k1,k2,k3⟩:=hstep
          have HMO5:=hid hmo5
          have HX5:=hid hx5
          have HK1:=hid k1
          have HC5:=hid hc5
          have HOF5:=hid (HL1.out.off.to k3 (zab HL1.out.mo.box) (fun g hg=>HL1.out.mo.row.lt (by rw [zaq];exact hg)))
          have HAB5:=hid ((k2.block ab (zab HAB.out) (fun e=>e.elim HABP.out.1 HABP.out.2.1)).trans HAB.out)
          have HFM:=hid HL1.out.mn
          clear hmo5 hx5 k1 k2 k3 hc5 y1 y2 y3 hlen hsum
          go_wp2_with fail
          go_loopw [13,14] (fun s13 s14 wr2=>∃(k ln lc:Nat) (la:Option Addr),s13=.slice la ln lc∧s14=.int .i64 (k:Int)∧k≤mn∧ln≤k∧Hid (LeftI w5 F q.n k la ln lc wr2)) (fun _ z _=>mn-(RowKit.intOf z).toNat)
          case atStart=>exact ⟨0,0,0,none,rfl,rfl,by omega,by omega,hid ⟨Row.nil _ _ _,by simp,Ext.refl _⟩⟩
          case round =>
           obtain ⟨k,ln,lc,la,rfl,rfl,hk,hlk,HI2⟩:=hrel
           have HMOr:=hid (HMO5.out.ext HI2.out.ext)
           have HABr:=hid ((HI2.out.ext.block (zab HAB5.out)).trans HAB5.out)
           have m0:=zaa HMOr.out.box 0
           simp at m0
           by_cases hltk:k<mn
           ·obtain ⟨fb,fo,x,rfl,hx,f0,f1⟩:=pams_src (HMOr.out.row.src (zdX _)) hltk
            have hxm:=yag hx
            have hcol:=HL1.out.mod.col x hxm
            have hxo:=(HMOr.out.ok x hxm).1
            have hxn:x.l.length=x.n:=by
             rcases hxo.src with ⟨_,e1,e2⟩|⟨_,_,_,e2,_⟩
             ·have h1:=pts_len3 x.l;rw [e2] at h1;simp at h1;omega
             ·rw [pts_len3] at e2;omega
            have hcl:=zcc hcol
            obtain ⟨n1,hn1⟩:∃n1,x.n=n1+1:=⟨x.n-1,by omega⟩
            obtain ⟨pb,po,y,hpa,hy,hcell⟩:=last_src hxo.src (k:=n1) (by omega)
            have hyl:hiT x.l=y.t:=by
             obtain ⟨z,hz,_,e⟩:=hiT_mem (l:=x.l) (by omega)
             rw [show x.l.length-1=n1 by omega,hy] at hz
             cases hz;exact e
            have HX:=hid hx
            have HYL:=hid hyl
            have y3:=zaa HABr.out 3
            simp at y3
            obtain ⟨xnm,xa,xn,xc,xl⟩:=x
            simp only at f0 f1 hpa hn1 hxn
            subst hpa
            have hxl:xl.length≤4096:=hcl.2
            have hw1:IntKind.i64.wrap ((xn:Int)-1)=(n1:Int):=by rw [IntWalk.i64_in _ (by omega)];omega
            have hlt1:n1<xn:=by omega
            have HN1:=hid hn1
            clear hxl hcl hcol hxo hxn hy hyl hxm hx hn1
            go_upto_region 35 with fail
            go_big_quiet (fail)
            generalize hWq:wr.drewN nq=wq
            have HXQ:Hid (Ext wr wq):=hid (by subst hWq;exact Ext.drewN _ _)
            have HROWq:=hid (HI2.out.row.ext HXQ.out)
            have g0:=zbf HXQ.out f0
            have g1:=zbf HXQ.out f1
            have m1:=zbf HXQ.out m0
            clear hWq hw1 hcell y3 f0 f1 m0
            by_cases hkeep:q.n≤y.t
            ·have HKP:Hid ((F.take (k+1)).filter (keepM q.n)=(F.take k).filter (keepM q.n)++[⟨xnm,some ⟨pb,po,none⟩,xn,xc,xl⟩]):=hid (by
              rw [yao,HX.out,yaW]
              have:keepM q.n ⟨xnm,some ⟨pb,po,none⟩,xn,xc,xl⟩=true:=by unfold keepM;simp only;rw [HYL.out];simp;omega
              simp [this])
             go_wp2_with (at_builtin;go_must (refine zah (n:=ln) (m:=1) (v:=.slice la ln lc) elem_mfl rfl _ _ rfl rfl rfl (HROWq.out.alloc _) (src_pam (q:=⟨xnm,some ⟨pb,po,none⟩,xn,xc,xl⟩) (heap_alloc_new _ _)) (by unfold maxLen;omega) (by omega) ?_;intro v4 wz happ);obtain ⟨va',vc',rfl⟩:=happ.row.shape;have HA:=hid happ;clear happ)
             have HNL:Hid (LeftI w5 F q.n (k+1) va' (ln+1) vc' wz):=hid (by
              have hq5:=(HI2.out.ext.trans HXQ.out).size
              have hal:=((Ext.refl wq).alloc (.cells #[.string xnm,.slice (some ⟨pb,po,none⟩) xn xc] 48 (0,0))).size
              refine ⟨?_,fun g hg=>?_,?_⟩
              ·rw [HKP.out,pams_append];exact HA.out.row
              ·have hl:=HA.out.loc
               rw [zaq,zaq,hg] at hl
               rcases hl with e|e
               ·exact HI2.out.own g e.symm
               ·have:=yaG e;omega
              ·exact ((Chg.of_ext (S:=fun b=>la.map (·.block)=some b) ((HI2.out.ext.trans HXQ.out).trans ((Ext.refl wq).alloc _))).trans (HA.out.chg.mono (fun i _ e=>by rw [zaq] at e;exact e)) (fun _ _ e=>e)).ext (fun i hi e=>by have:=HI2.out.own i e;omega))
             go_roundw
             case rel=>exact ⟨k+1,ln+1,vc',va',rfl,by go_num,by omega,by omega,HNL⟩
             case measure=>simp [RowKit.intOf];omega
            ·have HKP:Hid ((F.take (k+1)).filter (keepM q.n)=(F.take k).filter (keepM q.n)):=hid (by
              rw [yao,HX.out,yaW]
              have:keepM q.n ⟨xnm,some ⟨pb,po,none⟩,xn,xc,xl⟩=false:=by unfold keepM;simp only;rw [HYL.out];simp;omega
              simp [this])
             go_wp2_with fail
             go_roundw
             case rel=>exact ⟨k+1,ln,lc,la,rfl,by go_num,by omega,by omega,hid ⟨by rw [HKP.out];exact HROWq.out,HI2.out.own,HI2.out.ext.trans HXQ.out⟩⟩
             case measure=>simp [RowKit.intOf];omega
           ·obtain rfl:k=mn:=by omega
            have HFE:Hid ((F.take k).filter (keepM q.n)=F.filter (keepM q.n)):=hid (by rw [yai (by rw [HFM.out];exact Nat.le_refl _)])
            go_wp2_with (refine zam rfl _ _ _ rfl mb 0 _ #[.slice la ln lc] _ _ rfl rfl rfl rfl HMOr.out.box (by simp) rfl mfl_slice_info ?_;rintro wC hbV hcV _he;have HBV:=hid hbV;have HCV2:=hid hcV;clear hbV hcV _he)
            have HD:Hid (PlayI W p d mb (manyA (P.take (j+1))) (j+1) wC):=hid (by
             have hlen:=HL1.out.len
             have hsum:=HL1.out.sum
             have hsumF:=sum_filterM F (keepM q.n)
             have hfl:=List.length_filter_le (keepM q.n) F
             have hgl:=List.length_filter_le (keepG q.n) G
             have htg:=totG_filter G (keepG q.n)
             have hsm':=HSM.out.filter HL1.out.mod.col q.n
             have hrow:=HI2.out.row
             rw [HFE.out] at hrow
             have hla:∀g,la.map (·.block)=some g→w5.heap.size≤g:=HI2.out.own
             have hmbl:mb<w5.heap.size:=zab HMO5.out.box
             have hne:la.map (·.block)≠some mb:=fun e=>by have:=hla mb e;omega
             have hl599:(F.map fun q=>q.l.length).sum≤600:=HL1.out.mod.sum
             have hpl:p<w5.heap.size:=by
              obtain ⟨s,S,B0,v,q1,_⟩:=HK1.out.at'
              exact zab q1.box
             have hrj:=HRJ.out
             refine ⟨G.filter (keepG q.n),F.filter (keepM q.n),X,c5,_,la,ln,lc,⟨⟨r,(HK1.out.next HI2.out.ext).beside HCV2.out (fun e=>HOF5.out.box.1 e.symm) (fun b hb e=>HOF5.out.box.2 (e▸hb)) (fun b e=>by have:=HL1.out.new.1;omega),by omega⟩,⟨HBV.out,hrow.chg HCV2.out (fun g hg e=>by rw [zaq] at hg;exact hne (by rw [←e];exact hg)),fun x hx=>?_,hne⟩,⟨HOF5.out.box,fun g hg=>⟨fun e=>by have:=hla g hg;omega,fun e=>by have:=HK1.out.lt g e;have:=hla g hg;omega⟩⟩,⟨HL1.out.new.1,fun g hg=>by have:=hla g hg;have:=HX5.out.size;omega⟩,fun x hx=>HL1.out.pts x (yay.1 hx).1,hsm'.mod (fun x hx=>HL1.out.mod.col x (yay.1 hx).1) (by omega) (by omega),⟨by have:=HMA.out;omega,by have:=HMA.out;omega⟩,⟨by omega,by omega,by omega,by have:=HC5.out;omega⟩⟩,hsm'⟩
             have hxF:=(yay.1 hx).1
             have hxo:=HMOr.out.ok x hxF
             exact ⟨⟨zbJ hxo.1.src HCV2.out (fun hn g hg e=>by have:=HL1.out.pts x hxF hn g hg;have:=HL1.out.new.1;omega),hxo.1.cap⟩,hxo.2⟩)
            go_meet
            exact ⟨rfl,HD⟩
        ·have hk2':(q.k==2)=false:=yam.2 hk2
         have HD:Hid (PlayI W p d mb (manyA (P.take (j+1))) (j+1) v1):=hid ⟨_,_,_,_,_,_,_,_,HL1.out.more (by have:=HMA.out;omega) (by omega),HSM.out⟩
         go_wp2_with fail
         go_meet
         exact ⟨rfl,HD⟩
     case rest =>
      as_aux_lemma =>
       obtain ⟨rfl,HR⟩:=hcut
       clear HL HL1 HSM HAB HABP HX1 hmn
       obtain ⟨G',F',X',c',B',ma',mn',mc',hL,hsm⟩:=HR.out
       obtain ⟨r,hst,_⟩:=hL.sto
       have hFm:=hL.mn
       have hGF:=hsm.len
       have hGm:G'.length=mn':=by omega
       have HST:=hid hst
       have HMO:=hid hL.mo
       have HMD:=hid hL.mod
       have hsb:=(hL.world.block (zab HSB.out)).trans HSB.out
       have HLD:=hid (fun d f os=>zaK (P:=Tryz.prog) (T:=fun _=>false) (ty:=61) hsb rfl Tryz.underlying61 rfl span2_infoP d f os)
       have m0:=zaf (T:=fun _=>false) (by have:=zaa hL.mo.box 0;simpa using this:wc.cell? ⟨mb,0,none⟩=some (.slice ma' mn' mc')) rfl
       clear hL hsm hst hsb hFm hGF
       go_upto_region 38 with fail
       refine zcj 99 (fun w'=>∃z:Turned,w'=turned wc (fun _=>false) z.d z.f z.os) (.reads [0,1,2] (.one 3 (.one 4 (.one 5 (.reads [6,10,11,12,13,14] (.one 7 (.one 8 (.one 9 (.one 15 (.one 16 (.one 17 (.reads [18,21,22,23,24,25] (.one 19 (.one 20 (.one 26 (.one 27 .done)))))))))))))))) (by kernel_rfl) (by kernel_rfl) (fun _ _ dd _ _ hh=>by cases dd<;>exact hh) ?_ ?_
       ·exact zac (Ext.drewN wc 1)
       refine zak ?_
       simp only [zad,yab,yaa]
       repeat (go_big_quiet_step (fail))
       (go_big_quiet_want;refine zaD _ _ rfl _ (.agg #[.int .i64 f,.int .i64 t]) rfl (fun V hV=>by obtain ⟨z,rfl⟩:=hV;exact HLD.out z.d z.f z.os) ?_;go_big_quiet_on;simp only [Act.put,List.setIfInBounds_toArray,List.set_cons_succ,List.set_cons_zero])
       repeat (go_big_quiet_step (fail))
       refine yaF ?_
       change zaz _ _ _ _ _ _ _ _ (wc.drewN 1)
       have HXd:Hid (Ext wc (wc.drewN 1)):=hid (Ext.drewN wc 1)
       generalize wc.drewN 1=Wd at HXd ⊢
       refine zae ?_
       simp only [zad,yab,yaa]
       go_wp2_with fail
       refine (like_true (HST.out.next HXd.out) (HMO.out.ext HXd.out) HMD.out f t).mono ?_
       rintro e w5 ⟨rfl,hx5⟩
       have HX5:=hid (HXd.out.trans hx5)
       clear hx5 HXd
       go_wp2_with fail
       refine zaj (zac HX5.out) (zae ?_)
       simp only [zad,yab,yaa]
       go_wp2_with fail
       refine zaj (zac HX5.out) (zae ?_)
       simp only [zad,yab,yaa]
       go_wp2_with fail
       refine zaj (zac HX5.out) (zak ?_)
       simp only [zad,yab,yaa]
       repeat (go_big_quiet_step (fail))
       refine yaF ?_
       change zaz _ _ _ _ _ _ _ _ w5
       refine zae ?_
       simp only [zad,yab,yaa]
       go_wp2_with fail
       refine (state_good (HST.out.next HX5.out)).mono ?_
       rintro e w6 ⟨x1,x2,x3,x4,x5,x6,sfa,sfc,sta,stn,stc,rfl,hx6⟩
       have HX6:=hid (HX5.out.trans hx6)
       rw [hGm]
       have hfd:=field_files x1 x2 x3 x4 x5 x6 sfa mn' sfc sta stn stc
       clear hx6
       go_wp2_with fail
       refine zaj (zac HX6.out) (zae ?_)
       simp only [zad,yab,yaa]
       go_wp2_with fail
       clear hfd
       refine zaj (zac HX6.out) (zae ?_)
       simp only [zad,yab,yaa]
       go_wp2_with fail
       refine zaj (zac HX6.out) (zae ?_)
       simp only [zad,yab,yaa]
       go_wp2_with fail
       refine zaj (zac HX6.out) (zae ?_)
       simp only [zad,yab,yaa]
       go_wp2_with fail
       refine zaj (zac HX6.out) (zae ?_)
       simp only [zad,yab,yaa]
       go_wp2_with fail
       refine zaj (zac HX6.out) (zak ?_)
       simp only [zad,yab,yaa]
       repeat (go_big_quiet_step (fail))
       refine yaF ?_
       clear m0
       change zaz _ _ _ _ _ _ _ _ w6
       obtain ⟨S,B0,hda,hSok,sI,hI⟩:=list_good (HST.out.next HX6.out)
       have HDA:=hid (disk_list hSok hda fS)
       have hl2:(S.list fS).length=mn':=by rw [hI.listS_len];exact hGm
       clear hda hSok hI
       refine zae ?_
       simp only [zad,yab,yaa]
       go_wp2_with fail
       refine HDA.out.mono ?_
       rintro e w7 ⟨vl,rfl,hsl⟩
       obtain ⟨la,lc,rfl⟩:=hsl.row.shape
       rw [hl2]
       have HX7:=hid (HX6.out.trans hsl.ext)
       clear hsl hl2 HDA hGm
       go_wp2_with fail
       refine zaj (zac HX7.out) (zae ?_)
       simp only [zad,yab,yaa]
       go_wp2_with fail
       refine zaj (zac HX7.out) (zae ?_)
       simp only [zad,yab,yaa]
       go_wp2_with fail
       refine zaj (zac HX7.out) (zae ?_)
       simp only [zad,yab,yaa]
       go_wp2_with fail
       refine zaj (zac HX7.out) (zav ?_)
       go_wp2_with fail
       go_roundw
       case rel=>exact ⟨j+1,by go_num,by omega,by omega,hid (HR.out.ext HX7.out)⟩
       case measure=>simp [RowKit.intOf];omega
    ·obtain rfl:j=25:=by omega
     obtain ⟨G,F,X,cc,B,ma,mn,mc,hL,hsm⟩:=HI.out
     have HD:Hid (PlayI W p d mb 599 25 wr):=hid ⟨_,_,_,_,_,_,_,_,hL.more (by have:=manyA_le P 25;have:=HFEW.out;omega) (by omega),hsm⟩
     clear hL hsm HI
     go_wp2_with fail
     go_meet
     exact HD
   ·obtain rfl:j=n:=by omega
    obtain ⟨G,F,X,cc,B,ma,mn,mc,hL,hsm⟩:=HI.out
    have HD:Hid (PlayI W p d mb 599 25 wr):=hid ⟨_,_,_,_,_,_,_,_,hL.more (by have:=manyA_le P j;have:=HFEW.out;omega) (by omega),hsm⟩
    clear hL hsm HI
    go_wp2_with fail
    go_meet
    exact HD
 case rest =>
  obtain ⟨G,F,X,cc,B,ma,mn,mc,hL,hsm⟩:=hcut.out
  obtain ⟨r,hst,hrj⟩:=hL.sto
  obtain ⟨s,S,B0,v,h1,h2,h3,h4,h5⟩:=hst.at'
  have HPT:=hid (zdV h2.inv.ok h1 (nmL 0) _ (h2.holdP _) 0 9 (h2.holdFew _) hst.et')
  have HXF:=hid hL.world
  clear hcut hL hsm hst hrj h1 h2 h3 h4 h5
  go_wp2_with fail
  refine HPT.out.mono ?_
  rintro e w5 ⟨v5,out,rfl,hc5,hm5⟩
  have HX5:=hid (HXF.out.trans hc5.ext)
  clear hc5 hm5
  go_wp2_with fail
  go_ret
  exact ⟨rfl,HXW.out.trans HX5.out⟩
end
end Go.Proofs.YtlmfhjipbjkcbaaGreatDoor
