/- x -/
import Derived.Test.YtlmfhjipbjkcbaaGreatDoorLwc
import Derived.Test.YtlmfhjipbjkcbaaGreatDoorMcr
import Derived.Test.YtlmfhjipbjkcbaaGreatDoorCor
set_option maxHeartbeats 16000000
set_option maxRecDepth 100000
set_option linter.unusedSimpArgs false
set_option linter.unusedVariables false
namespace Go.Proofs.YtlmfhjipbjkcbaaGreatDoor
section
open Go.RowKit Go.Sort Go.Lib
def HoldS (S:DiskS) (fl:List Fl) (LS:List (List SegI)):Prop:=LS.length=fl.length∧∀(k:Nat) (F:Fl) (L:List SegI),fl[k]?=some F→LS[k]?=some L→OnDisk S F L
def zbf (LS:List (List SegI)):List ByteArray:=compS (sortS (LS.flatMap zay))
theorem StrsTo.app {w w1 w2 w3:World}{L K:List ByteArray}{v v':Value}{n:Nat}(h:StrsTo w L v w1) (hx:Ext w1 w2) (ha:Appended w2 9 1 v n (strs L++strs K) v' w3) (hn:n=L.length+K.length):StrsTo w (L++K) v' w3:=by
 subst hn
 refine ⟨?_,fun g hg=>?_,Chg.ext ((Chg.of_ext (h.ext.trans hx)).trans ha.chg (fun _ _ e=>e)) (fun i hi e=>by have:=h.own i e;omega)⟩
 ·have:=ha.row
  rw [show strs (L++K)=strs L++strs K by simp [strs],yae]
  exact this
 ·rcases ha.loc with e|e
  ·rw [e] at hg;exact h.own g hg
  ·rw [e] at hg;have:=h.ext.size;have:=hx.size;simp at hg;omega
theorem stoNames_any {w:World}{p d:Nat}{s:Sta}{S:DiskS}{B:List Nat}{v:StoV}(ok:S.Ok) (h:StoAt w p d s S B v) (LS:List (List SegI)) (hH:HoldS S s.fl LS) (hN:v.fn≤4000) (hg:HasET w) :
 Calls Tryz.prog 83 #[.pointer (some ⟨p,0,none⟩)] w fun e w'=>∃u,e=.returned (.tuple #[u,.int .i64 0])∧StrsTo w (zbf LS) u w':=by
 obtain ⟨fa,fn,fc,ta,tn,tc⟩:=v
 simp only at hN
 have HH:=hid h
 have HG:=hid hg
 have HHP:=hid hH
 have HOK:=hid ok
 have hfl:s.fl.length=fn:=zbA h.st.fl
 have hHl:LS.length=fn:=by rw [hH.1,hfl]
 have HHL:=hid hHl
 have HFS:Hid (Src w 4 (.slice fa fn fc) fn (fls s.fl)):=hid h.st.fl
 have c7:w.cell? ⟨p,7,none⟩=some (.slice fa fn fc):=by have:=zaa h.box 7;simpa using this
 clear h hg hH ok hfl hHl
 go_enter Tryz.func83,Tryz.ntmps83
 go_wp2_with fail
 refine (zcz HH.out).mono ?_
 rintro e w1 ⟨rfl,rfl⟩
 go_wp2_with fail
 clear c7
 go_loopw [4,17] (fun s4 s17 wr=>∃(k vn vc:Nat) (va:Option Addr),s4=.slice va vn vc∧s17=.int .i64 (k:Int)∧k≤fn∧vn≤k*1024∧Hid (∃K,K=(LS.take k).flatMap zay∧vn=K.length∧StrsTo w K (.slice va vn vc) wr)) (fun _ z _=>fn-(RowKit.intOf z).toNat)
 case atStart=>exact ⟨0,0,0,none,rfl,rfl,by omega,by omega,hid ⟨[],rfl,rfl,Row.nil _ _ _,fun g hg=>by simp [Value.ownBlock] at hg,Ext.refl _⟩⟩
 case round =>
  obtain ⟨k,vn,vc,va,rfl,rfl,hk,hvk,HI⟩:=hrel
  obtain ⟨K,hK,hKn,hst⟩:=HI.out
  have HKK:=hid (And.intro hK hKn)
  have HST:=hid hst
  clear HI hK hKn hst
  by_cases hlt:k<fn
  ·obtain ⟨fb,fo,F,rfl,hF,f0,f1,f2,f3⟩:=fls_src (HFS.out.ext HST.out.ext) hlt
   obtain ⟨L,hL⟩:∃L,LS[k]?=some L:=⟨_,yac (by have:=HHL.out;omega)⟩
   have HOD:=hid (HHP.out.2 k F L hF hL)
   have HTK:Hid ((LS.take (k+1)).flatMap zay=(LS.take k).flatMap zay++zay L):=hid (by rw [yao,hL];simp)
   have hL1:L.length≤1024:=HOD.out.ok.len
   have HL1:=hid hL1
   have HNL:Hid ((zay L).length≤1024):=hid (by rw [zbr];exact hL1)
   obtain ⟨fnm,ga,gb,gk⟩:=F
   simp only at f0 f1 f2 f3
   clear hF hL hL1
   go_upto_region 7 with fail
   generalize hW:World.alloc _ _=W
   obtain ⟨bx,hbx⟩:∃bx,bx=wr.heap.size:=⟨_,rfl⟩
   have HXW:Hid (Ext wr W):=hid (by rw [←hW];exact (Ext.refl wr).alloc _)
   have HB:Hid (W.heap[bx]?=some (.cells #[.string fnm,.int .i64 ga,.int .i64 gb,.int .i64 gk] 110 (0,0))):=hid (by rw [←hW,hbx];exact heap_alloc_new wr _)
   rw [←hbx]
   clear hW hbx f0 f1 f2 f3
   go_wp2_with (refine zat rfl _ _ rfl _ _ _ _ _ rfl HB.out Tryz.underlying110 rfl zed ?_)
   refine (stoRead_any HOK.out (HH.out.ext (HST.out.ext.trans HXW.out)) ⟨fnm,ga,gb,gk⟩ L HOD.out (HG.out.ext (HST.out.ext.trans HXW.out))).mono ?_
   rintro e w2 ⟨q,rfl,hsg,hx2⟩
   have HSG:=hid hsg
   have HX2:=hid (HXW.out.trans hx2)
   clear hsg hx2
   go_wp2_with fail
   refine (segNamesOf_any HSG.out HL1.out).mono ?_
   rintro e w3 ⟨v3,rfl,hns⟩
   obtain ⟨m,hm⟩:∃m,m=(zay L).length:=⟨_,rfl⟩
   have hrow:=hns.row
   rw [←hm] at hrow
   obtain ⟨a3,c3,rfl⟩:=hrow.shape
   have HNS:=hid hns
   have HROW:=hid hrow
   have HM:=hid hm
   have hm1:m≤1024:=by rw [hm];exact HNL.out
   have HX3:=hid (HX2.out.trans hns.ext)
   clear hns hrow hm
   have HR0:Hid (Row w3 9 1 (.slice va vn vc) vn (strs K)):=hid (by have h:=HST.out.row;rw [←HKK.out.2] at h;exact h.ext HX3.out)
   go_wp2_with (at_builtin;go_must (refine zah (n:=vn) (m:=m) (v:=.slice _ _ _) elem_str rfl _ _ rfl rfl rfl HR0.out (HROW.out.src (strs_one _)) (by unfold maxLen;omega) (by omega) ?_;intro v4 w4 happ);obtain ⟨vb,vd,rfl⟩:=happ.row.shape;have HA4:=hid happ;clear happ)
   have HS4:=hid (HST.out.app HX3.out HA4.out (by rw [←HKK.out.2,←HM.out]))
   go_roundw
   case rel =>
    refine ⟨k+1,vn+m,vd,vb,rfl,by go_num,by omega,by omega,hid ⟨K++zay L,by rw [HTK.out,←HKK.out.1],?_,HS4.out⟩⟩
    rw [yae,←HKK.out.2,←HM.out]
   case measure=>simp [RowKit.intOf];omega
  ·obtain rfl:k=fn:=by omega
   have HKA:Hid (K=LS.flatMap zay):=hid (by have h:=HKK.out.1;rw [yai (by rw [HHL.out];exact Nat.le_refl _)] at h;exact h)
   have HR0:Hid (Row wr 9 1 (.slice va vn vc) vn (strs K)):=hid (by have h:=HST.out.row;rw [←HKK.out.2] at h;exact h)
   go_wp2_with fail
   refine (sort_any HR0.out (by omega)).mono ?_
   rintro e w2 ⟨rfl,hrow,hc⟩
   have HR2:=hid hrow
   have HC2:=hid hc
   clear hrow hc
   go_wp2_with fail
   refine (compact_any HR2.out (by omega)).mono ?_
   rintro e w3 ⟨u,rfl,hrow,hc,hob⟩
   have HX:Hid (Ext w w3):=hid ((((Chg.of_ext (S:=fun k=>(Value.slice va vn vc).ownBlock=some k) HST.out.ext).trans HC2.out (fun _ _ e=>e)).trans hc (fun _ _ e=>e)).ext (fun i hi e=>by have:=HST.out.own i e;omega))
   have HR3:=hid hrow
   have HOB:=hid hob
   clear hrow hc hob
   go_wp2_with fail
   go_ret2
   refine ⟨u,rfl,?_,fun g hg=>?_,HX.out⟩
   ·unfold zbf
    rw [←HKA.out]
    exact HR3.out
   ·rw [HOB.out] at hg
    exact HST.out.own g hg
theorem elem_pam:ElemOk Tryz.prog 44 43 2 40 :=
 ⟨Tryz.underlying44,by
   obtain ⟨i0,hi,hz0,hz1,hz2⟩:=info_parts (show (Tryz.prog.info? 43).map (fun i=>(i.zero,i.size,i.bytes))=some (some (.agg #[.string ⟨#[]⟩,.slice none 0 0]),2,40) from by kernel_rfl)
   exact ⟨i0,_,hi,hz0,hz1,hz2,rfl⟩,by decide⟩
theorem src_pamc {W:World}{b:Nat}{q:PaM}{t:TypeId}{fr:Nat×Nat}(h:W.heap[b]?=some (.cells #[.string q.nm,.slice q.a q.n q.c] t fr)):Src W 2 (.slice (some ⟨b,0,none⟩) 1 1) 1 (pams [q]):=by
 refine .inr ⟨_,_,rfl,by simp [pams,PaM.cells],fun j u hj=>?_,zdY _⟩
 rw [yak,Nat.zero_add,zaa h]
 simpa [pams,PaM.cells] using hj
structure AllI (w:World) (N:List ByteArray) (Hof:ByteArray→List (List Pt)) (k:Nat) (qs:List PaM) (va:Option Addr) (vn vc:Nat) (wr:World):Prop where
 row:Row wr 43 2 (.slice va vn vc) vn (pams qs)
 nm:qs.map PaM.nm=N.take k
 ok:∀q∈qs,q.Ok wr∧IsMerge (((Hof q.nm).map (cutL (-1152921504606846976) 1152921504606846977)).filter neL) q.l
 off:∀q∈qs,∀g,q.a.map (·.block)=some g→va.map (·.block)≠some g
 lt:∀q∈qs,∀g,q.a.map (·.block)=some g→w.heap.size≤g∧g<wr.heap.size
 own:∀g,va.map (·.block)=some g→w.heap.size≤g
 ext:Ext w wr
 len:vn=qs.length
theorem AllI.add {w wr w2 w3 W w4:World}{N:List ByteArray}{Hof:ByteArray→List (List Pt)}{k vn vc vc' c:Nat}{qs:List PaM}{va va' a:Option Addr}{nm:ByteArray}{l:List Pt}(h:AllI w N Hof k qs va vn vc wr) (hn:N[k]?=some nm) (hx:Ext wr w2)
 (hc:CutTo w2 l (.slice a l.length c) w3) (hnc:l.length≤c) (hm:IsMerge (((Hof nm).map (cutL (-1152921504606846976) 1152921504606846977)).filter neL) l) (hW:Ext w3 W) (ha:Appended W 43 2 (.slice va vn vc) (vn+1) (pams qs++pams [⟨nm,a,l.length,c,l⟩]) (.slice va' (vn+1) vc') w4):AllI w N Hof (k+1) (qs++[⟨nm,a,l.length,c,l⟩]) va' (vn+1) vc' w4:=by
 have hxW:Ext wr W:=(hx.trans hc.ext).trans hW
 have hwW:Ext w W:=h.ext.trans hxW
 have hloc:∀g,va'.map (·.block)=some g→va.map (·.block)=some g∨g=W.heap.size:=fun g hg=>by
  have hl:=ha.loc
  rw [zar,zar,hg] at hl
  rcases hl with e|e
  ·exact .inl e.symm
  ·exact .inr (yaG e)
 have hcg:∀g,a.map (·.block)=some g→w2.heap.size≤g∧g<w3.heap.size:=fun g hg=>⟨hc.own g (by rw [zar];exact hg),hc.row.lt (by rw [zar];exact hg)⟩
 have hvl:∀g,va.map (·.block)=some g→g<wr.heap.size:=fun g hg=>h.row.lt (by rw [zar];exact hg)
 have hs2:=hx.size
 have hs3:=hW.size
 have hsw:=h.ext.size
 have hok:∀x:PaM,x.Ok W→(∀g,x.a.map (·.block)=some g→va.map (·.block)≠some g)→x.Ok w4:=fun x hx hne =>
  ⟨zbN hx.1 ha.chg (fun b hb e=>by rw [zar] at e;exact hne b hb e),hx.2⟩
 refine ⟨by rw [pams_append];exact ha.row,?_,fun x hm'=>?_,fun x hm' g hg=>?_,fun x hm' g hg=>?_,fun g hg=>?_,?_,by rw [yae,←h.len];rfl⟩
 ·rw [yav,h.nm,yao,hn];rfl
 ·rcases yah.1 hm' with hm'|hm'
  ·exact ⟨hok x ((h.ok x hm').1.ext hxW) (h.off x hm'),(h.ok x hm').2⟩
  ·obtain rfl:=yal.1 hm'
   exact ⟨hok _ ⟨(hc.row.src (zck _)).ext hW,hnc⟩ (fun g hg e=>by have:=hcg g hg;have:=hvl g e;omega),hm⟩
 ·intro e2
  rcases yah.1 hm' with hm'|hm'
  ·rcases hloc g e2 with e3|e3
   ·exact h.off x hm' g hg e3
   ·have:=h.lt x hm' g hg
    have:=hxW.size
    omega
  ·obtain rfl:=yal.1 hm'
   have:=hcg g hg
   rcases hloc g e2 with e3|e3
   ·have:=hvl g e3;omega
   ·omega
 ·have hs4:=ha.chg.size
  rcases yah.1 hm' with hm'|hm'
  ·have:=h.lt x hm' g hg
   have:=hxW.size
   omega
  ·obtain rfl:=yal.1 hm'
   have:=hcg g hg;omega
 ·rcases hloc g hg with e3|e3
  ·exact h.own g e3
  ·have:=hwW.size;omega
 ·exact ((Chg.of_ext (S:=fun b=>va.map (·.block)=some b) hwW).trans ha.chg (fun i _ e=>by rw [zar] at e;exact e)).ext (fun i hi e=>by have:=h.own i e;omega)
theorem AllI.early {w0 w wr:World}{N:List ByteArray}{Hof:ByteArray→List (List Pt)}{k vn vc:Nat}{qs:List PaM}{va:Option Addr}(h:AllI w N Hof k qs va vn vc wr) (hx:Ext w0 w):AllI w0 N Hof k qs va vn vc wr :=
 ⟨h.row,h.nm,h.ok,h.off,fun q hq g hg=>⟨by have:=(h.lt q hq g hg).1;have:=hx.size;omega,(h.lt q hq g hg).2⟩,fun g hg=>by have:=h.own g hg;have:=hx.size;omega,hx.trans h.ext,h.len⟩
theorem stoAll_any {w:World}{p d:Nat}{s:Sta}{S:DiskS}{B:List Nat}{v:StoV}(ok:S.Ok) (h:StoAt w p d s S B v) (LS:List (List SegI)) (hH:HoldS S s.fl LS) (hN:v.fn≤4000) (hg:HasET w)
 (Hof:ByteArray→List (List Pt)) (hof:∀n∈zbf LS,HoldP S s.fl n (Hof n)∧(Hof n).length+((Hof n).map List.length).sum<4000) (hNL:(zbf LS).length≤1000000) :
 Calls Tryz.prog 48 #[.pointer (some ⟨p,0,none⟩)] w fun e w'=>∃qs va vc,e=.returned (.tuple #[.slice va qs.length vc,.int .i64 0])∧AllI w (zbf LS) Hof (zbf LS).length qs va qs.length vc w':=by
 have HH:=hid h
 have HG:=hid hg
 have HOF:=hid hof
 have HOK:=hid ok
 have HNM:=hid (fun W (hW:Ext w W)=>stoNames_any ok (h.ext hW) LS hH hN (hg.ext hW))
 obtain ⟨N,hNN⟩:∃N,N=zbf LS:=⟨_,rfl⟩
 rw [←hNN] at HOF HNM hNL ⊢
 obtain ⟨t,ht⟩:∃t,t=N.length:=⟨_,rfl⟩
 rw [←ht] at hNL ⊢
 have HT:=hid ht
 clear h hg hH ok hof hNN ht
 go_enter Tryz.func48,Tryz.ntmps48
 go_wp2_with fail
 refine (HNM.out w (Ext.refl w)).mono ?_
 rintro e w1 ⟨u,rfl,hst⟩
 have hrow:=hst.row
 rw [←HT.out] at hrow
 obtain ⟨ua,uc,rfl⟩:=hrow.shape
 have HROW:=hid hrow
 have HX1:=hid hst.ext
 clear hst hrow
 go_wp2_with fail
 go_loopw [6,21] (fun s6 s21 wr=>∃(k vn vc:Nat) (va:Option Addr),s6=.slice va vn vc∧s21=.int .i64 (k:Int)∧k≤t∧vn≤k∧Hid (∃qs,AllI w1 N Hof k qs va vn vc wr)) (fun _ z _=>t-(RowKit.intOf z).toNat)
 case atStart=>exact ⟨0,0,0,none,rfl,rfl,by omega,by omega,hid ⟨[],⟨Row.nil _ _ _,by simp,by simp,by simp,by simp,by simp,Ext.refl _,rfl⟩⟩⟩
 case round =>
  obtain ⟨k,vn,vc,va,rfl,rfl,hk,hvk,HI⟩:=hrel
  obtain ⟨qs,hI⟩:=HI.out
  have HX1R:=hid hI.ext
  have HXW:=hid (HX1.out.trans hI.ext)
  have HAI:=hid hI
  clear HI hI
  by_cases hlt:k<t
  ·obtain ⟨g,nm,rfl,hnm,hcell⟩:=strs_at (HROW.out.ext HX1R.out) HT.out hlt
   have HNK:=hid hnm
   have HP:=hid (HOF.out nm (yag hnm))
   clear hnm
   go_wp2_with fail
   refine (stoPoints_any HOK.out (HH.out.ext HXW.out) nm (Hof nm) HP.out.1 (-1152921504606846976) 1152921504606846977 HP.out.2 (HG.out.ext HXW.out)).mono ?_
   rintro e w2 ⟨v2,out,rfl,hc,hm⟩
   obtain ⟨ca,cc,rfl⟩:=hc.row.shape
   have HC:=hid hc
   have HMG:=hid hm
   have HNC:=hid (zcj hc.row)
   obtain ⟨cn,hcn⟩:∃cn,cn=out.length:=⟨_,rfl⟩
   rw [←hcn]
   have HCN:=hid hcn
   clear hc hm hcn hcell
   have HR2:=hid (HAI.out.row.ext HC.out.ext)
   go_wp2_with (at_builtin;go_must (refine zah (n:=vn) (m:=1) (v:=.slice va vn vc) elem_pam rfl _ _ rfl rfl rfl (HR2.out.alloc _) (src_pamc (q:=⟨nm,ca,cn,cc,out⟩) (heap_alloc_new _ _)) (by unfold maxLen;omega) (by omega) ?_;intro v4 w4 happ);obtain ⟨va',vc',rfl⟩:=happ.row.shape;have HA:=hid happ;clear happ)
   go_roundw
   case rel =>
    exact ⟨k+1,vn+1,vc',va',rfl,by go_num,by omega,by omega,hid ⟨_,HAI.out.add HNK.out (Ext.refl wr) HC.out HNC.out HMG.out ((Ext.refl w2).alloc _) (by have h:=HA.out;rw [HCN.out] at h;exact h)⟩⟩
   case measure=>simp [RowKit.intOf];omega
  ·obtain rfl:k=t:=by omega
   have HLN:=hid HAI.out.len
   have hvl:vn=qs.length:=HAI.out.len
   go_wp2_with fail
   go_ret2
   subst hvl
   exact ⟨qs,va,vc,rfl,HAI.out.early HX1.out⟩
def zaR (s:Sta) (n:Nat) (Q:List Prt):Sta:=⟨(n:Int)+1,s.r,s.q,s.km,[zdu (nameS 115 n) Q],s.ti⟩
def TidyTo (w:World) (p d:Nat) (s s':Sta) (B:List Nat) (v:StoV) (r:Int×DiskS) (e:Ending) (w':World):Prop :=
 if r.1≠0 then e=.returned (.int .i64 r.1)∧StoTo w p d s B v r.2 w'
 else if (saveS r.2 s').1≠0 then e=.returned (.int .i64 (saveS r.2 s').1)∧StoTo w p d s B v (saveS r.2 s').2 w'
 else e=.returned (.int .i64 (tidyS (saveS r.2 s').2 s').1)∧∃v':StoV,v'.fn=s'.fl.length∧v'.tn=s'.ti.length∧v'.New w∧StoNew w p d s' B v' (tidyS (saveS r.2 s').2 s').2 w'
theorem StoNew.then {w w1 w2:World}{p d:Nat}{s:Sta}{B:List Nat}{v:StoV}{S2:DiskS}{B1:List Nat}(c1:Chg (fun b=>b=p∨b∈B) w w1) (n1:∀b∈B1,b∈B∨w.heap.size≤b) (k:StoTo w1 p d s B1 v S2 w2):StoNew w p d s B v S2 w2:=by
 obtain ⟨B2,h2,c2,n2⟩:=k
 refine ⟨B2,h2,c1.trans c2 (fun i hi e=>?_),fun b hb=>?_⟩
 ·rcases n1 i e with e|e
  ·exact .inr e
  ·omega
 ·rcases n2 b hb with e|e
  ·exact n1 b e
  ·have:=c1.size;omega
def CompTo (w:World) (p d n:Nat) (s:Sta) (S:DiskS) (B:List Nat) (v:StoV) (N:List ByteArray) (Hof:ByteArray→List (List Pt)) (e:Ending) (w':World):Prop :=
 ∃Q:List Prt,Q.map Prod.fst=N∧(∀q∈Q,IsMerge (((Hof q.1).map (cutL (-1152921504606846976) 1152921504606846977)).filter neL) q.2)∧TidyTo w p d s (zaR s n Q) B v (zaC S (nameS 115 n) (segB Q)) e w'
theorem stoCompact_few {w:World}{p d:Nat}{s:Sta}{S:DiskS}{B:List Nat}{v:StoV}(h:StoAt w p d s S B v) (h2:v.fn<2) :
 Calls Tryz.prog 19 #[.pointer (some ⟨p,0,none⟩)] w fun e w'=>e=.returned (.int .i64 13)∧w=w':=by
 have HH:=hid h
 obtain ⟨fa,fn,fc,ta,tn,tc⟩:=v
 simp only at h2
 have c7:w.cell? ⟨p,7,none⟩=some (.slice fa fn fc):=by have:=zaa h.box 7;simpa using this
 clear h
 go_enter Tryz.func19,Tryz.ntmps19
 go_wp2_with fail
 refine (zcz HH.out).mono ?_
 rintro e w1 ⟨rfl,rfl⟩
 go_wp2_with fail
 go_ret
 exact ⟨rfl,rfl⟩
theorem stoCompact_any {w:World}{p d k n:Nat}{s:Sta}{S:DiskS}{B:List Nat}{v:StoV}(hk:k≤700000) (inv:DInv S k) (h:StoAt w p d s S B v) (hx:s.x=(n:Int)) (hn:n<1000000000) (hvn:v.fn≤1000∧v.tn≤1000)
 (LS:List (List SegI)) (hH:HoldS S s.fl LS) (Hof:ByteArray→List (List Pt)) (hof:∀n∈zbf LS,HoldP S s.fl n (Hof n)∧(Hof n).length+((Hof n).map List.length).sum<4000) (hNL:(zbf LS).length≤1000000)
 (hok:∀Q:List Prt,Q.map Prod.fst=zbf LS→(∀q∈Q,IsMerge (((Hof q.1).map (cutL (-1152921504606846976) 1152921504606846977)).filter neL) q.2)→PrtsOk Q) (h2:2≤v.fn) (hg:HasET w) (hgB:0∉B) :
 Calls Tryz.prog 19 #[.pointer (some ⟨p,0,none⟩)] w (CompTo w p d n s S B v (zbf LS) Hof):=by
 have HH:=hid h
 have HI:=hid inv
 have HG:=hid hg
 have HX:=hid hx
 have HGB:=hid hgB
 have HOKQ:=hid hok
 have HALL:=hid (stoAll_any inv.ok h LS hH (by omega) hg Hof hof hNL)
 have HPL:=hid (zab h.box)
 have HFL:=hid (And.intro (zbA h.st.fl:s.fl.length=v.fn) (zbm h.st.ti:s.ti.length=v.tn))
 have HKM:=hid h.st.ok
 have HBLT:Hid (∀b,w.heap.size≤b→b∉B):=hid (fun b hb e=>by have:=h.disk.lt b e;omega)
 obtain ⟨N,hN⟩:∃N,N=zbf LS:=⟨_,rfl⟩
 rw [←hN] at HALL HOKQ ⊢
 obtain ⟨fa,fn,fc,ta,tn,tc⟩:=v
 obtain ⟨sx,sr,sq,⟨mb,mt,mg⟩,fl,ti⟩:=s
 simp only at h2 hvn HFL HX HKM
 have c7:w.cell? ⟨p,7,none⟩=some (.slice fa fn fc):=by have:=zaa h.box 7;simpa using this
 clear h inv hg hx hgB hok hH hof hNL hN
 go_enter Tryz.func19,Tryz.ntmps19
 go_wp2_with fail
 refine (zcz HH.out).mono ?_
 rintro e w1 ⟨rfl,rfl⟩
 go_wp2_with fail
 refine HALL.out.mono ?_
 rintro e w1 ⟨qs,va,vc,rfl,hai⟩
 have HAI:=hid hai
 have hQ1:(zaD qs).map Prod.fst=N:=by
  have h1:=hai.nm
  rw [yai (Nat.le_refl _)] at h1
  rw [←h1]
  simp [zaD,prtOf]
 have hQ2:∀q∈zaD qs,IsMerge (((Hof q.1).map (cutL (-1152921504606846976) 1152921504606846977)).filter neL) q.2:=fun q hq=>by
  unfold zaD at hq
  obtain ⟨y,hy,rfl⟩:=yap.1 hq
  exact (hai.ok y hy).2
 have HQ:=hid (And.intro hQ1 hQ2)
 have HFI:=hid (stoFile_any (hk:=(by omega:k≤900000)) HI.out (HH.out.ext hai.ext) HX.out hn va qs.length vc qs (hai.row.src (zdY _)) (fun q hq=>(hai.ok q hq).1) (HOKQ.out _ hQ1 hQ2) (HG.out.ext hai.ext))
 have HX1:=hid hai.ext
 clear hai hQ1 hQ2 c7 HOKQ HALL
 go_wp2_with fail
 obtain ⟨Q,hQ⟩:∃Q,Q=zaD qs:=⟨_,rfl⟩
 rw [←hQ] at HFI HQ
 obtain ⟨F,hF⟩:∃F,F=zdu (nameS 115 n) Q:=⟨_,rfl⟩
 obtain ⟨R,hR⟩:∃R,R=zaC S (nameS 115 n) (segB Q):=⟨_,rfl⟩
 have HFS:Hid (zaR ⟨sx,sr,sq,⟨mb,mt,mg⟩,fl,ti⟩ n Q=⟨(n:Int)+1,sr,sq,⟨mb,mt,mg⟩,[F],ti⟩):=hid (by rw [hF];rfl)
 have HIR:Hid (DInv R.2 (k+3)):=hid (by rw [hR];exact HI.out.write _ _)
 rw [←hF,←hR] at HFI
 have HRE:Hid (zaC S (nameS 115 n) (segB Q)=R):=hid hR.symm
 clear hF hR hQ
 refine HFI.out.mono ?_
 rintro e w9 ⟨rfl,B9,hsa,hc9,hn9⟩
 have HSA:=hid hsa
 have hnw:∀b∈B9,b∈B∨w.heap.size≤b:=fun b hb=>by
  rcases hn9 b hb with e|e
  ·exact .inl e
  ·have:=HX1.out.size;exact .inr (by omega)
 have hcw:Chg (·∈B) w w9:=(Chg.of_ext HX1.out).trans hc9 (fun _ _ e=>e)
 have HCW:=hid (And.intro hcw hnw)
 have HGW:=hid (HG.out.chg hcw HGB.out)
 clear hsa hc9 hn9 hnw hcw HFI HAI
 obtain ⟨z,S9⟩:=R
 simp only at HSA HIR ⊢
 by_cases hz:z=0
 ·subst hz
  go_upto_region 9 with fail
  generalize hW:World.alloc _ _=Wa
  obtain ⟨fb,hfb⟩:∃fb,fb=w9.heap.size:=⟨_,rfl⟩
  have hxa:Ext w9 Wa:=by rw [←hW];exact (Ext.refl w9).alloc _
  have HFB:Hid (Wa.heap[fb]?=some (.cells #[.string F.nm,.int .i64 F.a,.int .i64 F.b,.int .i64 F.k] 110 (0,0))):=hid (by rw [←hW,hfb];exact heap_alloc_new w9 _)
  have HXA:=hid hxa
  have HSAa:=hid (HSA.out.ext hxa)
  rw [←hfb]
  clear hW hfb hxa
  go_wp2_with (refine zcb rfl _ _ rfl p 1 (stoC d ⟨sx,sr,sq,⟨mb,mt,mg⟩,fl,ti⟩ ⟨fa,fn,fc,ta,tn,tc⟩) [.int .i64 sx,.int .i64 sr,.int .i64 sq,.bool mb,.int .i64 mt,.int .i64 mg,.slice fa fn fc,.slice ta tn tc] _ _ _ rfl HSAa.out.box rfl Tryz.underlying66 rfl zaK ?_)
  refine (zdU Wa ⟨sx,sr,sq,⟨mb,mt,mg⟩,fl,ti⟩ fa ta fn fc tn tc HSAa.out.st.fl HSAa.out.st.ti (by omega) (by omega)).mono ?_
  rintro e w10 ⟨v4,hv1,hv2,rfl,ho4⟩
  obtain ⟨fa4,fn4,fc4,ta4,tn4,tc4⟩:=v4
  simp only at hv1 hv2
  subst hv1 hv2
  have HO4:=hid ho4
  have HX10:=hid (HXA.out.trans ho4.ext)
  have HFB10:=hid ((ho4.ext.block (zab HFB.out)).trans HFB.out)
  clear ho4
  go_upto_region 12 with fail
  generalize hW:World.alloc _ _=Wb
  obtain ⟨nb,hnb⟩:∃nb,nb=w10.heap.size:=⟨_,rfl⟩
  rw [←hnb]
  have hxb:Ext w10 Wb:=by rw [←hW];exact (Ext.refl w10).alloc _
  have HNB:Hid (Wb.heap[nb]?=some (.cells #[.int .i64 sx,.int .i64 sr,.int .i64 sq,.bool mb,.int .i64 mt,.int .i64 mg,.slice fa4 fn4 fc4,.slice ta4 tn4 tc4] 66 (0,0))):=hid (by rw [←hW,hnb];exact heap_alloc_new w10 _)
  have HXB:=hid (HX10.out.trans hxb)
  have HFBb:=hid ((hxb.block (zab HFB10.out)).trans HFB10.out)
  have HNN:Hid (w10.heap.size=nb):=hid hnb.symm
  have HTI:Hid (Row Wb 90 5 (.slice ta4 tn4 tc4) tn4 (trs ti)):=hid (HO4.out.t.ext hxb)
  have HTF:Hid (∀g,ta4.map (·.block)=some g→w9.heap.size≤g∧g<nb):=hid (fun g hg=>⟨by have:=HO4.out.to' g hg;have:=HXA.out.size;omega,by have:=HO4.out.t.lt (g:=g) (by rw [zar];exact hg);omega⟩)
  have HX9N:Hid (w9.heap.size≤nb):=hid (by have:=HX10.out.size;omega)
  clear hW hnb hxb HX10 HO4
  have hinfo:(Tryz.prog.info? 3).map (·.size)=some 1:=by kernel_rfl
  have HINF:=hid hinfo
  clear hinfo
  have hsx:sx=(n:Int):=HX.out
  subst hsx
  have y0:=zaa HNB.out 0
  simp at y0
  go_upto_region 13 with (refine zap rfl _ _ _ rfl nb 0 _ #[.int .i64 ((n:Int)+1),.int .i64 sr,.int .i64 sq,.bool mb,.int .i64 mt,.int .i64 mg,.slice fa4 fn4 fc4,.slice ta4 tn4 tc4] _ _ rfl rfl rfl rfl HNB.out (by simp) rfl HINF.out ?_;rintro Vb hbV hcV _he;have HNBb:=hid hbV;have HCb:=hid hcV;clear hbV hcV _he)
  simp only [Act.put]
  clear y0
  have HFBv:=hid ((HCb.out.block fb (zab HFBb.out) (fun e=>by have h1:=zab HFB10.out;have:=HNN.out;omega)).trans HFBb.out)
  go_upto_region 14 with (first
   | (refine zat rfl _ _ rfl _ _ _ _ _ rfl HFBv.out Tryz.underlying110 rfl zed ?_)
   | (refine zap rfl _ _ _ rfl nb 6 _ #[.int .i64 ((n:Int)+1),.int .i64 sr,.int .i64 sq,.bool mb,.int .i64 mt,.int .i64 mg,.slice (some ⟨Vb.heap.size,0,none⟩) 1 1,.slice ta4 tn4 tc4] _ _ rfl rfl rfl rfl ((((Ext.refl Vb).alloc _).block (zab HNBb.out)).trans HNBb.out) (by simp) rfl zdh ?_;rintro Vd hbV hcV _he;have HNBd:=hid hbV;have HCd:=hid hcV;clear hbV hcV _he))
  have hcT:Chg (·=nb) Wb Vd:=HCb.out.trans ((Chg.of_ext ((Ext.refl Vb).alloc _)).trans HCd.out (fun _ _ e=>e)) (fun _ _ e=>e)
  have hn9:w9.heap.size≤nb:=HX9N.out
  have hpn:p<w9.heap.size:=zab HSA.out.box
  have hB9:∀b∈B9,b<w9.heap.size:=HSA.out.disk.lt
  have hsd:=(HSA.out.ext HXB.out).other hcT (fun e=>by have:=hB9 nb e;omega) (by omega) (fun hn e=>by have:=(HSA.out.off.f hn nb e).2;omega) (fun hn e=>by have:=(HSA.out.off.t hn nb e).2;omega)
  have hVb:Wb.heap.size≤Vb.heap.size:=HCb.out.size
  have hWb:w9.heap.size≤Wb.heap.size:=HXB.out.size
  have hnW:nb<Wb.heap.size:=zab HNB.out
  have hsl:Vd.heap[Vb.heap.size]?=some (.cells #[.string F.nm,.int .i64 F.a,.int .i64 F.b,.int .i64 F.k] 110 (0,0)):=(HCd.out.block Vb.heap.size (by have:=(Ext.refl Vb).alloc (.cells #[.string F.nm,.int .i64 F.a,.int .i64 F.b,.int .i64 F.k] 110 (0,0)) |>.size;exact zab (heap_alloc_new Vb _)) (by omega)).trans (heap_alloc_new Vb _)
  have hin:StoV.In ⟨some ⟨Vb.heap.size,0,none⟩,1,1,ta4,tn4,tc4⟩ Vd ⟨(n:Int)+1,sr,sq,⟨mb,mt,mg⟩,[F],ti⟩ :=
   ⟨src_flc hsl,(HTI.out.chg hcT (fun g hg e=>by rw [zar] at hg;have:=HTF.out g hg;omega)).src (trs_one _),HKM.out,by show 1<_;omega,by show tn4<_;omega⟩
  have hoff:StoV.Off ⟨some ⟨Vb.heap.size,0,none⟩,1,1,ta4,tn4,tc4⟩ Vd (p::B9):=⟨fun _ g hg=>by
   have e1:Vb.heap.size=g:=by simpa using hg
   subst e1
   refine ⟨fun e=>?_,zab hsl⟩
   rcases yaq.1 e with e|e
   ·omega
   ·have:=hB9 _ e;omega,fun _ g hg=>by
   have h1:=HTF.out g hg
   have h2:=hcT.size
   refine ⟨fun e=>?_,by omega⟩
   rcases yaq.1 e with e|e
   ·omega
   ·have:=hB9 _ e;omega⟩
  have hww:w.heap.size≤w9.heap.size:=HCW.out.1.size
  have hgd:HasET Vd:=(HGW.out.ext HXB.out).chg hcT (fun e=>by have:=HG.out.lt;omega)
  have HINS:=hid (stoInstall_any (k:=k+3) (by omega) HIR.out hsd hin hoff hgd)
  have hcw:Chg (·∈B) w Vd:=(HCW.out.1.trans (Chg.of_ext (S:=(·∈B)) HXB.out) (fun _ _ e=>e)).trans hcT (fun i hi e=>by omega)
  have HCWD:=hid hcw
  have HNEW:Hid (StoV.New ⟨some ⟨Vb.heap.size,0,none⟩,1,1,ta4,tn4,tc4⟩ w):=hid ⟨fun g hg=>by have e1:Vb.heap.size=g:=(by simpa using hg);omega,fun g hg=>by have:=HTF.out g hg;omega⟩
  clear hcT hn9 hpn hB9 hsd hVb hWb hnW hsl hin hoff hww hgd hcw
  go_wp2_with (refine zat rfl _ _ rfl _ _ _ _ _ rfl HNBd.out Tryz.underlying66 rfl zaK ?_)
  refine HINS.out.mono ?_
  rintro e we ⟨rfl,hre⟩
  obtain ⟨R2,hR2⟩:∃R2,R2=saveS S9 ⟨(n:Int)+1,sr,sq,⟨mb,mt,mg⟩,[F],ti⟩:=⟨_,rfl⟩
  have HIS:Hid (DInv R2.2 (k+3+4)):=hid (by rw [hR2];exact HIR.out.save _)
  have HR2:=hid hR2.symm
  rw [←hR2] at hre ⊢
  clear hR2
  obtain ⟨z2,S2⟩:=R2
  simp only at hre HIS ⊢
  by_cases hz2:z2=0
  ·subst hz2
   rw [if_pos rfl] at hre
   obtain ⟨B2,h2',c2,n2⟩:=hre
   have HA2:=hid h2'
   have HC2:=hid (And.intro c2 n2)
   clear h2' c2 n2
   go_wp2_with fail
   refine (stoTidy_any HIS.out (by omega) HA2.out (by show 1≤_;omega) (by show tn4≤_;omega)).mono ?_
   rintro e wf ⟨rfl,hto⟩
   have HTO:=hid hto
   clear hto
   go_wp2_with fail
   go_ret
   refine ⟨Q,HQ.out.1,HQ.out.2,?_⟩
   rw [HRE.out,HFS.out]
   unfold TidyTo
   rw [if_neg (by simp),HR2.out,if_neg (by simp)]
   refine ⟨rfl,⟨some ⟨Vb.heap.size,0,none⟩,1,1,ta4,tn4,tc4⟩,rfl,HFL.out.2.symm,HNEW.out,?_⟩
   have h1:=StoNew.then (w:=Vd) HC2.out.1 HC2.out.2 HTO.out
   exact StoNew.more HPL.out (HCWD.out.mono (fun i _ e=>.inr e)) HCW.out.2 h1
  ·have hz0:(z2==0)=false:=yam.2 hz2
   have hz1:(z2 != 0)=true:=bne_iff_ne.2 hz2
   rw [if_neg hz2] at hre
   have HRE2:=hid hre
   clear hre
   go_wp2_with fail
   go_ret
   refine ⟨Q,HQ.out.1,HQ.out.2,?_⟩
   rw [HRE.out,HFS.out]
   unfold TidyTo
   rw [if_neg (by simp),HR2.out,if_pos hz2]
   exact ⟨rfl,StoTo.more HCWD.out HCW.out.2 HRE2.out⟩
 ·have hz0:(z==0)=false:=yam.2 hz
  have hz1:(z != 0)=true:=bne_iff_ne.2 hz
  go_wp2_with fail
  go_ret
  refine ⟨Q,HQ.out.1,HQ.out.2,?_⟩
  rw [HRE.out]
  unfold TidyTo
  rw [if_pos hz]
  exact ⟨rfl,StoTo.more HCW.out.1 HCW.out.2 (.same HSA.out ((Ext.refl w9).alloc _))⟩
theorem nameS_bl (c:UInt8) (n:Nat):bl (nameS c n)=c::digs 12 n:=rfl
theorem nameS_inj {c:UInt8}{i j:Nat}(hi:i<1000000000) (hj:j<1000000000) (h:nameS c i=nameS c j):i=j:=by
 have h1:=congrArg bl h
 rw [nameS_bl,nameS_bl] at h1
 have h2:=(List.cons.inj h1).2
 have h3:=numD_digs 12 i 0
 rw [h2,numD_digs 12 j 0] at h3
 have h4:=yaG h3
 rw [Nat.mod_eq_of_lt (by omega),Nat.mod_eq_of_lt (by omega)] at h4
 omega
theorem nameS_ok (c:UInt8) (n:Nat):nameB (nameS c n)=true:=by
 unfold nameB;rw [zcY];decide
theorem zdt (n:Nat):nameS 115 n≠fM:=fun e=>by
 have h:=congrArg ByteArray.size e
 rw [zcY] at h
 simp [fM,ByteArray.size] at h
theorem nameS_fN (n:Nat):nameS 115 n≠fN:=fun e=>by
 have h:=congrArg ByteArray.size e
 rw [zcY] at h
 simp [fN,ByteArray.size] at h
theorem pre_s (n:Nat):Lib.hasPrefix (bl (nameS 115 n)) (bl fS)=true:=by
 rw [nameS_bl]
 show [115].isPrefixOf (115::digs 12 n)=true
 simp [List.isPrefixOf]
theorem pre_r (n:Nat):Lib.hasPrefix (bl (nameS 115 n)) (bl fR)=false:=by
 rw [nameS_bl]
 show [114].isPrefixOf (115::digs 12 n)=false
 simp [List.isPrefixOf]
theorem pre_m:Lib.hasPrefix (bl fM) (bl fS)=false∧Lib.hasPrefix (bl fM) (bl fR)=false:=by
 constructor<;>rfl
theorem zcl {S:DiskS}{p n:ByteArray}:n∈S.list p↔(aget S.files n).isSome=true∧Lib.hasPrefix (bl n) (bl p)=true:=by
 unfold DiskS.list
 rw [(zbw _).mem_iff]
 unfold DiskS.names
 rw [yay,←zbG]
theorem list_nodupS {S:DiskS}(h:(S.files.map (·.1)).Nodup) (p:ByteArray):(S.list p).Nodup:=by
 unfold DiskS.list
 refine (zbw _).symm.nodup ?_
 exact h.filter _
theorem write_ok {S:DiskS}{n:ByteArray}{b:List UInt8}(hn:nameB n=true) (hl:S.left<0) (hg:aget S.files n=none) (hroom:S.used+b.length≤S.room) (hfew:S.files.length<512) (hb:b.length≤1048576) :
 ∃S',zaC S n b=(0,S')∧OpOk S S' (updG (getS S) n (some ⟨b,b.length,true⟩)) b.length 1:=by
 obtain ⟨S1,e1,o1⟩:=append_new hn (by omega) hg hroom hfew hb
 have l1:S1.left=S.left:=by rw [o1.left,zco hl]
 have g1:aget S1.files n=some ⟨b,0,false⟩:=by rw [o1.get];unfold updG;rw [if_pos rfl]
 obtain ⟨S2,e2,o2⟩:=sync_ok hn (by omega) g1
 refine ⟨S2,?_,⟨fun k=>?_,by rw [o2.room,o1.room],by rw [o2.left,l1],by have:=o1.used;have:=o2.used;omega,by have:=o1.len;have:=o2.len;omega⟩⟩
 ·unfold zaC
  rw [hg]
  unfold thenS
  simp only [Option.isSome_none,Bool.false_eq_true,if_false,if_true,e1,e2]
 ·rw [o2.get]
  unfold updG
  by_cases e:k=n
  ·rw [if_pos e,if_pos e]
  ·rw [if_neg e,if_neg e]
   show aget S1.files k=_
   rw [o1.get]
   unfold updG
   rw [if_neg e]
theorem nm_fN:nameB fN=true:=by decide
theorem nm_fM:nameB fM=true:=by decide
theorem save_ok {S:DiskS}{c:Nat}{s:Sta}(inv:DInv S c) (hl:S.left<0) (hg:aget S.files fN=none) (hr:staR s=true) (hm:s.km.ok) (hroom:S.used+60100≤S.room) (hfew:S.files.length<512) :
 ∃S',saveS S s=(0,S')∧OpOk S S' (updG (getS S) fM (some ⟨sealL 7 (staP s),(sealL 7 (staP s)).length,true⟩)) 60100 1:=by
 have hsl:(sealL 7 (staP s)).length≤60100:=by
  have:=zdV hr hm
  rw [zbh];omega
 obtain ⟨S1,e1,o1⟩:=append_new (b:=sealL 7 (staP s)) nm_fN (by omega) hg (by omega) hfew (by omega)
 have i1:DInv S1 (c+1):=by have h:=inv.append fN (sealL 7 (staP s));rw [e1] at h;exact h
 have l1:S1.left=S.left:=by rw [o1.left,zco hl]
 have g1:aget S1.files fN=some ⟨sealL 7 (staP s),0,false⟩:=by rw [o1.get];unfold updG;rw [if_pos rfl]
 obtain ⟨S2,e2,o2⟩:=sync_ok nm_fN (by omega) g1
 have i2:DInv S2 (c+2):=by have h:=i1.sync fN;rw [e2] at h;exact h
 have l2:S2.left=S.left:=by rw [o2.left,zco (by omega),l1]
 have g2:aget S2.files fN=some ⟨sealL 7 (staP s),(sealL 7 (staP s)).length,true⟩:=by rw [o2.get];unfold updG;rw [if_pos rfl]
 obtain ⟨S3,e3,o3⟩:=rename_ok i2.ok.names nm_fN nm_fM fN_ne (by omega) g2
 refine ⟨S3,?_,⟨fun k=>?_,by rw [o3.room,o2.room,o1.room],by rw [o3.left,zco (by omega),l2,zco hl],by have:=o1.used;have:=o2.used;have:=o3.used;omega,by have:=o1.len;have:=o2.len;have:=o3.len;omega⟩⟩
 ·unfold saveS saveA
  rw [if_pos hr,hg]
  unfold thenS
  simp only [Option.isSome_none,Bool.false_eq_true,if_false,if_true,e1,e2,e3]
 ·rw [o3.get]
  unfold updG
  by_cases e:k=fM
  ·rw [if_pos e,if_pos e]
  ·rw [if_neg e,if_neg e]
   by_cases e':k=fN
   ·rw [if_pos e',e'];exact hg.symm
   ·rw [if_neg e']
    show aget S2.files k=_
    rw [o2.get]
    unfold updG
    rw [if_neg e']
    show aget S1.files k=_
    rw [o1.get]
    unfold updG
    rw [if_neg e']
theorem tidy_ok {N:List ByteArray}:∀{L:List ByteArray}{S:DiskS}{c:Nat},DInv S c→S.left<0→L.Nodup→(∀f∈L,(aget S.files f).isSome=true∧nameB f=true) →
 ∃S',zbv N L S=(0,S')∧OpOk S S' (fun k=>if k∈L∧k∉N then none else aget S.files k) 0 0
 | [],S,c,inv,hl,_,_=>⟨S,rfl,⟨fun k=>by simp,rfl,by rw [zco hl],by omega,by omega⟩⟩
 | f::L,S,c,inv,hl,hn,hL=>by
  obtain ⟨hf,hn⟩:=yaU.1 hn
  by_cases hN:f∈N
  ·obtain ⟨S',e,o⟩:=tidy_ok (N:=N) (L:=L) inv hl hn (fun g hg=>hL g (by simp [hg]))
   refine ⟨S',by rw [zbv,if_pos hN,e],⟨fun k=>?_,o.room,o.left,o.used,o.len⟩⟩
   rw [o.get]
   by_cases hk:k∈L∧k∉N
   ·rw [if_pos hk,if_pos ⟨by simp [hk.1],hk.2⟩]
   ·rw [if_neg hk,if_neg]
    rintro ⟨h1,h2⟩
    rcases yaq.1 h1 with e|e
    ·exact h2 (e▸hN)
    ·exact hk ⟨e,h2⟩
  ·obtain ⟨x,hx⟩:=Option.isSome_iff_exists.1 (hL f (by simp)).1
   obtain ⟨S1,e1,o1⟩:=delete_ok inv.ok.names (hL f (by simp)).2 (by omega) hx
   have i1:DInv S1 (c+1):=by have h:=inv.delete f;rw [e1] at h;exact h
   have l1:S1.left=S.left:=by rw [o1.left,zco hl]
   have g1:∀g,g≠f→aget S1.files g=aget S.files g:=fun g hg=>by rw [o1.get];unfold updG;rw [if_neg hg]
   obtain ⟨S',e,o⟩:=tidy_ok (N:=N) (L:=L) i1 (by omega) hn (fun g hg=>by
    rw [g1 g (fun e=>hf (e▸hg))]
    exact hL g (by simp [hg]))
   refine ⟨S',?_,⟨fun k=>?_,by rw [o.room,o1.room],by rw [o.left,l1],by have:=o.used;have:=o1.used;omega,by have:=o.len;have:=o1.len;omega⟩⟩
   ·rw [zbv,if_neg hN,e1]
    exact e
   ·rw [o.get]
    by_cases hkf:k=f
    ·subst hkf
     rw [if_pos (show k∈k::L∧k∉N from ⟨by simp,hN⟩),if_neg (fun h=>hf h.1),o1.get]
     unfold updG
     rw [if_pos rfl]
    ·by_cases hk:k∈L∧k∉N
     ·rw [if_pos hk,if_pos ⟨by simp [hk.1],hk.2⟩]
     ·rw [if_neg hk,if_neg,g1 k hkf]
      rintro ⟨h1,h2⟩
      rcases yaq.1 h1 with e|e
      ·exact hkf e
      ·exact hk ⟨e,h2⟩
theorem okV_of:∀{l:List Pt},Rises l→(∀p∈l,-1152921504606846976≤p.t∧p.t≤1152921504606846976∧0≤p.s∧p.s≤1152921504606846976)→(okV l).1=true:=by
 intro l hr hb
 have key:∀k,k≤l.length→(okV (l.take k)).1=true∧((okV (l.take k)).2=-1152921504606846977∨∃(j:Nat) (q:Pt),j<k∧l[j]?=some q∧(okV (l.take k)).2=q.t):=by
  intro k
  induction k with
  | zero=>intro _;exact ⟨rfl,.inl rfl⟩
  | succ k ih =>
   intro hk
   have hp:l[k]?=some l[k]:=yac (by omega)
   obtain ⟨h1,h2⟩:=ih (by omega)
   have hm:=hb l[k] (yaM _)
   have hlt:(okV (l.take k)).2<(l[k]).t:=by
    rcases h2 with e|⟨j,q,hj,hq,e⟩
    ·omega
    ·rw [e];exact hr.at hq hp hj
   rw [okV_next hp]
   refine ⟨?_,.inr ⟨k,l[k],by omega,hp,rfl⟩⟩
   unfold stepV
   simp [h1]
   omega
 have h:=(key l.length (Nat.le_refl _)).1
 rwa [List.take_length] at h
theorem colV_of {l:List Pt}(hr:Rises l) (hb:∀p∈l,-1152921504606846976≤p.t∧p.t≤1152921504606846976∧0≤p.s∧p.s≤1152921504606846976) (h0:0<l.length) (h1:l.length≤4096):colV l=true:=by
 unfold colV
 rw [okV_of hr hb]
 simp only [Bool.true_and,yaK,yaL]
 exact ⟨h0,h1⟩
theorem le_sum_mem:∀{l:List Nat}{x:Nat},x∈l→x≤l.sum
 | y::l,x,h=>by
  rw [yaI]
  rcases yaq.1 h with e|e
  ·omega
  ·have:=le_sum_mem e;omega
theorem span_items {Q:List Prt}(h:PrtsOk Q):-1152921504606846976≤loS (zaw Q)∧loS (zaw Q)≤hiS (zaw Q)∧hiS (zaw Q)≤1152921504606846976∧0<cntL (zaw Q)∧cntL (zaw Q)≤1024:=by
 have hm:=minOf_fold (zaw Q)
 have hs:=h.seg
 obtain ⟨x,hx⟩:∃x,x∈zaw Q:=List.exists_mem_of_length_pos hs.pos
 have h1:=hm.l1 x hx trivial
 have h2:=hm.h1 x hx trivial
 have hxo:=hs.ok x hx
 have e1:=hxo.l1
 have hlo:-1152921504606846976≤loS (zaw Q):=by
  rcases hm.l2 with e|⟨y,hy,e⟩
  ·omega
  ·have:=(hs.ok y hy).l0;omega
 have hhi:hiS (zaw Q)≤1152921504606846976:=by
  rcases hm.h2 with e|⟨y,hy,e⟩
  ·omega
  ·have:=(hs.ok y hy).l2;omega
 have hc:cntL (zaw Q)=manyP Q:=by
  unfold cntL zaw manyP
  rw [List.map_map];rfl
 refine ⟨hlo,?_,hhi,?_,by rw [hc];exact h.many⟩
 ·omega
 ·have hx0:=hxo.n0
  have:x.n≤cntL (zaw Q):=by
   unfold cntL
   exact le_sum_mem (yax hx)
  omega
theorem flR_file {Q:List Prt}(h:PrtsOk Q) (n:Nat):flR (zdu (nameS 115 n) Q)=true:=by
 obtain ⟨h1,h2,h3,h4,h5⟩:=span_items h
 have e:nmB (nameS 115 n)=true:=by unfold nmB;rw [zcY];decide
 have t1:tmB (loS (zaw Q))=true:=by unfold tmB;rw [decide_eq_true (by omega),decide_eq_true (by omega)];rfl
 have t2:tmB (hiS (zaw Q))=true:=by unfold tmB;rw [decide_eq_true (by omega),decide_eq_true (by omega)];rfl
 have t3:z60 (cntL (zaw Q):Int)=true:=by unfold z60 inB;rw [decide_eq_true (by omega),decide_eq_true (by omega)];rfl
 unfold flR zdu
 simp only [e,t1,t2,t3]
 rw [decide_eq_true h2,decide_eq_true (by omega)]
 rfl
abbrev Gs:=List (Nat×List Prt)
def flsOf (G:Gs):List Fl:=G.map fun g=>zdu (nameS 115 g.1) g.2
def km5:Mk:=⟨false,0,5⟩
theorem staR_of {G:Gs}{x r q:Int}(hG:∀g∈G,PrtsOk g.2) (hl:G.length≤512) (hx:0≤x∧x≤1000000) (hr:0≤r∧r≤1000000) (hq:0≤q∧q≤1000000):staR ⟨x,r,q,km5,flsOf G,[]⟩=true:=by
 have h1:(flsOf G).all flR=true:=by
  rw [yaV]
  intro f hf
  obtain ⟨g,hg,rfl⟩:=yap.1 hf
  exact flR_file (hG g hg) _
 have h2:(flsOf G).length≤512:=by unfold flsOf;rw [yaw];exact hl
 have h3:mkR km5=true:=by decide
 have z:∀y:Int,0≤y∧y≤1000000→z60 y=true:=fun y hy=>by unfold z60 inB;rw [decide_eq_true (by omega),decide_eq_true (by omega)];rfl
 unfold staR staB
 simp only [h1,h3,z x hx,z r hr,z q hq]
 rw [decide_eq_true h2]
 rfl
theorem km5_ok:km5.ok:=⟨by decide,by decide,by decide,by decide⟩
def ownSt:Sta:=⟨0,0,0,km5,[],[]⟩
theorem newDisk_invS {room:Int}(h0:0≤room) (h1:room≤1073741824):DInv (zbP room) 0:=⟨newDisk_ok h0 h1,Int.le_refl _,by simp [zbP],by simp [zbP,sumF]⟩
def totG (G:Gs):Nat:=(G.map fun g=>manyP g.2).sum
structure StI (S:DiskS) (s:Sta) (G:Gs) (X c:Nat):Prop where
 st:s=⟨(X:Int),s.r,s.q,km5,flsOf G,[]⟩
 rq:0≤s.r∧s.r≤1000∧s.q=s.r
 num:(G.map Prod.fst).Nodup∧(∀g∈G,g.1<X)∧X≤1000
 ok:∀g∈G,PrtsOk g.2∧∀q∈g.2,∀p∈q.2,-9223372036854775808≤p.v∧p.v≤9223372036854775807
 inv:DInv S c
 left:S.left<0
 room:S.room=16777216
 file:∀g∈G,∃f,aget S.files (nameS 115 g.1)=some f∧f.bytes=segB g.2
 man:(∃f,aget S.files fM=some f∧f.bytes=sealL 7 (staP s))∨(aget S.files fM=none∧s=ownSt)
 keys:∀n,(aget S.files n).isSome=true→n=fM∨∃g∈G,n=nameS 115 g.1
 few:G.length≤30
 tot:totG G≤600
theorem StI.x {S:DiskS}{s:Sta}{G:Gs}{X c:Nat}(h:StI S s G X c):s.x=(X:Int):=by rw [h.st]
theorem StI.fl {S:DiskS}{s:Sta}{G:Gs}{X c:Nat}(h:StI S s G X c):s.fl=flsOf G:=by rw [h.st]
theorem StI.ti {S:DiskS}{s:Sta}{G:Gs}{X c:Nat}(h:StI S s G X c):s.ti=[]:=by rw [h.st]
theorem StI.km {S:DiskS}{s:Sta}{G:Gs}{X c:Nat}(h:StI S s G X c):s.km=km5:=by rw [h.st]
theorem StI.r {S:DiskS}{s:Sta}{G:Gs}{X c:Nat}(h:StI S s G X c):staR s=true:=by
 have h1:=h.rq
 have h2:=h.num.2.2
 have h3:=h.few
 rw [h.st]
 exact staR_of (fun g hg=>(h.ok g hg).1) (by omega) (by omega) (by omega) (by omega)
theorem StI.kmok {S:DiskS}{s:Sta}{G:Gs}{X c:Nat}(h:StI S s G X c):s.km.ok:=by rw [h.km];exact km5_ok
theorem StI.seal {S:DiskS}{s:Sta}{G:Gs}{X c:Nat}(h:StI S s G X c):(sealL 7 (staP s)).length≤60100:=by
 have:=zdV h.r h.kmok
 rw [zbh];omega
theorem StI.len {S:DiskS}{s:Sta}{G:Gs}{X c:Nat}(h:StI S s G X c):S.files.length≤31:=by
 have h1:=nodup_le h.inv.ok.names (b:=fM::G.map fun g=>nameS 115 g.1) (fun n hn=>by
  rcases h.keys n (zbG.2 hn) with e|⟨g,hg,e⟩
  ·rw [e];simp
  ·rw [e];exact yaD _ (yax (f:=fun g:Nat×List Prt=>nameS 115 g.1) hg))
 have:=h.few
 simp at h1
 omega
theorem sum_le_mul {l:List Nat}{k:Nat}(h:∀x∈l,x≤k):l.sum≤l.length*k:=by
 induction l with
 | nil=>simp
 | cons x l ih =>
  have h1:=ih (fun y hy=>h y (by simp [hy]))
  have h2:=h x (by simp)
  rw [yaI,List.length_cons,Nat.succ_mul];omega
theorem StI.used {S:DiskS}{s:Sta}{G:Gs}{X c:Nat}(h:StI S s G X c):S.used≤5177000:=by
 rw [h.inv.sum]
 have h1:sumF S.files≤S.files.length*167000:=by
  unfold sumF
  have:=sum_le_mul (l:=S.files.map fun p=>p.2.bytes.length) (k:=167000) (fun x hx=>by
   obtain ⟨p,hp,rfl⟩:=yap.1 hx
   have hg:=zeg h.inv.ok.names (k:=p.1) (v:=p.2) hp
   rcases h.keys p.1 (by rw [hg];rfl) with e|⟨g,hgG,e⟩
   ·rcases h.man with ⟨f,hf,hb⟩|⟨hn,_⟩
    ·rw [←e,hg] at hf
     cases hf
     rw [hb]
     have:=h.seal;omega
    ·rw [←e,hg] at hn;cases hn
   ·obtain ⟨f,hf,hb⟩:=h.file g hgG
    rw [←e,hg] at hf
    cases hf
    rw [hb]
    exact segB_len (h.ok g hgG).1)
  rwa [yaw] at this
 have h2:=h.len
 have h3:S.files.length*167000≤31*167000:=Nat.mul_le_mul_right _ h2
 omega
theorem StI.noN {S:DiskS}{s:Sta}{G:Gs}{X c:Nat}(h:StI S s G X c):aget S.files fN=none:=by
 cases hg:aget S.files fN with
 | none=>rfl
 | some f =>
  rcases h.keys fN (by rw [hg];rfl) with e|⟨g,_,e⟩
  ·exact absurd e fN_ne
  ·exact absurd e.symm (nameS_fN _)
theorem StI.noX {S:DiskS}{s:Sta}{G:Gs}{X c k:Nat}(h:StI S s G X c) (hk:X≤k) (hk2:k<1000000):aget S.files (nameS 115 k)=none:=by
 cases hg:aget S.files (nameS 115 k) with
 | none=>rfl
 | some f =>
  rcases h.keys _ (by rw [hg];rfl) with e|⟨g,hgG,e⟩
  ·exact absurd e (zdt _)
  ·have h1:=h.num.2.1 g hgG
   have h2:=h.num.2.2
   have:=nameS_inj (by omega) (by omega) e
   omega
theorem StI.load {S:DiskS}{s:Sta}{G:Gs}{X c:Nat}(h:StI S s G X c):(aget S.files fM).isSome=true→loadS S=(s,true,0):=by
 intro hs
 rcases h.man with ⟨f,hf,hb⟩|⟨hn,_⟩
 ·unfold loadS
  rw [hf]
  show loadO (staRd f.bytes)=_
  rw [hb,staRd_seal h.r h.kmok (by have:=zdV h.r h.kmok;omega)]
  rfl
 ·rw [hn] at hs;simp at hs
theorem names_flsOf (G:Gs) (x r q:Int) (m:Mk):zbQ ⟨x,r,q,m,flsOf G,[]⟩=G.map fun g=>nameS 115 g.1:=by
 unfold zbQ madeN flsOf
 simp [zdu,Function.comp_def]
theorem StI.names {S:DiskS}{s:Sta}{G:Gs}{X c:Nat}(h:StI S s G X c):zbQ s=G.map fun g=>nameS 115 g.1:=by rw [h.st];exact names_flsOf G _ _ _ _
theorem StI.listR {S:DiskS}{s:Sta}{G:Gs}{X c:Nat}(h:StI S s G X c):S.list fR=[]:=by
 cases hl:S.list fR with
 | nil=>rfl
 | cons f L =>
  have hm:f∈S.list fR:=by rw [hl];simp
  obtain ⟨h1,h2⟩:=zcl.1 hm
  rcases h.keys f h1 with e|⟨g,_,e⟩
  ·rw [e,pre_m.2] at h2;cases h2
  ·rw [e,pre_r] at h2;cases h2
theorem StI.listS {S:DiskS}{s:Sta}{G:Gs}{X c:Nat}(h:StI S s G X c) {f:ByteArray}(hf:f∈S.list fS):∃g∈G,f=nameS 115 g.1:=by
 obtain ⟨h1,h2⟩:=zcl.1 hf
 rcases h.keys f h1 with e|h
 ·rw [e,pre_m.1] at h2;cases h2
 ·exact h
theorem tidyGo_own_all {N:List ByteArray}:∀{L:List ByteArray}(S:DiskS),(∀f∈L,f∈N)→zbv N L S=(0,S)
 | [],S,_=>rfl
 | f::L,S,h=>by rw [zbv,if_pos (h f (by simp)),tidyGo_own_all S (fun g hg=>h g (by simp [hg]))]
theorem StI.tidy {S:DiskS}{s:Sta}{G:Gs}{X c:Nat}(h:StI S s G X c):tidyS S s=(0,S):=by
 unfold tidyS
 refine tidyGo_own_all S (fun f hf=>?_)
 rw [h.names]
 unfold tidyL at hf
 rw [h.listR,yaP] at hf
 obtain ⟨g,hg,rfl⟩:=h.listS hf
 exact yax (f:=fun g:Nat×List Prt=>nameS 115 g.1) hg
theorem StI.rest {S:DiskS}{s:Sta}{G:Gs}{X c:Nat}(h:StI S s G X c):restK S s=(0,s):=by
 unfold restK
 rw [if_pos]
 rw [yaV]
 intro n hn
 rw [h.names] at hn
 obtain ⟨g,hg,rfl⟩:=yap.1 hn
 obtain ⟨f,hf,_⟩:=h.file g hg
 rw [hf];rfl
theorem alike_own {G:Gs}{x r q:Int}:alikeB ownSt ⟨x,r,q,km5,flsOf G,[]⟩=true:=rfl
theorem StI.open {S:DiskS}{s:Sta}{G:Gs}{X c:Nat}(h:StI S s G X c):stoK S ownSt (alikeB ownSt)=(0,s):=by
 unfold stoK
 rcases h.man with ⟨f,hf,_⟩|⟨hn,hs⟩
 ·have hl:=h.load (by rw [hf];rfl)
  rw [hl]
  simp only [ne_eq,not_true,if_false,if_true]
  rw [if_pos (by rw [h.st];exact alike_own)]
  exact h.rest
 ·have hl:loadS S=(staZ,false,0):=by unfold loadS;rw [hn]
  rw [hl]
  simp only [ne_eq,not_true,if_false]
  rw [if_neg (by simp),←hs]
  exact h.rest
theorem start_I:StI (zbP 16777216) ownSt [] 0 0 where
 st:=rfl
 rq:=⟨by decide,by decide,rfl⟩
 num:=⟨by simp,by simp,by omega⟩
 ok:=by simp
 inv:=newDisk_invS (by decide) (by decide)
 left:=by show (-1:Int)<0;decide
 room:=rfl
 file:=by simp
 man:=.inr ⟨rfl,rfl⟩
 keys:=fun n hn=>by simp [zbP,aget] at hn
 few:=by simp
 tot:=by simp [totG]
theorem flsOf_snoc (G:Gs) (n:Nat) (Q:List Prt):flsOf (G++[(n,Q)])=flsOf G++[zdu (nameS 115 n) Q]:=by simp [flsOf]
theorem totG_snoc (G:Gs) (n:Nat) (Q:List Prt):totG (G++[(n,Q)])=totG G+manyP Q:=by simp [totG]
theorem StI.flush_eq {S:DiskS}{s:Sta}{G:Gs}{X c:Nat}(h:StI S s G X c) (i:Int) (Q:List Prt):zcn s X i i km5 Q=⟨((X+1:Nat):Int),i,i,km5,flsOf (G++[(X,Q)]),[]⟩:=by
 unfold zcn
 rw [flsOf_snoc,h.fl,h.ti]
 simp
theorem put_file {S:DiskS}{s:Sta}{G:Gs}{X c:Nat}(h:StI S s G X c) {Q:List Prt}(hQ:PrtsOk Q) (hX:X<1000) {s':Sta}(hr:staR s'=true) (hm:s'.km.ok) :
 ∃S1 S2,zaC S (nameS 115 X) (segB Q)=(0,S1)∧saveS S1 s'=(0,S2)∧DInv S2 (c+7)∧S2.left<0∧S2.room=16777216 ∧
  ∀k,aget S2.files k=if k=fM then some ⟨sealL 7 (staP s'),(sealL 7 (staP s')).length,true⟩ else if k=nameS 115 X then some ⟨segB Q,(segB Q).length,true⟩ else aget S.files k:=by
 have hu:=h.used
 have hl:=h.len
 have hb:=segB_len hQ
 have hrm:=h.room
 have hlf:=h.left
 obtain ⟨S1,e1,o1⟩:=write_ok (nameS_ok 115 X) h.left (h.noX (Nat.le_refl _) (by omega)) (b:=segB Q) (by omega) (by omega) (by omega)
 have i1:DInv S1 (c+3):=by have h:=h.inv.write (nameS 115 X) (segB Q);rw [e1] at h;exact h
 have l1:S1.left=S.left:=by rw [o1.left,zco hlf]
 have n1:aget S1.files fN=none:=by
  rw [o1.get];unfold updG
  rw [if_neg (fun e=>nameS_fN X e.symm)]
  exact h.noN
 obtain ⟨S2,e2,o2⟩:=save_ok i1 (by omega) n1 hr hm (by have:=o1.used;have:=o1.room;omega) (by have:=o1.len;omega)
 have i2:DInv S2 (c+7):=by have h:=i1.save s';rw [e2] at h;exact h
 refine ⟨S1,S2,e1,e2,i2,by rw [o2.left,zco (by omega)];omega,by rw [o2.room,o1.room];exact hrm,fun k=>?_⟩
 rw [o2.get]
 unfold updG
 by_cases e:k=fM
 ·rw [if_pos e,if_pos e]
 ·rw [if_neg e,if_neg e]
  show aget S1.files k=_
  rw [o1.get]
  unfold updG
  by_cases e':k=nameS 115 X
  ·rw [if_pos e']
  ·rw [if_neg e']
theorem step_flush {S:DiskS}{s:Sta}{G:Gs}{X c:Nat}(h:StI S s G X c) {Q:List Prt}(hQ:PrtsOk Q) (hv:∀q∈Q,∀p∈q.2,-9223372036854775808≤p.v∧p.v≤9223372036854775807) {i:Int}(hi:s.r≤i∧i≤1000) (hG:G.length<30) (hX:X<1000) (ht:totG G+manyP Q≤600) :
 ∃S1 S2,zaC S (nameS 115 X) (segB Q)=(0,S1)∧saveS S1 (zcn s X i i km5 Q)=(0,S2)∧StI S2 (zcn s X i i km5 Q) (G++[(X,Q)]) (X+1) (c+7):=by
 have h0:=h.rq
 have hok:∀g∈G++[(X,Q)],PrtsOk g.2∧∀q∈g.2,∀p∈q.2,-9223372036854775808≤p.v∧p.v≤9223372036854775807:=fun g hg=>by
  rcases yah.1 hg with e|e
  ·exact h.ok g e
  ·obtain rfl:=yal.1 e
   exact ⟨hQ,hv⟩
 have hr:staR (zcn s X i i km5 Q)=true:=by
  rw [h.flush_eq]
  exact staR_of (fun g hg=>(hok g hg).1) (by simp;omega) (by omega) (by omega) (by omega)
 obtain ⟨S1,S2,e1,e2,i2,l2,r2,g2⟩:=put_file h hQ hX hr (by rw [h.flush_eq];exact km5_ok)
 have hne:∀g∈G,nameS 115 g.1≠nameS 115 X:=fun g hg e=>by
  have h1:=h.num.2.1 g hg
  have h2:=h.num.2.2
  have:=nameS_inj (by omega) (by omega) e
  omega
 refine ⟨S1,S2,e1,e2,?_⟩
 refine { st:=h.flush_eq i Q,rq:=⟨by show 0≤i;omega,hi.2,rfl⟩,num:=⟨?_,fun g hg=>?_,by omega⟩,ok:=hok,inv:=i2,left:=l2,room:=r2,file:=fun g hg=>?_,man:=.inl ⟨_,by rw [g2,if_pos rfl],rfl⟩,keys:=fun k hk=>?_,few:=by simp;omega,tot:=by rw [totG_snoc];exact ht }
 ·rw [yav,List.nodup_append]
  refine ⟨h.num.1,by simp,fun a ha b hb e=>?_⟩
  obtain ⟨g,hg,rfl⟩:=yap.1 ha
  have:b=X:=by simpa using hb
  have:=h.num.2.1 g hg
  omega
 ·rcases yah.1 hg with e|e
  ·have:=h.num.2.1 g e;omega
  ·obtain rfl:=yal.1 e
   exact Nat.lt_succ_self X
 ·rcases yah.1 hg with e|e
  ·rw [g2,if_neg (zdt _),if_neg (hne g e)]
   exact h.file g e
  ·obtain rfl:=yal.1 e
   exact ⟨_,by rw [g2,if_neg (zdt _),if_pos rfl],rfl⟩
 ·rw [g2] at hk
  by_cases e:k=fM
  ·exact .inl e
  ·rw [if_neg e] at hk
   by_cases e':k=nameS 115 X
   ·exact .inr ⟨(X,Q),by simp,e'⟩
   ·rw [if_neg e'] at hk
    rcases h.keys k hk with h1|⟨g,hg,h1⟩
    ·exact .inl h1
    ·exact .inr ⟨g,by simp [hg],h1⟩
theorem StI.comp_eq {S:DiskS}{s:Sta}{G:Gs}{X c:Nat}(h:StI S s G X c) (Q:List Prt):zaR s X Q=⟨((X+1:Nat):Int),s.r,s.q,km5,flsOf [(X,Q)],[]⟩:=by
 unfold zaR
 rw [h.km,h.ti]
 simp [flsOf]
def ofN:List Prt→ByteArray→List Pt
 | [],_=>[]
 | q::Q,n=>if q.1=n then q.2 else ofN Q n
theorem ofN_out:∀{Q:List Prt}{n:ByteArray},n∉Q.map Prod.fst→ofN Q n=[]
 | [],_,_=>rfl
 | q::Q,n,h=>by
  rw [ofN,if_neg (fun e=>h (by simp [e])),ofN_out (fun e=>h (by simp at e ⊢;exact .inr e))]
theorem ofN_at:∀{Q:List Prt}{n:ByteArray},n∈Q.map Prod.fst→∃(i:Nat) (q:Prt),Q[i]?=some q∧q.1=n∧ofN Q n=q.2
 | [],n,h=>by simp at h
 | q::Q,n,h=>by
  by_cases e:q.1=n
  ·exact ⟨0,q,rfl,e,by rw [ofN,if_pos e]⟩
  ·obtain ⟨i,r,h1,h2,h3⟩:=ofN_at (Q:=Q) (n:=n) (by
    rw [yaJ,yaq] at h
    exact h.resolve_left (fun x=>e x.symm))
   exact ⟨i+1,r,by simpa using h1,h2,by rw [ofN,if_neg e,h3]⟩
def VOk (l:List Pt):Prop:=∀p∈l,-9223372036854775808≤p.v∧p.v≤9223372036854775807
theorem hasP_of {Q:List Prt}(h:PrtsOk Q) (hv:∀q∈Q,VOk q.2) (n:ByteArray):HasP (zaw Q) n (ofN Q n):=by
 rcases Classical.em (n∈Q.map Prod.fst) with hn|hn
 ·obtain ⟨i,q,h1,h2,h3⟩:=ofN_at hn
  have hm:=yag h1
  rw [h3]
  exact .inr ⟨i,itemOf q,by unfold zaw;rw [yar,h1];rfl,h2,⟨rfl,rfl,rfl,rfl,h.col q hm,hv q hm⟩⟩
 ·exact .inl ⟨by rw [namesI_of];exact hn,ofN_out hn⟩
theorem sum_ite {N:List ByteArray}(h:N.Nodup) (m:ByteArray) (c:Nat):(N.map fun n=>if m=n then c else 0).sum≤c:=by
 induction N with
 | nil=>simp
 | cons n N ih =>
  obtain ⟨h1,h2⟩:=yaU.1 h
  rw [yaJ,yaI]
  by_cases e:m=n
  ·rw [if_pos e]
   have:(N.map fun n=>if m=n then c else 0).sum=0:=by
    have:∀(M:List ByteArray),m∉M→(M.map fun n=>if m=n then c else 0).sum=0:=by
     intro M
     induction M with
     | nil=>simp
     | cons x M ih =>
      intro hx
      rw [yaJ,yaI,if_neg (fun e=>hx (by simp [e])),ih (fun e=>hx (by simp [e]))]
    exact this N (by rw [e];exact h1)
   omega
  ·rw [if_neg e]
   have:=ih h2
   omega
theorem sum_add (N:List ByteArray) (f g:ByteArray→Nat):(N.map fun n=>f n+g n).sum=(N.map f).sum+(N.map g).sum:=by
 induction N with
 | nil=>rfl
 | cons n N ih=>simp only [yaJ,yaI,ih];omega
theorem sum_le {N:List ByteArray}{f g:ByteArray→Nat}(h:∀n∈N,f n≤g n):(N.map f).sum≤(N.map g).sum:=by
 induction N with
 | nil=>simp
 | cons n N ih =>
  have h1:=h n (by simp)
  have h2:=ih (fun m hm=>h m (by simp [hm]))
  simp only [yaJ,yaI];omega
theorem ofN_sum {N:List ByteArray}(h:N.Nodup):∀(Q:List Prt),(N.map fun n=>(ofN Q n).length).sum≤manyP Q
 | []=>by
  have:(N.map fun n=>(ofN [] n).length)=N.map fun _=>0:=rfl
  rw [this]
  clear h this
  induction N with
  | nil=>simp
  | cons n N ih=>simp only [yaJ,yaI];omega
 | q::Q=>by
  have e:manyP (q::Q)=q.2.length+manyP Q:=by simp [manyP]
  have h1:=ofN_sum h Q
  have h2:=sum_ite h q.1 q.2.length
  have h3:(N.map fun n=>(ofN (q::Q) n).length).sum≤(N.map fun n=>(if q.1=n then q.2.length else 0)+(ofN Q n).length).sum:=sum_le (fun n _=>by
   rw [ofN]
   split<;>omega)
  rw [sum_add] at h3
  omega
def holdG (G:Gs) (n:ByteArray):List (List Pt):=G.map fun g=>ofN g.2 n
theorem holdG_sum {N:List ByteArray}(h:N.Nodup):∀(G:Gs),(N.map fun n=>((holdG G n).map List.length).sum).sum≤totG G
 | []=>by
  have:(N.map fun n=>((holdG [] n).map List.length).sum)=N.map fun _=>0:=rfl
  rw [this]
  clear h this
  induction N with
  | nil=>simp
  | cons n N ih=>simp only [yaJ,yaI];omega
 | g::G=>by
  have e:totG (g::G)=manyP g.2+totG G:=by simp [totG]
  have h1:=holdG_sum h G
  have h2:=ofN_sum h g.2
  have h3:(N.map fun n=>((holdG (g::G) n).map List.length).sum)=N.map fun n=>(ofN g.2 n).length+((holdG G n).map List.length).sum:=by
   refine List.map_congr_left fun n _=>?_
   simp [holdG]
  rw [h3,sum_add]
  omega
theorem holdG_one (G:Gs) (n:ByteArray):((holdG G n).map List.length).sum≤totG G:=by
 have:=holdG_sum (N:=[n]) (by simp) G
 simpa using this
theorem holdG_at {G:Gs}{n:ByteArray}{l:List Pt}(h:l∈holdG G n):∃g∈G,l=ofN g.2 n:=by
 obtain ⟨g,hg,rfl⟩:=yap.1 h
 exact ⟨g,hg,rfl⟩
def OkG (G:Gs):Prop:=∀g∈G,PrtsOk g.2∧∀q∈g.2,VOk q.2
theorem zec {G:Gs}(h:OkG G) (n:ByteArray):∀l∈holdG G n,Rises l:=fun l hl=>by
 obtain ⟨g,hg,rfl⟩:=holdG_at hl
 exact (hasP_of (h g hg).1 (h g hg).2 n).rises
theorem holdG_point {G:Gs}(h:OkG G) {n:ByteArray}{l:List Pt}(hl:l∈holdG G n) {p:Pt}(hp:p∈l):(-1152921504606846976≤p.t∧p.t≤1152921504606846976∧0≤p.s∧p.s≤1152921504606846976)∧-9223372036854775808≤p.v∧p.v≤9223372036854775807:=by
 obtain ⟨g,hg,rfl⟩:=holdG_at hl
 rcases hasP_of (h g hg).1 (h g hg).2 n with ⟨_,e⟩|⟨_,_,_,_,hi⟩
 ·rw [e] at hp;simp at hp
 ·exact ⟨colV_mem hi.col hp,hi.v p hp⟩
theorem cut_all {l:List Pt}(h:∀p∈l,-1152921504606846976≤p.t∧p.t≤1152921504606846976):cutL (-1152921504606846976) 1152921504606846977 l=l:=by
 unfold cutL
 rw [List.filter_eq_self]
 intro p hp
 have:=h p hp
 simp;omega
theorem holdG_whole {G:Gs}(h:OkG G) (n:ByteArray):(holdG G n).map (cutL (-1152921504606846976) 1152921504606846977)=holdG G n:=by
 conv=>rhs;rw [←List.map_id (holdG G n)]
 refine List.map_congr_left fun l hl=>cut_all fun p hp=>?_
 have:=holdG_point h hl hp
 exact ⟨this.1.1,this.1.2.1⟩
theorem StI.okG {S:DiskS}{s:Sta}{G:Gs}{X c:Nat}(h:StI S s G X c):OkG G:=h.ok
theorem StI.onDisk {S:DiskS}{s:Sta}{G:Gs}{X c:Nat}(h:StI S s G X c) {k:Nat}{F:Fl}(hF:s.fl[k]?=some F):∃g,G[k]?=some g∧F=zdu (nameS 115 g.1) g.2∧g∈G∧OnDisk S F (zaw g.2):=by
 rw [h.fl] at hF
 unfold flsOf at hF
 rw [yar] at hF
 cases hg:G[k]? with
 | none=>rw [hg] at hF;cases hF
 | some g =>
  rw [hg] at hF
  have e:F=zdu (nameS 115 g.1) g.2:=(yaG hF).symm
  have hm:=yag hg
  subst e
  exact ⟨g,rfl,rfl,hm,⟨h.file g hm,(h.ok g hm).1.seg,rfl,rfl,rfl⟩⟩
theorem StI.flLen {S:DiskS}{s:Sta}{G:Gs}{X c:Nat}(h:StI S s G X c):s.fl.length=G.length:=by rw [h.fl];simp [flsOf]
theorem StI.holdP {S:DiskS}{s:Sta}{G:Gs}{X c:Nat}(h:StI S s G X c) (n:ByteArray):HoldP S s.fl n (holdG G n):=by
 refine ⟨by rw [h.flLen];simp [holdG],fun k F l hF hl=>?_⟩
 obtain ⟨g,hg,_,hm,ho⟩:=h.onDisk hF
 unfold holdG at hl
 rw [yar,hg] at hl
 have e:l=ofN g.2 n:=(yaG hl).symm
 subst e
 exact ⟨_,ho,hasP_of (h.ok g hm).1 (h.ok g hm).2 n⟩
def zcQ (G:Gs):List (List SegI):=G.map fun g=>zaw g.2
theorem StI.holdS {S:DiskS}{s:Sta}{G:Gs}{X c:Nat}(h:StI S s G X c):HoldS S s.fl (zcQ G):=by
 refine ⟨by rw [h.flLen];simp [zcQ],fun k F L hF hL=>?_⟩
 obtain ⟨g,hg,_,_,ho⟩:=h.onDisk hF
 unfold zcQ at hL
 rw [yar,hg] at hL
 have e:L=zaw g.2:=(yaG hL).symm
 subst e
 exact ho
theorem StI.holdFew {S:DiskS}{s:Sta}{G:Gs}{X c:Nat}(h:StI S s G X c) (n:ByteArray):(holdG G n).length+((holdG G n).map List.length).sum<4000:=by
 have h1:=holdG_one G n
 have h2:=h.tot
 have h3:=h.few
 have h4:(holdG G n).length=G.length:=by simp [holdG]
 omega
theorem compS_rises {l:List ByteArray}(h:l.Pairwise fun a b=>bl a≤bl b):(compS l).Pairwise fun a b=>bl a<bl b:=by
 unfold compS Lib.compact
 have hp:(compactUpTo (l.map bl).toArray (l.map bl).length).Pairwise (·< ·):=by
  refine upTo_rises (fun i j hij hj=>?_) (by simp)
  have hj':j<l.length:=by simpa using hj
  rw [getElem!_pos _ i (by simp;omega),getElem!_pos _ j hj]
  simpa using List.pairwise_iff_getElem.1 h i j (by omega) hj' hij
 rw [List.pairwise_map]
 refine hp.imp fun {a b} hab=>?_
 rw [bl_lb,bl_lb]
 exact hab
theorem allNames_mem {G:Gs}{n:ByteArray}:n∈zbf (zcQ G)↔∃g∈G,n∈g.2.map Prod.fst:=by
 unfold zbf
 rw [compS_mem,(zbw _).mem_iff,List.mem_flatMap]
 unfold zcQ
 constructor
 ·rintro ⟨L,hL,hn⟩
  obtain ⟨g,hg,rfl⟩:=yap.1 hL
  exact ⟨g,hg,by rw [namesI_of] at hn;exact hn⟩
 ·rintro ⟨g,hg,hn⟩
  exact ⟨_,yax hg,by rw [namesI_of];exact hn⟩
theorem allNames_rises (LS:List (List SegI)):(zbf LS).Pairwise fun a b=>bl a<bl b:=compS_rises (zcL _)
theorem allNames_nodup (LS:List (List SegI)):(zbf LS).Nodup:=compS_nodup (zcL _)
structure AllQ (G:Gs) (Q:List Prt):Prop where
 nm:Q.map Prod.fst=zbf (zcQ G)
 mg:∀q∈Q,IsMerge (((holdG G q.1).map (cutL (-1152921504606846976) 1152921504606846977)).filter neL) q.2
theorem AllQ.isM {G:Gs}{Q:List Prt}(h:AllQ G Q) (hG:OkG G) {q:Prt}(hq:q∈Q):IsMerge ((holdG G q.1).filter neL) q.2:=by
 have:=h.mg q hq
 rwa [holdG_whole hG] at this
theorem neRises {H:List (List Pt)}(h:∀l∈H,Rises l):∀l∈H.filter neL,Rises l:=fun l hl=>h l (yay.1 hl).1
theorem AllQ.eqv {G:Gs}{Q:List Prt}(h:AllQ G Q) (hG:OkG G) {q:Prt}(hq:q∈Q):EqvL (holdG G q.1) [q.2] :=
 (eqv_ne _).symm.trans (EqvL.merged (neRises (zec hG q.1)) (h.isM hG hq))
theorem AllQ.point {G:Gs}{Q:List Prt}(h:AllQ G Q) (hG:OkG G) {q:Prt}(hq:q∈Q) {p:Pt}(hp:p∈q.2):∃l∈holdG G q.1,p∈l:=by
 have:=(h.eqv hG hq p).2 (best_one.2 hp)
 exact this.mem
theorem AllQ.v {G:Gs}{Q:List Prt}(h:AllQ G Q) (hG:OkG G):∀q∈Q,VOk q.2:=fun q hq p hp=>by
 obtain ⟨l,hl,hpl⟩:=h.point hG hq hp
 exact (holdG_point hG hl hpl).2
theorem AllQ.len {G:Gs}{Q:List Prt}(h:AllQ G Q) {q:Prt}(hq:q∈Q):q.2.length≤((holdG G q.1).map List.length).sum:=merged_le (h.mg q hq)
theorem AllQ.many {G:Gs}{Q:List Prt}(h:AllQ G Q):manyP Q≤totG G:=by
 have h1:=holdG_sum (allNames_nodup (zcQ G)) G
 rw [←h.nm,List.map_map] at h1
 have h2:∀(L:List Prt),(∀q∈L,q.2.length≤((holdG G q.1).map List.length).sum)→manyP L≤(L.map ((fun n=>((holdG G n).map List.length).sum) ∘ Prod.fst)).sum:=by
  intro L
  induction L with
  | nil=>intro _;exact Nat.le_refl _
  | cons q L ih =>
   intro hL
   have a:=ih (fun x hx=>hL x (by simp [hx]))
   have b:=hL q (by simp)
   have e:manyP (q::L)=q.2.length+manyP L:=by simp [manyP]
   rw [e,yaJ,yaI]
   simp only [Function.comp_apply] at a ⊢
   omega
 have:=h2 Q (fun q hq=>h.len hq)
 omega
theorem AllQ.prts {G:Gs}{Q:List Prt}(h:AllQ G Q) (hG:OkG G) (h0:0<G.length) (ht:totG G≤600):PrtsOk Q:=by
 have hn:∀q∈Q,∃g∈G,q.1∈g.2.map Prod.fst:=fun q hq=>allNames_mem.1 (by rw [←h.nm];exact yax hq)
 refine ⟨fun q hq=>?_,fun q hq=>?_,by rw [h.nm];exact allNames_rises _,?_,by have:=h.many;omega⟩
 ·obtain ⟨g,hg,hm⟩:=hn q hq
  obtain ⟨r,hr,e⟩:=yap.1 hm
  rw [←e]
  exact (hG g hg).1.name r hr
 ·refine colV_of (h.isM hG hq).rises (fun p hp=>?_) ?_ (by have:=h.len hq;have:=holdG_one G q.1;omega)
  ·obtain ⟨l,hl,hpl⟩:=h.point hG hq hp
   exact (holdG_point hG hl hpl).1
  ·obtain ⟨g,hg,hm⟩:=hn q hq
   obtain ⟨i,r,h1,_,h3⟩:=ofN_at hm
   have hc:=zcr ((hG g hg).1.col r (yag h1))
   obtain ⟨p,hp⟩:∃p,p∈r.2:=List.exists_mem_of_length_pos hc.1
   obtain ⟨y,hy,_⟩:=Best.has (zec hG q.1) (q:=p) ⟨_,yax (f:=fun g:Nat×List Prt=>ofN g.2 q.1) hg,by show p∈ofN g.2 q.1;rw [h3];exact hp⟩
   exact List.length_pos_of_mem (best_one.1 ((h.eqv hG hq y).1 hy))
 ·obtain ⟨g,hg⟩:=List.exists_mem_of_length_pos h0
  obtain ⟨r,hr⟩:=List.exists_mem_of_length_pos (hG g hg).1.pos
  have:r.1∈Q.map Prod.fst:=by rw [h.nm];exact allNames_mem.2 ⟨g,hg,yax hr⟩
  have:=List.length_pos_of_mem this
  simpa using this
theorem AllQ.all {G:Gs}{Q:List Prt}(h:AllQ G Q) (hG:OkG G) (X:Nat) (n:ByteArray):EqvL (holdG [(X,Q)] n) (holdG G n):=by
 have e:holdG [(X,Q)] n=[ofN Q n]:=rfl
 rw [e]
 rcases Classical.em (n∈Q.map Prod.fst) with hn|hn
 ·obtain ⟨i,q,h1,h2,h3⟩:=ofN_at hn
  rw [h3,←h2]
  exact (h.eqv hG (yag h1)).symm
 ·rw [ofN_out hn]
  have he:∀l∈holdG G n,l=[]:=fun l hl=>by
   obtain ⟨g,hg,rfl⟩:=holdG_at hl
   refine ofN_out (fun hm=>hn ?_)
   rw [h.nm]
   exact allNames_mem.2 ⟨g,hg,hm⟩
  intro p
  constructor
  ·intro hp;obtain ⟨l,hl,hpl⟩:=hp.mem;rw [yal.1 hl] at hpl;simp at hpl
  ·intro hp;obtain ⟨l,hl,hpl⟩:=hp.mem;rw [he l hl] at hpl;simp at hpl
theorem modH_snoc (F:List PaM) (q:PaM) (n:ByteArray):modH (F++[q]) n=modH F n++[if q.nm=n then q.l else []]:=by simp [modH]
theorem holdG_snoc (G:Gs) (X:Nat) (Q:List Prt) (n:ByteArray):holdG (G++[(X,Q)]) n=holdG G n++[ofN Q n]:=by simp [holdG]
theorem modH_sum (F:List PaM) (n:ByteArray):((modH F n).map List.length).sum≤(F.map fun q=>q.l.length).sum:=by
 induction F with
 | nil=>simp [modH]
 | cons q F ih =>
  unfold modH at ih ⊢
  simp only [yaJ,yaI]
  split
  ·omega
  ·simp only [List.length_nil];omega
theorem modH_rises {F:List PaM}(h:∀q∈F,Rises q.l) (n:ByteArray):∀l∈modH F n,Rises l:=fun l hl=>by
 obtain ⟨q,hq,rfl⟩:=yap.1 hl
 split
 ·exact h q hq
 ·exact Rises.nil
structure ModI (G:Gs) (F:List PaM):Prop where
 eqv:∀n,EqvL (holdG G n) (modH F n)
 col:∀q∈F,colV q.l=true
 few:F.length≤25
 sum:(F.map fun q=>q.l.length).sum≤600
theorem ModI.rises {G:Gs}{F:List PaM}(h:ModI G F):∀q∈F,Rises q.l:=fun q hq=>zdH (h.col q hq)
theorem ModI.start:ModI [] []:=⟨fun _=>EqvL.refl _,by simp,by simp,by simp⟩
theorem ModI.add {G:Gs}{F:List PaM}(h:ModI G F) (hG:OkG G) (X:Nat) {q:PaM}(hc:colV q.l=true) (h1:F.length<25) (h2:(F.map fun q=>q.l.length).sum+q.l.length≤600):ModI (G++[(X,[(q.nm,q.l)])]) (F++[q]):=by
 refine ⟨fun n=>?_,fun r hr=>?_,by simp;omega,by simp;omega⟩
 ·rw [holdG_snoc,modH_snoc]
  have e:ofN [(q.nm,q.l)] n=if q.nm=n then q.l else []:=by rw [ofN,ofN]
  rw [e]
  refine (h.eqv n).append (zec hG n) (modH_rises h.rises n) (fun l hl=>?_)
  rw [yal.1 hl]
  split
  ·exact zdH hc
  ·exact Rises.nil
 ·rcases yah.1 hr with hr|hr
  ·exact h.col r hr
  ·rw [yal.1 hr];exact hc
theorem ModI.compact {G:Gs}{F:List PaM}(h:ModI G F) (hG:OkG G) {Q:List Prt}(hQ:AllQ G Q) (X:Nat):ModI [(X,Q)] F :=
 ⟨fun n=>(hQ.all hG X n).trans (h.eqv n),h.col,h.few,h.sum⟩
def blksV (v:StoV):List Nat:=(if v.fn=0 then [] else (v.fa.map (·.block)).toList)++(if v.tn=0 then [] else (v.ta.map (·.block)).toList)
theorem mem_blksV {v:StoV}{g:Nat}:g∈blksV v↔(v.fn≠0∧v.fa.map (·.block)=some g)∨(v.tn≠0∧v.ta.map (·.block)=some g):=by
 unfold blksV
 rw [yah]
 by_cases h1:v.fn=0<;>by_cases h2:v.tn=0<;>simp [h1,h2,Option.mem_toList]
theorem StoV.New.blks {v:StoV}{w:World}(h:v.New w):∀g∈blksV v,w.heap.size≤g:=fun g hg=>(mem_blksV.1 hg).elim (fun e=>h.1 g e.2) (fun e=>h.2 g e.2)
theorem StoAt.blks {w:World}{p d:Nat}{s:Sta}{S:DiskS}{B:List Nat}{v:StoV}(h:StoAt w p d s S B v):∀g∈blksV v,g<w.heap.size:=fun g hg=>(mem_blksV.1 hg).elim (fun e=>(h.off.f e.1 g e.2).2) (fun e=>(h.off.t e.1 g e.2).2)
structure StoI (w0:World) (p d:Nat) (r:Int) (G:Gs) (X c:Nat) (B:List Nat) (w:World):Prop where
 at':∃s S B0 v,StoAt w p d s S B0 v∧StI S s G X c∧s.r=r∧(∀b∈B0,b∈B)∧∀g∈blksV v,g∈B
 own:∀b∈B,w0.heap.size≤b
 lt:∀b∈B,b<w.heap.size
 pn:w0.heap.size≤p
 ext:Ext w0 w
 et:HasET w0
def StepTo (w0:World) (p d:Nat) (r:Int) (G:Gs) (X c:Nat) (B:List Nat) (w w':World):Prop :=
 ∃B',StoI w0 p d r G X c B' w'∧Chg (fun b=>b=p∨b∈B) w w'∧∀b∈B',b∈B∨w.heap.size≤b
theorem StoAt.lens {w:World}{p d:Nat}{s:Sta}{S:DiskS}{B:List Nat}{v:StoV}(h:StoAt w p d s S B v):s.fl.length=v.fn∧s.ti.length=v.tn:=⟨zbA h.st.fl,zbm h.st.ti⟩
theorem one_ok {nm:ByteArray}{l:List Pt}(hn:zbg (bl nm)=true) (hc:colV l=true) (hl:l.length≤600):PrtsOk [(nm,l)] :=
 ⟨fun q hq=>by rw [yal.1 hq];exact hn,fun q hq=>by rw [yal.1 hq];exact hc,by simp,by simp,by simp [manyP];omega⟩
theorem fresh5 {s:Sta}{S:DiskS}{G:Gs}{X c:Nat}(h:StI S s G X c):Fresh s.km km5:=by
 rw [h.km];exact ⟨rfl,rfl,by decide,km5_ok⟩
theorem names_few {G:Gs}(hok:OkG G) (htot:totG G≤600):(zbf (zcQ G)).length≤1000000:=by
 have h4:(zbf (zcQ G)).length≤((zcQ G).flatMap zay).length:=by
  unfold zbf
  exact Nat.le_trans (compS_len _) (by rw [zcM];exact Nat.le_refl _)
 have h5:∀(K:Gs),OkG K→((zcQ K).flatMap zay).length≤totG K:=by
  intro K
  induction K with
  | nil=>intro _;simp [zcQ]
  | cons g K ih =>
   intro hk
   have a1:=ih (fun x hx=>hk x (by simp [hx]))
   have a2:=(body_of (P:=g.2) (hk g (by simp)).1.col).2
   have e:totG (g::K)=manyP g.2+totG K:=by simp [totG]
   have e':((zcQ (g::K)).flatMap zay).length=g.2.length+((zcQ K).flatMap zay).length:=by
    simp [zcQ,zay,zaw]
   omega
 have:=h5 G hok
 omega
theorem fits_own {S:DiskS}{s:Sta}{G:Gs}{X c:Nat}(h:StI S s G X c) (t:Sta) (ht:t=ownSt∨t=(loadS S).1):t.fl.length≤1000000∧t.ti.length≤1000000:=by
 rcases ht with rfl|rfl
 ·exact ⟨by decide,by decide⟩
 ·rcases h.man with ⟨f,hf,_⟩|⟨hn,_⟩
  ·rw [h.load (by rw [hf];rfl)]
   have:=h.few
   exact ⟨by rw [h.flLen];omega,by rw [h.ti];simp⟩
  ·have e:(loadS S).1=staZ:=by unfold loadS;rw [hn]
   rw [e];exact ⟨by decide,by decide⟩
theorem open_good {w1:World}{d:Nat}{S:DiskS}{s:Sta}{G:Gs}{X c:Nat}{B:List Nat}(hd:zbj w1 d S B) (h:StI S s G X c) (hc:c≤500000) (hg:HasET w1) :
 Calls Tryz.prog 10 #[.pointer (some ⟨d,0,none⟩),.int .i64 5,.slice none 0 0] w1 fun e w'=>∃p,e=.returned (.tuple #[.pointer (some ⟨p,0,none⟩),.int .i64 0])∧StoMade w1 d s S B p w':=by
 refine (stoOpen_any (c:=c) h.inv (by omega) hd 5 (by decide) none 0 0 ownSt (alikeB ownSt) hg (fun W hW=>stoFresh_none W 5 (by decide)) (fun W t v v0 hW hs ho hl=>stoAlike_any W t ownSt v v0 hs ho hl (by decide)) (fits_own h)).mono ?_
 intro e w' ho
 unfold OpenSto at ho
 rw [h.open] at ho
 simp only [not_true,ne_eq,if_false] at ho
 rw [h.tidy] at ho
 exact ho
theorem field_files (x1 x2 x3:Int) (x4:Bool) (x5 x6:Int) (fa:Option Addr) (fn fc:Nat) (ta:Option Addr) (tn tc:Nat) (w:World):(Instr.field 66 (.agg #[.int .i64 x1,.int .i64 x2,.int .i64 x3,.bool x4,.int .i64 x5,.int .i64 x6,.slice fa fn fc,.slice ta tn tc]) 4).run Tryz.prog w=.ok (.slice fa fn fc) w:=by kernel_rfl
theorem same_of {G:Gs}{F:List PaM}(hG:OkG G) (hM:ModI G F) (f t:Int) (i:Nat):SameI F f t i (holdG G (nmL i)):=fun o1 o2 h1 h2 =>
 (hM.eqv (nmL i)).told (zec hG _) (modH_rises hM.rises _) f t h1 h2
structure MoOff (mb:Nat) (a:Option Addr) (p:Nat) (B:List Nat):Prop where
 box:mb≠p∧mb∉B
 row:∀g,a.map (·.block)=some g→g≠p∧g∉B
theorem MoAt.chg {w w':World}{mb p:Nat}{F:List PaM}{a:Option Addr}{n c:Nat}{B:List Nat}(h:MoAt w mb F a n c) (ho:MoOff mb a p B) (hc:Chg (fun b=>b=p∨b∈B) w w') (hP:∀q∈F,q.n≠0→∀g,q.a.map (·.block)=some g→g≠p∧g∉B):MoAt w' mb F a n c:=by
 refine ⟨(hc.block mb (zab h.box) (fun e=>e.elim ho.box.1 ho.box.2)).trans h.box,h.row.chg hc (fun g hg e=>?_),fun q hq=>⟨⟨zbJ (h.ok q hq).1.src hc (fun hn g hg e=>?_),(h.ok q hq).1.cap⟩,(h.ok q hq).2⟩,h.ne⟩
 ·rw [zar] at hg
  have:=ho.row g hg
  exact e.elim this.1 this.2
 ·have:=hP q hq hn g hg
  exact e.elim this.1 this.2
theorem MoOff.to {mb:Nat}{a:Option Addr}{p:Nat}{B B':List Nat}{w:World}(h:MoOff mb a p B) (hn:∀b∈B',b∈B∨w.heap.size≤b) (hmb:mb<w.heap.size) (ha:∀g,a.map (·.block)=some g→g<w.heap.size):MoOff mb a p B':=by
 refine ⟨⟨h.box.1,fun e=>?_⟩,fun g hg=>⟨(h.row g hg).1,fun e=>?_⟩⟩
 ·rcases hn _ e with e|e
  ·exact h.box.2 e
  ·omega
 ·rcases hn _ e with e|e
  ·exact (h.row g hg).2 e
  ·have:=ha g hg;omega
theorem elem_mfl:ElemOk Tryz.prog 33 48 2 40 :=
 ⟨Tryz.underlying33,by
   obtain ⟨i0,hi,hz0,hz1,hz2⟩:=info_parts (show (Tryz.prog.info? 48).map (fun i=>(i.zero,i.size,i.bytes))=some (some (.agg #[.string ⟨#[]⟩,.slice none 0 0]),2,40) from by kernel_rfl)
   exact ⟨i0,_,hi,hz0,hz1,hz2,rfl⟩,by decide⟩
theorem mfl_slice_info:(Tryz.prog.info? 33).map (·.size)=some 1:=by kernel_rfl
def ownB (a:Option Addr) (b:Nat):Bool:=decide (a.map (·.block)=some b)
theorem src_pam {W:World}{b:Nat}{q:PaM}{t:TypeId}{fr:Nat×Nat}(h:W.heap[b]?=some (.cells #[.string q.nm,.slice q.a q.n q.c] t fr)):Src W 2 (.slice (some ⟨b,0,none⟩) 1 1) 1 (pams [q]):=by
 refine .inr ⟨_,_,rfl,rfl,fun j u hj=>?_,zdY _⟩
 rw [yak,Nat.zero_add,zaa h]
 simpa [pams,PaM.cells] using hj
theorem nmL_valid (c:Nat):zbg (bl (nmL c))=true:=by
 unfold nmL
 split
 ·decide
 ·split<;>decide
def AcM.part (p:AcM):PaM:=⟨nmL p.nm,p.pa,p.pn,p.pc,p.l⟩
theorem AcM.Ok.part {w:World}{p:AcM}(h:p.Ok w):p.part.Ok w:=⟨h.src,h.cap⟩
theorem pts_len3 (l:List Pt):(pts l).length=l.length*3:=by
 induction l with
 | nil=>rfl
 | cons p l ih=>simp [pts,Pt.cells] at ih ⊢;omega
theorem AcM.Ok.pn {w:World}{p:AcM}(h:p.Ok w):p.l.length=p.pn:=by
 rcases h.src with ⟨_,e1,e2⟩|⟨_,_,_,e2,_⟩
 ·have h1:=pts_len3 p.l;rw [e2] at h1;simp at h1;omega
 ·rw [pts_len3] at e2;omega
theorem AcM.Ok.blk {w:World}{p:AcM}(h:p.Ok w) (hn:p.pn≠0):∀g,p.pa.map (·.block)=some g→g<w.heap.size:=fun g hg=>by
 rcases h.src with ⟨_,e1,_⟩|⟨ad,_,e1,e2,e3,_⟩
 ·exact absurd e1 hn
 ·simp at e1
  rw [e1.1] at hg
  have hg':ad.block=g:=by simpa using hg
  have h0:0<(pts p.l).length:=by omega
  have:=e3 0 _ (yac h0)
  have h2:=yaf _ _ this
  rw [←hg'];exact h2
def fullF (b:List UInt8):FileS:=⟨b,b.length,true⟩
theorem keepF_all (keep:List Int) (k:Nat) (b:List UInt8):keepF keep k (fullF b)=some (fullF b):=keepF_full keep k b
theorem doing_cut {S:DiskS}{ns:List ByteArray}{r:Int×DiskS}(hn:ns.all nameB=true) (hl:S.left=0):S.doing ns r=(17,S):=by
 unfold DiskS.doing zcp
 rw [if_neg (by simp [hn]),if_pos hl]
theorem append_cut {S:DiskS}{n:ByteArray}{b:List UInt8}(hn:nameB n=true) (hl:S.left=0):S.append n b=(17,S):=doing_cut (by simp [hn]) hl
theorem sync_cut {S:DiskS}{n:ByteArray}{f:FileS}(hn:nameB n=true) (hl:S.left=0) (hg:aget S.files n=some f):S.sync n=(17,S):=by
 unfold DiskS.sync DiskS.onFile
 rw [hg]
 exact doing_cut (by simp [hn]) hl
theorem rename_cut {S:DiskS}{a n:ByteArray}{f:FileS}(ha:nameB a=true) (hn:nameB n=true) (hl:S.left=0) (hg:aget S.files a=some f):S.rename a n=(17,S):=by
 unfold DiskS.rename DiskS.onFile
 rw [hg]
 exact doing_cut (by simp [ha,hn]) hl
theorem delete_cut {S:DiskS}{n:ByteArray}{f:FileS}(hn:nameB n=true) (hl:S.left=0) (hg:aget S.files n=some f):S.delete n=(17,S):=by
 unfold DiskS.delete DiskS.onFile
 rw [hg]
 exact doing_cut (by simp [hn]) hl
structure CutOk (S S':DiskS) (T:ByteArray→Prop):Prop where
 get:∀k,¬T k→aget S'.files k=aget S.files k
 room:S'.room=S.room
theorem CutOk.refl (S:DiskS) (T:ByteArray→Prop):CutOk S S T:=⟨fun _ _=>rfl,rfl⟩
theorem CutOk.trans {A B C:DiskS}{T:ByteArray→Prop}(h:CutOk A B T) (k:CutOk B C T):CutOk A C T:=⟨fun x hx=>(k.get x hx).trans (h.get x hx),k.room.trans h.room⟩
theorem CutOk.mono {A B:DiskS}{T U:ByteArray→Prop}(h:CutOk A B T) (hT:∀k,T k→U k):CutOk A B U:=⟨fun k hk=>h.get k (fun e=>hk (hT k e)),h.room⟩
theorem OpOk.cut {S S':DiskS}{n:ByteArray}{o:Option FileS}{a b:Nat}(h:OpOk S S' (updG (getS S) n o) a b):CutOk S S' (·=n) :=
 ⟨fun k hk=>by rw [h.get];unfold updG;rw [if_neg hk],h.room⟩
theorem write_cut {S:DiskS}{n:ByteArray}{b:List UInt8}(hn:nameB n=true) (hg:aget S.files n=none) (hroom:S.used+b.length≤S.room) (hfew:S.files.length<512) (hb:b.length≤1048576) :
 ((zaC S n b).1=17∧CutOk S (zaC S n b).2 (·=n)) ∨
 ((zaC S n b).1=0∧(∀k,aget (zaC S n b).2.files k=if k=n then some (fullF b) else aget S.files k)∧(zaC S n b).2.room=S.room∧(zaC S n b).2.used≤S.used+b.length∧(zaC S n b).2.files.length≤S.files.length+1):=by
 have hw:zaC S n b=thenS (thenS (0,S) (fun S=>S.append n b)) (fun S=>S.sync n):=by unfold zaC;rw [hg];rfl
 rw [hw]
 unfold thenS
 simp only [if_true]
 by_cases h0:S.left=0
 ·rw [append_cut hn h0]
  exact .inl ⟨rfl,CutOk.refl _ _⟩
 ·obtain ⟨S1,e1,o1⟩:=append_new hn h0 hg hroom hfew hb
  have g1:aget S1.files n=some ⟨b,0,false⟩:=by rw [o1.get];unfold updG;rw [if_pos rfl]
  rw [e1]
  simp only [if_true]
  by_cases h1:S1.left=0
  ·rw [sync_cut hn h1 g1]
   exact .inl ⟨rfl,o1.cut⟩
  ·obtain ⟨S2,e2,o2⟩:=sync_ok hn h1 g1
   rw [e2]
   refine .inr ⟨rfl,fun k=>?_,by rw [o2.room,o1.room],by have:=o1.used;have:=o2.used;simp only;omega,by have:=o1.len;have:=o2.len;simp only;omega⟩
   simp only
   rw [o2.get]
   unfold updG
   by_cases e:k=n
   ·rw [if_pos e,if_pos e];rfl
   ·rw [if_neg e,if_neg e]
    show aget S1.files k=_
    rw [o1.get]
    unfold updG
    rw [if_neg e]
theorem save_cutS {S:DiskS}{c:Nat}{s:Sta}(inv:DInv S c) (hg:aget S.files fN=none) (hr:staR s=true) (hm:s.km.ok) (hroom:S.used+60100≤S.room) (hfew:S.files.length<512) :
 ((saveS S s).1=17∧CutOk S (saveS S s).2 (·=fN)) ∨
 ((saveS S s).1=0∧(∀k,aget (saveS S s).2.files k=if k=fM then some (fullF (sealL 7 (staP s))) else aget S.files k)∧(saveS S s).2.room=S.room):=by
 have hsl:(sealL 7 (staP s)).length≤60100:=by
  have:=zdV hr hm
  rw [zbh];omega
 have hw:saveS S s=thenS (thenS (thenS (0,S) (fun S=>S.append fN (sealL 7 (staP s)))) (fun S=>S.sync fN)) (fun S=>S.rename fN fM):=by
  unfold saveS saveA
  rw [if_pos hr,hg]
  rfl
 rw [hw]
 unfold thenS
 simp only [if_true]
 by_cases h0:S.left=0
 ·rw [append_cut nm_fN h0]
  exact .inl ⟨rfl,CutOk.refl _ _⟩
 ·obtain ⟨S1,e1,o1⟩:=append_new (b:=sealL 7 (staP s)) nm_fN h0 hg (by omega) hfew (by omega)
  have i1:DInv S1 (c+1):=by have h:=inv.append fN (sealL 7 (staP s));rw [e1] at h;exact h
  have g1:aget S1.files fN=some ⟨sealL 7 (staP s),0,false⟩:=by rw [o1.get];unfold updG;rw [if_pos rfl]
  rw [e1]
  simp only [if_true]
  by_cases h1:S1.left=0
  ·rw [sync_cut nm_fN h1 g1]
   exact .inl ⟨rfl,o1.cut⟩
  ·obtain ⟨S2,e2,o2⟩:=sync_ok nm_fN h1 g1
   have i2:DInv S2 (c+2):=by have h:=i1.sync fN;rw [e2] at h;exact h
   have g2:aget S2.files fN=some ⟨sealL 7 (staP s),(sealL 7 (staP s)).length,true⟩:=by rw [o2.get];unfold updG;rw [if_pos rfl]
   rw [e2]
   simp only [if_true]
   by_cases h2:S2.left=0
   ·rw [rename_cut nm_fN nm_fM h2 g2]
    exact .inl ⟨rfl,o1.cut.trans o2.cut⟩
   ·obtain ⟨S3,e3,o3⟩:=rename_ok i2.ok.names nm_fN nm_fM fN_ne h2 g2
    rw [e3]
    refine .inr ⟨rfl,fun k=>?_,by simp only;rw [o3.room,o2.room,o1.room]⟩
    simp only
    rw [o3.get]
    unfold updG
    by_cases e:k=fM
    ·rw [if_pos e,if_pos e];rfl
    ·rw [if_neg e,if_neg e]
     by_cases e':k=fN
     ·rw [if_pos e',e'];exact hg.symm
     ·rw [if_neg e']
      show aget S2.files k=_
      rw [o2.get]
      unfold updG
      rw [if_neg e']
      show aget S1.files k=_
      rw [o1.get]
      unfold updG
      rw [if_neg e']
theorem tidy_cut {N:List ByteArray}:∀{L:List ByteArray}{S:DiskS}{c:Nat},DInv S c→L.Nodup→(∀f∈L,(aget S.files f).isSome=true∧nameB f=true) →
 ((zbv N L S).1=17∨((zbv N L S).1=0∧∀k,k∈L→k∉N→aget (zbv N L S).2.files k=none))∧CutOk S (zbv N L S).2 (fun k=>k∈L∧k∉N)∧∀k,aget S.files k=none→aget (zbv N L S).2.files k=none
 | [],S,c,inv,_,_=>⟨.inr ⟨rfl,by simp⟩,CutOk.refl _ _,fun k hk=>hk⟩
 | f::L,S,c,inv,hn,hL=>by
  obtain ⟨hf,hn⟩:=yaU.1 hn
  by_cases hN:f∈N
  ·rw [zbv,if_pos hN]
   obtain ⟨h1,h2,h3⟩:=tidy_cut (N:=N) (L:=L) inv hn (fun g hg=>hL g (by simp [hg]))
   refine ⟨h1.imp id (fun ⟨a,b⟩=>⟨a,fun k hk hkN=>?_⟩),h2.mono (fun k hk=>⟨by simp [hk.1],hk.2⟩),h3⟩
   rcases yaq.1 hk with e|e
   ·exact absurd (e▸hN) hkN
   ·exact b k e hkN
  ·obtain ⟨x,hx⟩:=Option.isSome_iff_exists.1 (hL f (by simp)).1
   rw [zbv,if_neg hN]
   unfold thenS
   by_cases h0:S.left=0
   ·rw [delete_cut (hL f (by simp)).2 h0 hx]
    exact ⟨.inl rfl,CutOk.refl _ _,fun k hk=>hk⟩
   ·obtain ⟨S1,e1,o1⟩:=delete_ok inv.ok.names (hL f (by simp)).2 h0 hx
    have i1:DInv S1 (c+1):=by have h:=inv.delete f;rw [e1] at h;exact h
    have g1:∀g,g≠f→aget S1.files g=aget S.files g:=fun g hg=>by rw [o1.get];unfold updG;rw [if_neg hg]
    have gf:aget S1.files f=none:=by rw [o1.get];unfold updG;rw [if_pos rfl]
    obtain ⟨h1,h2,h3⟩:=tidy_cut (N:=N) (L:=L) i1 hn (fun g hg=>by
     rw [g1 g (fun e=>hf (e▸hg))]
     exact hL g (by simp [hg]))
    rw [e1]
    simp only [if_true]
    have gone:∀k,aget S.files k=none→aget (zbv N L S1).2.files k=none:=fun k hk=>by
     by_cases e:k=f
     ·subst e;exact h3 k gf
     ·exact h3 k (by rw [g1 k e];exact hk)
    have same:∀k,¬(k∈f::L∧k∉N)→aget (zbv N L S1).2.files k=aget S.files k:=fun k hk=>by
     have hkf:k≠f:=fun e=>hk ⟨by simp [e],by rw [e];exact hN⟩
     rw [h2.get k (fun e=>hk ⟨by simp [e.1],e.2⟩),g1 k hkf]
    refine ⟨?_,⟨same,by rw [h2.room,o1.room]⟩,gone⟩
    rcases h1 with e|⟨e,b⟩
    ·exact .inl e
    ·refine .inr ⟨e,fun k hk hkN=>?_⟩
     rcases yaq.1 hk with e|e
     ·subst e;exact h3 k gf
     ·exact b k e hkN
structure StK (S:DiskS) (s:Sta) (G:Gs) (X c:Nat):Prop where
 I:StI { S with left:=-1 } s G X c
 inv:DInv S c
 file:∀g∈G,aget S.files (nameS 115 g.1)=some (fullF (segB g.2))
 man:aget S.files fM=some (fullF (sealL 7 (staP s)))∨(aget S.files fM=none∧s=ownSt)
structure CrK (S:DiskS) (s:Sta) (G:Gs) (c:Nat):Prop where
 st:∃S0 X c0,StI S0 s G X c0
 inv:DInv S c
 room:S.room=16777216
 file:∀g∈G,aget S.files (nameS 115 g.1)=some (fullF (segB g.2))
 man:aget S.files fM=some (fullF (sealL 7 (staP s)))∨(aget S.files fM=none∧s=ownSt)
 keys:∀n,(aget S.files n).isSome=true→n=fM∨n=fN∨∃k,n=nameS 115 k
theorem StK.crk {S:DiskS}{s:Sta}{G:Gs}{X c:Nat}(h:StK S s G X c):CrK S s G c :=
 ⟨⟨_,X,c,h.I⟩,h.inv,h.I.room,h.file,h.man,fun n hn=>(h.I.keys n hn).imp id (fun ⟨g,_,e⟩=>.inr ⟨_,e⟩)⟩
theorem StK.start:StK (zbP 16777216) ownSt [] 0 0:=⟨start_I,start_I.inv,by simp,.inr ⟨rfl,rfl⟩⟩
theorem StK.cutTo {S:DiskS}{s:Sta}{G:Gs}{X c:Nat}(h:StK S s G X c) {n:Int}(h0:-1≤n) (hn:n≤9223372036854775807):StK { S with left:=n } s G X c :=
 ⟨h.I,⟨{ h.inv.ok with left0:=h0,left1:=hn },h.inv.ops,h.inv.nm,h.inv.sum⟩,h.file,h.man⟩
theorem StK.turn {S S':DiskS}{s:Sta}{G:Gs}{X c c':Nat}(h:StK S s G X c) {T:ByteArray→Prop}(hc:CutOk S S' T) (inv:DInv S' c') (hT:∀k,T k→k=fN∨∃n,n<1000000∧X≤n∧k=nameS 115 n):CrK S' s G c':=by
 have hm:¬T fM:=fun e=>by
  rcases hT _ e with e|⟨n,_,_,e⟩
  ·exact fN_ne e.symm
  ·exact zdt n e.symm
 have hf:∀g∈G,¬T (nameS 115 g.1):=fun g hg e=>by
  rcases hT _ e with e|⟨n,h1,h2,e⟩
  ·exact nameS_fN _ e
  ·have h3:=h.I.num.2.1 g hg
   have:=nameS_inj (by omega) (by omega) e
   omega
 refine ⟨⟨_,X,c,h.I⟩,inv,by rw [hc.room];exact h.I.room,fun g hg=>by rw [hc.get _ (hf g hg)];exact h.file g hg,by rw [hc.get _ hm];exact h.man,fun n hn=>?_⟩
 rcases Classical.em (T n) with e|e
 ·rcases hT n e with e|⟨k,_,_,e⟩
  ·exact .inr (.inl e)
  ·exact .inr (.inr ⟨k,e⟩)
 ·rw [hc.get n e] at hn
  exact (h.I.keys n hn).imp id (fun ⟨g,_,e⟩=>.inr ⟨_,e⟩)
theorem StK.put {S:DiskS}{s:Sta}{G:Gs}{X c:Nat}(h:StK S s G X c) {Q:List Prt}(hQ:PrtsOk Q) (hX:X<1000) {s':Sta}(hr:staR s'=true) (hm:s'.km.ok) :
 ((zaC S (nameS 115 X) (segB Q)).1=17∧CrK (zaC S (nameS 115 X) (segB Q)).2 s G (c+3)) ∨
 ((zaC S (nameS 115 X) (segB Q)).1=0∧(((saveS (zaC S (nameS 115 X) (segB Q)).2 s').1=17∧CrK (saveS (zaC S (nameS 115 X) (segB Q)).2 s').2 s G (c+7)) ∨
   ((saveS (zaC S (nameS 115 X) (segB Q)).2 s').1=0∧DInv (saveS (zaC S (nameS 115 X) (segB Q)).2 s').2 (c+7)∧(saveS (zaC S (nameS 115 X) (segB Q)).2 s').2.room=16777216 ∧
     ∀k,aget (saveS (zaC S (nameS 115 X) (segB Q)).2 s').2.files k=if k=fM then some (fullF (sealL 7 (staP s'))) else if k=nameS 115 X then some (fullF (segB Q)) else aget S.files k))):=by
 have hu:S.used≤5177000:=h.I.used
 have hl:S.files.length≤31:=h.I.len
 have hb:=segB_len hQ
 have hrm:S.room=16777216:=h.I.room
 have hno:aget S.files (nameS 115 X)=none:=h.I.noX (Nat.le_refl _) (by omega)
 have i1:DInv (zaC S (nameS 115 X) (segB Q)).2 (c+3):=h.inv.write _ _
 rcases write_cut (nameS_ok 115 X) hno (b:=segB Q) (by omega) (by omega) (by omega) with ⟨e1,o1⟩|⟨e1,g1,r1,u1,l1⟩
 ·exact .inl ⟨e1,h.turn o1 i1 (fun k hk=>.inr ⟨X,by omega,Nat.le_refl _,hk⟩)⟩
 ·refine .inr ⟨e1,?_⟩
  obtain ⟨S1,hS1⟩:∃S1,S1=(zaC S (nameS 115 X) (segB Q)).2:=⟨_,rfl⟩
  rw [←hS1] at g1 r1 u1 l1 i1 ⊢
  have n1:aget S1.files fN=none:=by
   rw [g1,if_neg (fun e=>nameS_fN X e.symm)]
   exact h.I.noN
  have i2:DInv (saveS S1 s').2 (c+7):=i1.save s'
  rcases save_cutS i1 n1 hr hm (by omega) (by omega) with ⟨e2,o2⟩|⟨e2,g2,r2⟩
  ·refine .inl ⟨e2,h.turn (T:=fun k=>k=fN∨k=nameS 115 X) ?_ i2 (fun k hk=>hk.imp id (fun e=>⟨X,by omega,Nat.le_refl _,e⟩))⟩
   refine ⟨fun k hk=>?_,by rw [o2.room,r1]⟩
   rw [o2.get k (fun e=>hk (.inl e)),g1,if_neg (fun e=>hk (.inr e))]
  ·refine .inr ⟨e2,i2,by rw [r2,r1];exact hrm,fun k=>?_⟩
   rw [g2,g1]
theorem DInv.free {S:DiskS}{c:Nat}(h:DInv S c):DInv { S with left:=-1 } c :=
 ⟨{ h.ok with left0:=Int.le_refl _,left1:=by show (-1:Int)≤_;decide },h.ops,h.nm,h.sum⟩
theorem StK.flush {S:DiskS}{s:Sta}{G:Gs}{X c:Nat}(h:StK S s G X c) {Q:List Prt}(hQ:PrtsOk Q) (hv:∀q∈Q,VOk q.2) {i:Int}(hi:s.r≤i∧i≤1000) (hG:G.length<30) (hX:X<1000) (ht:totG G+manyP Q≤600) :
 ((zaC S (nameS 115 X) (segB Q)).1=17∧CrK (zaC S (nameS 115 X) (segB Q)).2 s G (c+3)) ∨
 ((zaC S (nameS 115 X) (segB Q)).1=0∧(((saveS (zaC S (nameS 115 X) (segB Q)).2 (zcn s X i i km5 Q)).1=17∧CrK (saveS (zaC S (nameS 115 X) (segB Q)).2 (zcn s X i i km5 Q)).2 s G (c+7)) ∨
   ((saveS (zaC S (nameS 115 X) (segB Q)).2 (zcn s X i i km5 Q)).1=0∧StK (saveS (zaC S (nameS 115 X) (segB Q)).2 (zcn s X i i km5 Q)).2 (zcn s X i i km5 Q) (G++[(X,Q)]) (X+1) (c+7)))):=by
 have h0:=h.I.rq
 have hok:∀g∈G++[(X,Q)],PrtsOk g.2∧∀q∈g.2,VOk q.2:=fun g hg=>by
  rcases yah.1 hg with e|e
  ·exact h.I.ok g e
  ·obtain rfl:=yal.1 e
   exact ⟨hQ,hv⟩
 have hr:staR (zcn s X i i km5 Q)=true:=by
  rw [h.I.flush_eq]
  exact staR_of (fun g hg=>(hok g hg).1) (by simp;omega) (by omega) (by omega) (by omega)
 refine (h.put hQ hX hr (by rw [h.I.flush_eq];exact km5_ok)).imp id (fun ⟨e1,hh⟩=>⟨e1,hh.imp id (fun ⟨e2,i2,r2,g2⟩=>⟨e2,?_⟩)⟩)
 obtain ⟨S2,hS2⟩:∃S2,S2=(saveS (zaC S (nameS 115 X) (segB Q)).2 (zcn s X i i km5 Q)).2:=⟨_,rfl⟩
 rw [←hS2] at i2 r2 g2 ⊢
 have hne:∀g∈G,nameS 115 g.1≠nameS 115 X:=fun g hg e=>by
  have h1:=h.I.num.2.1 g hg
  have h2:=h.I.num.2.2
  have:=nameS_inj (by omega) (by omega) e
  omega
 have hfile:∀g∈G++[(X,Q)],aget S2.files (nameS 115 g.1)=some (fullF (segB g.2)):=fun g hg=>by
  rcases yah.1 hg with e|e
  ·rw [g2,if_neg (zdt _),if_neg (hne g e)]
   exact h.file g e
  ·obtain rfl:=yal.1 e
   rw [g2,if_neg (zdt _),if_pos rfl]
 refine ⟨?_,i2,hfile,.inl (by rw [g2,if_pos rfl])⟩
 refine { st:=h.I.flush_eq i Q,rq:=⟨by show 0≤i;omega,hi.2,rfl⟩,num:=⟨?_,fun g hg=>?_,by omega⟩,ok:=hok,inv:=i2.free,left:=by show (-1:Int)<0;decide,room:=r2,file:=fun g hg=>⟨_,hfile g hg,rfl⟩,man:=.inl ⟨_,by show aget S2.files fM=_;rw [g2,if_pos rfl],rfl⟩,keys:=fun k hk=>?_,few:=by simp;omega,tot:=by rw [totG_snoc];exact ht }
 ·rw [yav,List.nodup_append]
  refine ⟨h.I.num.1,by simp,fun a ha b hb e=>?_⟩
  obtain ⟨g,hg,rfl⟩:=yap.1 ha
  have:b=X:=by simpa using hb
  have:=h.I.num.2.1 g hg
  omega
 ·rcases yah.1 hg with e|e
  ·have:=h.I.num.2.1 g e;omega
  ·obtain rfl:=yal.1 e
   exact Nat.lt_succ_self X
 ·have hk:(aget S2.files k).isSome=true:=hk
  rw [g2] at hk
  by_cases e:k=fM
  ·exact .inl e
  ·rw [if_neg e] at hk
   by_cases e':k=nameS 115 X
   ·exact .inr ⟨(X,Q),by simp,e'⟩
   ·rw [if_neg e'] at hk
    rcases h.I.keys k hk with h1|⟨g,hg,h1⟩
    ·exact .inl h1
    ·exact .inr ⟨g,by simp [hg],h1⟩
theorem StK.compact {S:DiskS}{s:Sta}{G:Gs}{X c:Nat}(h:StK S s G X c) {Q:List Prt}(hQ:PrtsOk Q) (hv:∀q∈Q,VOk q.2) (hX:X<1000) (ht:manyP Q≤600) :
 ((zaC S (nameS 115 X) (segB Q)).1=17∧CrK (zaC S (nameS 115 X) (segB Q)).2 s G (c+3)) ∨
 ((zaC S (nameS 115 X) (segB Q)).1=0∧(((saveS (zaC S (nameS 115 X) (segB Q)).2 (zaR s X Q)).1=17∧CrK (saveS (zaC S (nameS 115 X) (segB Q)).2 (zaR s X Q)).2 s G (c+7)) ∨
   ((saveS (zaC S (nameS 115 X) (segB Q)).2 (zaR s X Q)).1=0 ∧
     (((tidyS (saveS (zaC S (nameS 115 X) (segB Q)).2 (zaR s X Q)).2 (zaR s X Q)).1=17∧CrK (tidyS (saveS (zaC S (nameS 115 X) (segB Q)).2 (zaR s X Q)).2 (zaR s X Q)).2 (zaR s X Q) [(X,Q)] (c+1031)) ∨
      ((tidyS (saveS (zaC S (nameS 115 X) (segB Q)).2 (zaR s X Q)).2 (zaR s X Q)).1=0∧StK (tidyS (saveS (zaC S (nameS 115 X) (segB Q)).2 (zaR s X Q)).2 (zaR s X Q)).2 (zaR s X Q) [(X,Q)] (X+1) (c+1031)))))):=by
 have h0:=h.I.rq
 have hok:∀g∈[(X,Q)],PrtsOk g.2∧∀q∈g.2,VOk q.2:=fun g hg=>by
  obtain rfl:=yal.1 hg
  exact ⟨hQ,hv⟩
 have hr:staR (zaR s X Q)=true:=by
  rw [h.I.comp_eq]
  exact staR_of (fun g hg=>(hok g hg).1) (by simp) (by omega) (by omega) (by omega)
 refine (h.put hQ hX hr (by rw [h.I.comp_eq];exact km5_ok)).imp id (fun ⟨e1,hh⟩=>⟨e1,hh.imp id (fun ⟨e2,i2,r2,g2⟩=>⟨e2,?_⟩)⟩)
 obtain ⟨S2,hS2⟩:∃S2,S2=(saveS (zaC S (nameS 115 X) (segB Q)).2 (zaR s X Q)).2:=⟨_,rfl⟩
 rw [←hS2] at i2 r2 g2 ⊢
 clear hS2 e1 e2
 have hN:zbQ (zaR s X Q)=[nameS 115 X]:=by rw [h.I.comp_eq,names_flsOf];rfl
 have hkeys:∀k,(aget S2.files k).isSome=true→k=fM∨∃n,k=nameS 115 n:=fun k hk=>by
  rw [g2] at hk
  by_cases e:k=fM
  ·exact .inl e
  ·rw [if_neg e] at hk
   by_cases e':k=nameS 115 X
   ·exact .inr ⟨X,e'⟩
   ·rw [if_neg e'] at hk
    rcases h.I.keys k hk with h1|⟨g,_,h1⟩
    ·exact .inl h1
    ·exact .inr ⟨_,h1⟩
 have hR:S2.list fR=[]:=by
  cases hl:S2.list fR with
  | nil=>rfl
  | cons f L =>
   have hm:f∈S2.list fR:=by rw [hl];simp
   obtain ⟨h1,h2⟩:=zcl.1 hm
   rcases hkeys f h1 with e|⟨n,e⟩
   ·rw [e,pre_m.2] at h2;cases h2
   ·rw [e,pre_r] at h2;cases h2
 have hL:tidyL S2=S2.list fS:=by unfold tidyL;rw [hR];rfl
 have i3:DInv (tidyS S2 (zaR s X Q)).2 (c+1031):=by
  have h3:=i2.tidy (N:=zbQ (zaR s X Q)) (L:=tidyL S2)
  exact h3.mono (by have:=(tidyL_small i2).1;omega)
 obtain ⟨t1,t2,t3⟩:=tidy_cut (N:=zbQ (zaR s X Q)) (L:=tidyL S2) i2 (by rw [hL];exact list_nodupS i2.ok.names _) (fun f hf=>by
  rw [hL] at hf
  obtain ⟨h1,h2⟩:=zcl.1 hf
  refine ⟨h1,?_⟩
  rcases hkeys f h1 with e|⟨n,e⟩
  ·rw [e,pre_m.1] at h2;cases h2
  ·rw [e];exact nameS_ok _ _)
 change ((tidyS S2 (zaR s X Q)).1=17∨((tidyS S2 (zaR s X Q)).1=0∧_)) at t1
 change CutOk S2 (tidyS S2 (zaR s X Q)).2 _ at t2
 change ∀k,aget S2.files k=none→aget (tidyS S2 (zaR s X Q)).2.files k=none at t3
 have t1':(tidyS S2 (zaR s X Q)).1=17∨((tidyS S2 (zaR s X Q)).1=0∧∀k,k∈tidyL S2→k∉zbQ (zaR s X Q)→aget (tidyS S2 (zaR s X Q)).2.files k=none):=t1
 clear t1
 obtain ⟨S3,hS3⟩:∃S3,S3=(tidyS S2 (zaR s X Q)).2:=⟨_,rfl⟩
 rw [←hS3] at i3 t1' t2 t3 ⊢
 have gM:aget S3.files fM=some (fullF (sealL 7 (staP (zaR s X Q)))):=by
  rw [t2.get,g2,if_pos rfl]
  rintro ⟨h1,_⟩
  rw [hL] at h1
  have h2:=(zcl.1 h1).2
  rw [pre_m.1] at h2;cases h2
 have gX:aget S3.files (nameS 115 X)=some (fullF (segB Q)):=by
  rw [t2.get,g2,if_neg (zdt _),if_pos rfl]
  rintro ⟨_,h1⟩
  exact h1 (by rw [hN];simp)
 have hk3:∀k,(aget S3.files k).isSome=true→k=fM∨∃n,k=nameS 115 n:=fun k hk=>by
  refine hkeys k ?_
  cases hq:aget S2.files k with
  | none=>rw [t3 k hq] at hk;cases hk
  | some=>rfl
 have hfile:∀g∈[(X,Q)],aget S3.files (nameS 115 g.1)=some (fullF (segB g.2)):=fun g hg=>by
  obtain rfl:=yal.1 hg
  exact gX
 have hI:∀S4:DiskS,DInv S4 (c+1031)→S4.room=16777216→S4.left<0→aget S4.files fM=some (fullF (sealL 7 (staP (zaR s X Q))))→aget S4.files (nameS 115 X)=some (fullF (segB Q))→(∀k,(aget S4.files k).isSome=true→k=fM∨k=nameS 115 X)→StI S4 (zaR s X Q) [(X,Q)] (X+1) (c+1031):=by
  intro S4 j1 j2 j3 j4 j5 j6
  refine { st:=h.I.comp_eq Q,rq:=h0,num:=⟨by simp,fun g hg=>?_,by omega⟩,ok:=hok,inv:=j1,left:=j3,room:=j2,file:=fun g hg=>?_,man:=.inl ⟨_,j4,rfl⟩,keys:=fun k hk=>?_,few:=by simp,tot:=by simp [totG];exact ht }
  ·obtain rfl:=yal.1 hg
   exact Nat.lt_succ_self X
  ·obtain rfl:=yal.1 hg
   exact ⟨_,j5,rfl⟩
  ·rcases j6 k hk with e|e
   ·exact .inl e
   ·exact .inr ⟨(X,Q),by simp,e⟩
 rcases t1' with e|⟨e,hgone⟩
 ·refine .inl ⟨e,⟨⟨⟨[(fM,fullF (sealL 7 (staP (zaR s X Q)))),(nameS 115 X,fullF (segB Q))],16777216,(((sealL 7 (staP (zaR s X Q))).length+(segB Q).length:Nat):Int),-1,0⟩,X+1,c+1031,?_⟩,i3,by rw [t2.room];exact r2,hfile,.inl gM,fun k hk=>(hk3 k hk).imp id .inr⟩⟩
  have hs1:(sealL 7 (staP (zaR s X Q))).length≤60100:=by
   have:=zdV hr (by rw [h.I.comp_eq];exact km5_ok)
   rw [zbh];omega
  have hs2:=segB_len hQ
  have hne:fM≠nameS 115 X:=fun e=>zdt X e.symm
  refine hI _ ⟨⟨by show (0:Int)≤16777216;decide,by show (16777216:Int)≤1073741824;decide,by show (0:Int)≤(((sealL 7 (staP (zaR s X Q))).length+(segB Q).length:Nat):Int);omega,by show (((sealL 7 (staP (zaR s X Q))).length+(segB Q).length:Nat):Int)≤16777216;omega,Int.le_refl _,by show (-1:Int)≤9223372036854775807;decide,Int.le_refl _,?_,by simp,?_,?_⟩,?_,?_,?_⟩ rfl (by show (-1:Int)<0;decide) (by simp [aget]) (by simp [aget,hne.symm]) (fun k hk=>?_)
  ·intro p hp
   rcases yaq.1 hp with rfl|hp
   ·show (sealL 7 _).length≤_;omega
   ·rw [yal.1 hp];show (segB Q).length≤_;omega
  ·intro p hp
   rcases yaq.1 hp with rfl|hp
   ·exact Nat.le_refl _
   ·rw [yal.1 hp];exact Nat.le_refl _
  ·simp [hne]
  ·show (0:Int)≤_;omega
  ·intro p hp
   rcases yaq.1 hp with rfl|hp
   ·show fM.size≤64;decide
   ·rw [yal.1 hp];show (nameS 115 X).size≤64;rw [zcY];decide
  ·simp [sumF,fullF]
  ·simp only [aget] at hk
   by_cases e1:k=fM
   ·exact .inl e1
   ·rw [if_neg e1] at hk
    by_cases e2:k=nameS 115 X
    ·exact .inr e2
    ·rw [if_neg e2] at hk;cases hk
 ·refine .inr ⟨e,hI _ i3.free (by show S3.room=_;rw [t2.room];exact r2) (by show (-1:Int)<0;decide) gM gX (fun k hk=>?_),i3,hfile,.inl gM⟩
  rcases hk3 k hk with e|⟨n,e⟩
  ·exact .inl e
  ·refine .inr (Classical.byContradiction fun hne=>?_)
   have hk:(aget S3.files k).isSome=true:=hk
   have:aget S3.files k=none:=by
    cases hq:aget S2.files k with
    | none=>exact t3 k hq
    | some f =>
     refine hgone k ?_ (by rw [hN];simpa using hne)
     rw [hL]
     exact zcl.2 ⟨by rw [hq];rfl,by rw [e];exact pre_s n⟩
   rw [this] at hk;cases hk
theorem crash_some {S:DiskS}{keep:List Int}{n:ByteArray}(h:(aget (S.crash keep).files n).isSome=true):(aget S.files n).isSome=true:=by
 cases hg:aget S.files n with
 | none=>rw [crash_none keep hg] at h;cases h
 | some=>rfl
theorem CrK.crash {S:DiskS}{s:Sta}{G:Gs}{c:Nat}(h:CrK S s G c) (keep:List Int):CrK (S.crash keep) s G 0:=by
 refine ⟨h.st,h.inv.crash' keep,h.room,fun g hg=>?_,?_,fun n hn=>h.keys n (crash_some hn)⟩
 ·obtain ⟨k,hk⟩:=crash_get h.inv.ok keep (h.file g hg)
  rw [hk,keepF_all]
 ·rcases h.man with e|⟨e,hs⟩
  ·obtain ⟨k,hk⟩:=crash_get h.inv.ok keep e
   exact .inl (by rw [hk,keepF_all])
  ·exact .inr ⟨crash_none keep e,hs⟩
structure FoundK (S:DiskS) (s:Sta) (G:Gs):Prop where
 opens:stoK S ownSt (alikeB ownSt)=(0,s)
 tidies:(tidyS S s).1=0
 inv:DInv (tidyS S s).2 1024
 hold:∀n,HoldP (tidyS S s).2 s.fl n (holdG G n)
 few:∀n,(holdG G n).length+((holdG G n).map List.length).sum<4000
 list:((tidyS S s).2.list fS).length=s.fl.length
 okG:OkG G
 fl:s.fl.length=G.length∧s.ti=[]∧G.length≤30
theorem CrK.found {S:DiskS}{s:Sta}{G:Gs}(h:CrK S s G 0) (hl:S.left<0):FoundK S s G:=by
 obtain ⟨S0,X,c0,hI⟩:=h.st
 have hrest:restK S s=(0,s):=by
  unfold restK
  rw [if_pos]
  rw [yaV]
  intro n hn
  rw [hI.names] at hn
  obtain ⟨g,hg,rfl⟩:=yap.1 hn
  rw [h.file g hg];rfl
 have hopen:stoK S ownSt (alikeB ownSt)=(0,s):=by
  unfold stoK
  rcases h.man with hf|⟨hn,hs⟩
  ·have hld:loadS S=(s,true,0):=by
    unfold loadS
    rw [hf]
    show loadO (staRd (fullF _).bytes)=_
    show loadO (staRd (sealL 7 (staP s)))=_
    rw [staRd_seal hI.r hI.kmok (by have:=zdV hI.r hI.kmok;omega)]
    rfl
   rw [hld]
   simp only [ne_eq,not_true,if_false,if_true]
   rw [if_pos (by rw [hI.st];exact alike_own)]
   exact hrest
  ·have hld:loadS S=(staZ,false,0):=by unfold loadS;rw [hn]
   rw [hld]
   simp only [ne_eq,not_true,if_false]
   rw [if_neg (by simp),←hs]
   exact hrest
 have hR:S.list fR=[]:=by
  cases hL:S.list fR with
  | nil=>rfl
  | cons f L =>
   have hm:f∈S.list fR:=by rw [hL];simp
   obtain ⟨h1,h2⟩:=zcl.1 hm
   rcases h.keys f h1 with e|e|⟨n,e⟩
   ·rw [e,pre_m.2] at h2;cases h2
   ·rw [e] at h2;cases h2
   ·rw [e,pre_r] at h2;cases h2
 have hL:tidyL S=S.list fS:=by unfold tidyL;rw [hR];rfl
 have hlist:∀f,f∈S.list fS→∃n,f=nameS 115 n:=fun f hf=>by
  obtain ⟨h1,h2⟩:=zcl.1 hf
  rcases h.keys f h1 with e|e|e
  ·rw [e,pre_m.1] at h2;cases h2
  ·rw [e] at h2;cases h2
  ·exact e
 obtain ⟨S',e,o⟩:=tidy_ok (N:=zbQ s) (L:=tidyL S) h.inv hl (by rw [hL];exact list_nodupS h.inv.ok.names _) (fun f hf=>by
  rw [hL] at hf
  obtain ⟨n,e⟩:=hlist f hf
  exact ⟨(zcl.1 hf).1,by rw [e];exact nameS_ok _ _⟩)
 have et:tidyS S s=(0,S'):=e
 have hfile:∀g∈G,aget S'.files (nameS 115 g.1)=some (fullF (segB g.2)):=fun g hg=>by
  rw [o.get,if_neg,h.file g hg]
  rintro ⟨_,h1⟩
  exact h1 (by rw [hI.names];exact yax (f:=fun g:Nat×List Prt=>nameS 115 g.1) hg)
 have i':DInv S' 1024:=by
  have h3:=h.inv.tidy (N:=zbQ s) (L:=tidyL S)
  rw [e] at h3
  exact h3.mono (by have:=(tidyL_small h.inv).1;omega)
 refine ⟨hopen,by rw [et],by rw [et];exact i',fun n=>?_,hI.holdFew,?_,hI.okG,hI.flLen,hI.ti,hI.few⟩
 ·rw [et]
  refine ⟨by rw [hI.flLen];simp [holdG],fun k F l hF hl=>?_⟩
  obtain ⟨g,hg,eF,hm,ho⟩:=hI.onDisk hF
  unfold holdG at hl
  rw [yar,hg] at hl
  have e:l=ofN g.2 n:=(yaG hl).symm
  subst e
  refine ⟨_,⟨⟨_,by rw [eF];exact hfile g hm,rfl⟩,ho.ok,ho.a,ho.b,ho.k⟩,hasP_of (hI.ok g hm).1 (hI.ok g hm).2 n⟩
 ·rw [et,hI.flLen]
  have hp:(S'.list fS).Perm (G.map fun g=>nameS 115 g.1):=by
   refine (List.perm_ext_iff_of_nodup (list_nodupS i'.ok.names _) ?_).2 (fun f=>?_)
   ·rw [List.nodup_iff_pairwise_ne,List.pairwise_map]
    have hn:=hI.num.1
    rw [List.nodup_iff_pairwise_ne,List.pairwise_map] at hn
    refine (hn.imp_of_mem (fun {a b} ha hb hab e=>?_))
    have h1:=hI.num.2.1 a ha
    have h2:=hI.num.2.1 b hb
    have h3:=hI.num.2.2
    exact hab (nameS_inj (by omega) (by omega) e)
   ·rw [zcl]
    constructor
    ·rintro ⟨h1,h2⟩
     have h3:(aget S.files f).isSome=true:=by
      rw [o.get] at h1
      split at h1
      ·cases h1
      ·exact h1
     have hf:f∈S.list fS:=zcl.2 ⟨h3,h2⟩
     rw [←hI.names]
     refine Classical.byContradiction fun hn=>?_
     rw [o.get,if_pos ⟨by rw [hL];exact hf,hn⟩] at h1
     cases h1
    ·intro hf
     obtain ⟨g,hg,rfl⟩:=yap.1 hf
     exact ⟨by rw [hfile g hg];rfl,pre_s _⟩
  have:=hp.length_eq
  rw [this,yaw]
theorem OnDisk.of {S S':DiskS}(e:S'.files=S.files) {F:Fl}{L:List SegI}(h:OnDisk S' F L):OnDisk S F L:=⟨by rw [←e];exact h.file,h.ok,h.a,h.b,h.k⟩
theorem HoldP.of {S S':DiskS}(e:S'.files=S.files) {fl:List Fl}{n:ByteArray}{H:List (List Pt)}(h:HoldP S' fl n H):HoldP S fl n H :=
 ⟨h.1,fun k F l hF hl=>by obtain ⟨L,h1,h2⟩:=h.2 k F l hF hl;exact ⟨L,h1.of e,h2⟩⟩
theorem HoldS.of {S S':DiskS}(e:S'.files=S.files) {fl:List Fl}{LS:List (List SegI)}(h:HoldS S' fl LS):HoldS S fl LS:=⟨h.1,fun k F L hF hL=>(h.2 k F L hF hL).of e⟩
structure StoC (w0:World) (p d:Nat) (r:Int) (G:Gs) (X c:Nat) (B:List Nat) (w:World):Prop where
 at':∃s S B0 v,StoAt w p d s S B0 v∧StK S s G X c∧s.r=r∧(∀b∈B0,b∈B)∧∀g∈blksV v,g∈B
 own:∀b∈B,w0.heap.size≤b
 lt:∀b∈B,b<w.heap.size
 pn:w0.heap.size≤p
 ext:Ext w0 w
 et:HasET w0
def StepC (w0:World) (p d:Nat) (r:Int) (G:Gs) (X c:Nat) (B:List Nat) (w w':World):Prop :=
 ∃B',StoC w0 p d r G X c B' w'∧Chg (fun b=>b=p∨b∈B) w w'∧∀b∈B',b∈B∨w.heap.size≤b
def EndTo (w0:World) (p d:Nat) (G:Gs) (B:List Nat) (w w':World):Prop :=
 ∃B' s S c,zbj w' d S B'∧CrK S s G c∧c≤500000∧Chg (fun b=>b=p∨b∈B) w w'∧(∀b∈B',b∈B∨w.heap.size≤b)∧Ext w0 w'
theorem StoC.wide {w0 w w':World}{p d:Nat}{r:Int}{G:Gs}{X c:Nat}{B B0:List Nat}(h:StoC w0 p d r G X c B w) (hB0:∀b∈B0,b∈B) (hc:Chg (fun b=>b=p∨b∈B0) w w'):Ext w0 w' :=
 (((Chg.of_ext (S:=fun b=>b=p∨b∈B0) h.ext)).trans hc (fun i hi e=>e)).ext (fun i hi e=>by
  rcases e with e|e
  ·have:=h.pn;omega
  ·have:=h.own i (hB0 i e);omega)
theorem StoC.grow {w0 w w':World}{p d:Nat}{r r':Int}{G G':Gs}{X X' c c':Nat}{B B0 B':List Nat}(h:StoC w0 p d r G X c B w) {s:Sta}{S:DiskS}{v:StoV}(k:StoAt w' p d s S B' v) (ki:StK S s G' X' c') (kr:s.r=r') (hB0:∀b∈B0,b∈B) (hc:Chg (fun b=>b=p∨b∈B0) w w') (hn:∀b∈B',b∈B0∨w.heap.size≤b) (hv:∀g∈blksV v,g∈B∨w.heap.size≤g):StepC w0 p d r' G' X' c' B w w':=by
 have hn':∀b∈B'++blksV v,b∈B∨w.heap.size≤b:=fun b hb=>by
  rcases yah.1 hb with e|e
  ·exact (hn b e).imp (hB0 b) id
  ·exact hv b e
 refine ⟨B'++blksV v,⟨⟨s,S,B',v,k,ki,kr,fun b hb=>yat _ hb,fun g hg=>yaR _ hg⟩,fun b hb=>?_,fun b hb=>(yah.1 hb).elim (k.disk.lt b) (k.blks b),h.pn,h.wide hB0 hc,h.et⟩,hc.mono (fun i _ e=>e.imp id (hB0 i)),hn'⟩
 rcases hn' b hb with e|e
 ·exact h.own b e
 ·have:=h.ext.size;omega
theorem StoC.fin {w0 w w':World}{p d:Nat}{r:Int}{G G':Gs}{X c c':Nat}{B B0 B':List Nat}(h:StoC w0 p d r G X c B w) {s s':Sta}{S:DiskS}{v:StoV}(k:StoAt w' p d s' S B' v) (ki:CrK S s G' c') (hc':c'≤500000) (hB0:∀b∈B0,b∈B) (hc:Chg (fun b=>b=p∨b∈B0) w w') (hn:∀b∈B',b∈B0∨w.heap.size≤b):EndTo w0 p d G' B w w' :=
 ⟨B',s,S,c',k.disk,ki,hc',hc.mono (fun i _ e=>e.imp id (hB0 i)),fun b hb=>(hn b hb).imp (hB0 b) id,h.wide hB0 hc⟩
theorem StoC.et' {w0 w:World}{p d:Nat}{r:Int}{G:Gs}{X c:Nat}{B:List Nat}(h:StoC w0 p d r G X c B w):HasET w:=h.et.ext h.ext
theorem StoC.gB {w0 w:World}{p d:Nat}{r:Int}{G:Gs}{X c:Nat}{B B0:List Nat}(h:StoC w0 p d r G X c B w) (hB:∀b∈B0,b∈B):0∉B0:=fun e=>by have:=h.own _ (hB _ e);have:=h.et.lt;omega
theorem StoC.okG' {w0 w:World}{p d:Nat}{r:Int}{G:Gs}{X c:Nat}{B:List Nat}(h:StoC w0 p d r G X c B w):OkG G:=by
 obtain ⟨s,S,B0,v,h1,h2,h3⟩:=h.at'
 exact h2.I.okG
theorem StoC.next {w0 w w':World}{p d:Nat}{r:Int}{G:Gs}{X c:Nat}{B:List Nat}(h:StoC w0 p d r G X c B w) (hx:Ext w w'):StoC w0 p d r G X c B w':=by
 obtain ⟨s,S,B0,v,h1,h2⟩:=h.at'
 exact ⟨⟨s,S,B0,v,h1.ext hx,h2⟩,h.own,fun b hb=>yan (h.lt b hb) hx.size,h.pn,h.ext.trans hx,h.et⟩
theorem StoC.beside {w0 w w':World}{p d:Nat}{r:Int}{G:Gs}{X c:Nat}{B:List Nat}{T:Nat→Prop}(h:StoC w0 p d r G X c B w) (hc:Chg T w w') (hp:¬T p) (hB:∀b∈B,¬T b) (h0:∀b,T b→w0.heap.size≤b):StoC w0 p d r G X c B w':=by
 obtain ⟨s,S,B0,v,h1,h2,h3,h4,h5⟩:=h.at'
 refine ⟨⟨s,S,B0,v,h1.apart hc (fun b hb=>hB b (h4 b hb)) hp (fun hn b hb=>hB b (h5 b (mem_blksV.2 (.inl ⟨hn,hb⟩)))) (fun hn b hb=>hB b (h5 b (mem_blksV.2 (.inr ⟨hn,hb⟩)))),h2,h3,h4,h5⟩,h.own,fun b hb=>yan (h.lt b hb) hc.size,h.pn,?_,h.et⟩
 exact ((Chg.of_ext (S:=T) h.ext).trans hc (fun i hi e=>e)).ext (fun i hi e=>by have:=h0 i e;omega)
theorem flushC {w0 w:World}{p d:Nat}{r:Int}{G:Gs}{X c:Nat}{B:List Nat}(h:StoC w0 p d r G X c B w) (i:Nat) (hr:r≤(i:Int)) (hi:i≤1000) (hX:X<1000) (hG:G.length<30) (hc:c≤400000)
 (a:Option Addr) (ca:Nat) (q:PaM) (hs:Src w 2 (.slice a 1 ca) 1 (pams [q])) (hq:q.Ok w) (hn:zbg (bl q.nm)=true) (hcol:colV q.l=true) (hv:VOk q.l) (ht:totG G+q.l.length≤600) :
 Calls Tryz.prog 11 #[.pointer (some ⟨p,0,none⟩),.slice a 1 ca,.int .i64 (i:Int),.int .i64 (i:Int),.agg #[.bool false,.int .i64 0,.int .i64 5]] w fun e w'=>(e=.returned (.int .i64 0)∧StepC w0 p d (i:Int) (G++[(X,[(q.nm,q.l)])]) (X+1) (c+7) B w w')∨(e=.returned (.int .i64 17)∧EndTo w0 p d G B w w'):=by
 obtain ⟨s,S,B0,v,h1,h2,h3,h4,h5⟩:=h.at'
 have hQ:=one_ok hn hcol (by omega)
 have hrq:=h2.I.rq
 have hfl:=h1.lens
 have e0:s.fl.length=G.length:=h2.I.flLen
 have e1:s.ti.length=0:=by rw [h2.I.ti];rfl
 have hfew:=h2.I.few
 have hz:s.q≤(i:Int):=by have:=hrq.2.2;omega
 have hQe:zaD [q]=[(q.nm,q.l)]:=rfl
 have hst:=h2.flush hQ (fun x hx=>by rw [yal.1 hx];exact hv) (i:=(i:Int)) ⟨by omega,by omega⟩ hG hX (by simp [manyP];omega)
 have hF:=stoFlush_any (k:=c) (n:=X) (by omega) h2.inv h1 h2.I.x (by omega) ⟨by omega,by omega⟩ (i:Int) (i:Int) (by omega) (by omega) hz (by omega) km5 (fresh5 h2.I) a 1 ca [q] hs (fun x hx=>by rw [yal.1 hx];exact hq) (by rw [hQe];exact hQ) h.et' (h.gB h4)
 rw [hQe] at hF
 refine hF.mono ?_
 intro e w' hw
 unfold WriteTo at hw
 rcases hst with ⟨g1,g2⟩|⟨g1,⟨g2,g3⟩|⟨g2,g3⟩⟩
 ·rw [g1,if_pos (by decide)] at hw
  obtain ⟨rfl,B',k1,k2,k3⟩:=hw
  exact .inr ⟨rfl,h.fin k1 g2 (by omega) h4 (k2.mono (fun i _ e=>.inr e)) k3⟩
 ·rw [g1,if_neg (by decide),g2,if_neg (by decide)] at hw
  obtain ⟨rfl,B',k1,k2,k3⟩:=hw
  exact .inr ⟨rfl,h.fin k1 g3 (by omega) h4 (k2.mono (fun i _ e=>.inr e)) k3⟩
 ·rw [g1,if_neg (by decide),g2,if_pos rfl] at hw
  obtain ⟨rfl,v',hv1,hv2,hv3,B',k1,k2,k3⟩:=hw
  exact .inl ⟨rfl,h.grow k1 g3 rfl h4 k2 k3 (fun g hg=>.inr (hv3.blks g hg))⟩
theorem compactC_few {w0 w:World}{p d:Nat}{r:Int}{G:Gs}{X c:Nat}{B:List Nat}(h:StoC w0 p d r G X c B w) (hG:G.length<2) :
 Calls Tryz.prog 19 #[.pointer (some ⟨p,0,none⟩)] w fun e w'=>e=.returned (.int .i64 13)∧w=w':=by
 obtain ⟨s,S,B0,v,h1,h2,h3,h4,h5⟩:=h.at'
 exact stoCompact_few h1 (by have:=h1.lens.1;have:=h2.I.flLen;omega)
theorem compactC {w0 w:World}{p d:Nat}{r:Int}{G:Gs}{X c:Nat}{B:List Nat}(h:StoC w0 p d r G X c B w) (hG:2≤G.length) (hX:X<1000) (hc:c≤400000) :
 Calls Tryz.prog 19 #[.pointer (some ⟨p,0,none⟩)] w fun e w'=>∃Q,AllQ G Q∧((e=.returned (.int .i64 0)∧StepC w0 p d r [(X,Q)] (X+1) (c+1031) B w w')∨(e=.returned (.int .i64 17)∧(EndTo w0 p d G B w w'∨EndTo w0 p d [(X,Q)] B w w'))):=by
 obtain ⟨s,S,B0,v,h1,h2,h3,h4,h5⟩:=h.at'
 have hfl:=h1.lens
 have e0:s.fl.length=G.length:=h2.I.flLen
 have e1:s.ti.length=0:=by rw [h2.I.ti];rfl
 have hfew:=h2.I.few
 have htot:=h2.I.tot
 have hok:=h2.I.okG
 have hall:∀Q:List Prt,Q.map Prod.fst=zbf (zcQ G)→(∀q∈Q,IsMerge (((holdG G q.1).map (cutL (-1152921504606846976) 1152921504606846977)).filter neL) q.2)→PrtsOk Q :=
  fun Q hn hm=>AllQ.prts ⟨hn,hm⟩ hok (by omega) htot
 refine (stoCompact_any (k:=c) (n:=X) (by omega) h2.inv h1 h2.I.x (by omega) ⟨by omega,by omega⟩ (zcQ G) (HoldS.of (S:=S) (S':={ S with left:=-1 }) rfl h2.I.holdS) (holdG G) (fun n _=>⟨HoldP.of (S:=S) (S':={ S with left:=-1 }) rfl (h2.I.holdP n),h2.I.holdFew n⟩) (names_few hok htot) hall (by omega) h.et' (h.gB h4)).mono ?_
 rintro e w' ⟨Q,hn,hm,ht⟩
 have hQ:AllQ G Q:=⟨hn,hm⟩
 have hst:=h2.compact (hQ.prts hok (by omega) htot) (hQ.v hok) hX (by have:=hQ.many;omega)
 refine ⟨Q,hQ,?_⟩
 unfold TidyTo at ht
 rcases hst with ⟨g1,g2⟩|⟨g1,⟨g2,g3⟩|⟨g2,⟨g3,g4⟩|⟨g3,g4⟩⟩⟩
 ·rw [g1,if_pos (by decide)] at ht
  obtain ⟨rfl,B',k1,k2,k3⟩:=ht
  exact .inr ⟨rfl,.inl (h.fin k1 g2 (by omega) h4 (k2.mono (fun i _ e=>.inr e)) k3)⟩
 ·rw [g1,if_neg (by decide),g2,if_pos (by decide)] at ht
  obtain ⟨rfl,B',k1,k2,k3⟩:=ht
  exact .inr ⟨rfl,.inl (h.fin k1 g3 (by omega) h4 (k2.mono (fun i _ e=>.inr e)) k3)⟩
 ·rw [g1,if_neg (by decide),g2,if_neg (by decide),g3] at ht
  obtain ⟨rfl,v',hv1,hv2,hv3,B',k1,k2,k3⟩:=ht
  exact .inr ⟨rfl,.inr (h.fin k1 g4 (by omega) h4 k2 k3)⟩
 ·rw [g1,if_neg (by decide),g2,if_neg (by decide),g3] at ht
  obtain ⟨rfl,v',hv1,hv2,hv3,B',k1,k2,k3⟩:=ht
  exact .inl ⟨rfl,h.grow k1 g4 h3 h4 k2 k3 (fun g hg=>.inr (hv3.blks g hg))⟩
structure MoF (w0:World) (p mb:Nat) (F:List PaM) (B:List Nat) (a:Option Addr) (n c:Nat) (w:World):Prop where
 mo:MoAt w mb F a n c
 off:MoOff mb a p B
 new:w0.heap.size≤mb∧∀g,a.map (·.block)=some g→w0.heap.size≤g
theorem MoF.ext {w0 w w':World}{p mb:Nat}{F:List PaM}{B:List Nat}{a:Option Addr}{n c:Nat}(h:MoF w0 p mb F B a n c w) (hx:Ext w w'):MoF w0 p mb F B a n c w':=⟨h.mo.ext hx,h.off,h.new⟩
def PtsIn (w0:World) (F:List PaM):Prop:=∀q∈F,q.n≠0→∀g,q.a.map (·.block)=some g→g<w0.heap.size
theorem MoF.lt {w0 w:World}{p mb:Nat}{F:List PaM}{B:List Nat}{a:Option Addr}{n c:Nat}(h:MoF w0 p mb F B a n c w):mb<w.heap.size∧∀g,a.map (·.block)=some g→g<w.heap.size :=
 ⟨zab h.mo.box,fun g hg=>h.mo.row.lt (by rw [zar];exact hg)⟩
theorem MoF.step {w0 w w':World}{p mb:Nat}{F:List PaM}{B B':List Nat}{a:Option Addr}{n c:Nat}(h:MoF w0 p mb F B a n c w) (hp:PtsIn w0 F) (hpn:w0.heap.size≤p) (hown:∀b∈B,w0.heap.size≤b) (hc:Chg (fun b=>b=p∨b∈B) w w') (hn:∀b∈B',b∈B∨w.heap.size≤b):MoF w0 p mb F B' a n c w':=by
 refine ⟨h.mo.chg h.off hc (fun q hq hn g hg=>?_),h.off.to hn h.lt.1 h.lt.2,h.new⟩
 have h3:=hp q hq hn g hg
 exact ⟨fun e=>by omega,fun e=>by have:=hown g e;omega⟩
theorem MoF.beside {w0 w w':World}{p mb:Nat}{F:List PaM}{B:List Nat}{a:Option Addr}{n c:Nat}{T:Nat→Prop}(h:MoF w0 p mb F B a n c w) (hp:PtsIn w0 F) (hc:Chg T w w') (h1:¬T mb) (h2:∀g,a.map (·.block)=some g→¬T g) (h0:∀b,T b→w0.heap.size≤b):MoF w0 p mb F B a n c w':=by
 refine ⟨⟨(hc.block mb (zab h.mo.box) h1).trans h.mo.box,h.mo.row.chg hc (fun g hg=>h2 g (by rw [zar] at hg;exact hg)),fun q hq=>⟨⟨zbJ (h.mo.ok q hq).1.src hc (fun hn g hg e=>?_),(h.mo.ok q hq).1.cap⟩,(h.mo.ok q hq).2⟩,h.mo.ne⟩,h.off,h.new⟩
 have h3:=hp q hq hn g hg
 have:=h0 g e
 omega
structure CrI (w0:World) (p d N j:Nat) (G:Gs) (F:List PaM) (X c:Nat) (B:List Nat) (w:World):Prop where
 sto:∃r,StoC w0 p d r G X c B w∧r≤(j:Int)
 pts:PtsIn w0 F
 mod:ModI G F
 sum:(F.map fun q=>q.l.length).sum≤N∧totG G≤N
 len:F.length≤j∧G.length≤j∧X≤j∧c≤2000*j
theorem CrI.ext {w0 w w':World}{p d N j:Nat}{G:Gs}{F:List PaM}{X c:Nat}{B:List Nat}(h:CrI w0 p d N j G F X c B w) (hx:Ext w w'):CrI w0 p d N j G F X c B w':=by
 obtain ⟨r,h1,h2⟩:=h.sto
 exact ⟨⟨r,h1.next hx,h2⟩,h.pts,h.mod,h.sum,h.len⟩
theorem CrI.world {w0 w:World}{p d N j:Nat}{G:Gs}{F:List PaM}{X c:Nat}{B:List Nat}(h:CrI w0 p d N j G F X c B w):Ext w0 w:=by
 obtain ⟨r,h1,h2⟩:=h.sto
 exact h1.ext
theorem CrI.more {w0 w:World}{p d N N' j j':Nat}{G:Gs}{F:List PaM}{X c:Nat}{B:List Nat}(h:CrI w0 p d N j G F X c B w) (hN:N≤N') (hj:j≤j'):CrI w0 p d N' j' G F X c B w:=by
 obtain ⟨r,h1,h2⟩:=h.sto
 have hl:=h.len
 have hs:=h.sum
 exact ⟨⟨r,h1,by omega⟩,h.pts,h.mod,⟨by omega,by omega⟩,⟨by omega,by omega,by omega,by omega⟩⟩
def ModF (F:List PaM):Prop:=(∀q∈F,colV q.l=true)∧F.length≤26∧(F.map fun q=>q.l.length).sum≤600
def EndI (w0:World) (d mw mn:Nat) (w:World):Prop :=
 ∃G c B s S Fw Fn aw nw cw an nn cn,zbj w d S B∧CrK S s G c∧c≤500000∧MoAt w mw Fw aw nw cw∧MoAt w mn Fn an nn cn∧ModF Fw∧ModF Fn∧(ModI G Fw∨ModI G Fn)∧Ext w0 w
theorem ModI.f {G:Gs}{F:List PaM}(h:ModI G F):ModF F:=⟨h.col,by have:=h.few;omega,h.sum⟩
theorem ModF.rises {F:List PaM}(h:ModF F):∀q∈F,Rises q.l:=fun q hq=>zdH (h.1 q hq)
theorem ModF.few2 {F:List PaM}(h:ModF F) (n:ByteArray):F.length+((modH F n).map List.length).sum<4000:=by
 have h1:=h.2.1
 have h2:=h.2.2
 have h3:=modH_sum F n
 omega
theorem CrI.fin {w0 w:World}{p d N j:Nat}{G:Gs}{F:List PaM}{X c:Nat}{B:List Nat}(h:CrI w0 p d N j G F X c B w) (hj:j≤25) {mw mn:Nat}{aw an:Option Addr}{nw cw nn cn:Nat}(hw:MoAt w mw F aw nw cw) (hn:MoAt w mn F an nn cn):EndI w0 d mw mn w:=by
 obtain ⟨r,h1,h2⟩:=h.sto
 obtain ⟨s,S,B0,v,k1,k2,k3,k4,k5⟩:=h1.at'
 have hl:=h.len
 exact ⟨G,c,B0,s,S,F,F,aw,nw,cw,an,nn,cn,k1.disk,k2.crk,by omega,hw,hn,h.mod.f,h.mod.f,.inl h.mod,h1.ext⟩
theorem MoF.copy {w0 w W w1 w2:World}{p mb g:Nat}{F:List PaM}{B:List Nat}{a:Option Addr}{n c:Nat}(h:MoF w0 p mb F B a n c w) (hB:∀b∈B,b<w.heap.size) (hp:p<w.heap.size) (hx:Ext w W) (hg:w.heap.size≤g) {va:Option Addr}{vc:Nat}
 (ha:Appended W 48 2 (.slice (some ⟨g,0,none⟩) 0 0) (0+n) ([]++pams F) (.slice va (0+n) vc) w1) {mn:Nat}(hmn:w1.heap.size=mn) (hx2:Ext w1 w2) (hb:w2.heap[mn]?=some (.cells #[.slice va n vc] 35 (0,0))) (h0:w0.heap.size≤w.heap.size) (hP:PtsIn w0 F) :
 MoF w0 p mn F B va n vc w2∧Ext w w2∧w.heap.size≤mn∧∀b,va.map (·.block)=some b→w.heap.size≤b:=by
 have hva:∀b,va.map (·.block)=some b→b=g∨b=W.heap.size:=fun b hb=>by
  have hl:=ha.loc
  rw [zar,zar,hb] at hl
  rcases hl with e|e
  ·exact .inl (by simpa using e)
  ·exact .inr (yaG e)
 have hW:=hx.size
 have h1:=ha.chg.size
 have hva2:∀b,va.map (·.block)=some b→w.heap.size≤b:=fun b hb=>by rcases hva b hb with e|e<;>omega
 have hlt:∀b,va.map (·.block)=some b→b<w1.heap.size:=fun b hb=>ha.row.lt (by rw [zar];exact hb)
 have hE:Ext w w2:=(((Chg.of_ext (S:=(·=g)) hx).trans (ha.chg.mono (fun i _ e=>by rw [zar] at e;simpa using e.symm)) (fun _ _ e=>e)).ext (fun i hi e=>by omega)).trans hx2
 refine ⟨⟨⟨hb,?_,fun q hq=>?_,fun e=>?_⟩,⟨⟨by omega,fun e=>by have:=hB mn e;omega⟩,fun b hb=>⟨by have:=hva2 b hb;omega,fun e=>by have:=hB b e;have:=hva2 b hb;omega⟩⟩,⟨by omega,fun b hb=>by have:=hva2 b hb;omega⟩⟩,hE,by omega,hva2⟩
 ·have h2:=ha.row.ext hx2
  rw [Nat.zero_add,yaP] at h2
  exact h2
 ·have h2:=h.mo.ok q hq
  exact ⟨h2.1.ext hE,h2.2⟩
 ·have:=hlt mn e;omega
theorem MoF.put {w0 w W w4 w5:World}{p mb:Nat}{F:List PaM}{B:List Nat}{a:Option Addr}{n c:Nat}(h:MoF w0 p mb F B a n c w) (hP:PtsIn w0 F) (hp:p<w.heap.size) (hB:∀b∈B,b<w.heap.size) (hx:Ext w W) (h0:w0.heap.size≤w.heap.size) {q:PaM}(hq:q.Ok w) (hqn:q.n<4398046511104) (hq0:q.n≠0→∀g,q.a.map (·.block)=some g→g<w0.heap.size)
 {va:Option Addr}{vc:Nat}(ha:Appended W 48 2 (.slice a n c) (n+1) (pams F++pams [q]) (.slice va (n+1) vc) w4) (hc:Chg (·=mb) w4 w5) (hb:w5.heap[mb]?=some (.cells #[.slice va (n+1) vc] 35 (0,0))) :
 MoF w0 p mb (F++[q]) B va (n+1) vc w5∧Chg (fun b=>b=mb∨a.map (·.block)=some b) w w5:=by
 have hmb:=h.lt.1
 have hsz:w.heap.size≤W.heap.size:=hx.size
 have hsz4:W.heap.size≤w4.heap.size:=ha.chg.size
 have hma':∀g,va.map (·.block)=some g→a.map (·.block)=some g∨g=W.heap.size:=fun g hg=>by
  have hl:=ha.loc
  rw [zar,zar,hg] at hl
  rcases hl with e|e
  ·exact .inl e.symm
  ·exact .inr (yaG e)
 have hne':va.map (·.block)≠some mb:=fun e=>by
  rcases hma' mb e with e|e
  ·exact h.mo.ne e
  ·omega
 have hcT:Chg (fun b=>b=mb∨a.map (·.block)=some b) w w5:=(Chg.of_ext (S:=fun b=>b=mb∨a.map (·.block)=some b) hx).trans ((ha.chg.mono (fun i _ e=>.inr (by rw [zar] at e;exact e))).trans (hc.mono (fun i _ e=>.inl e)) (fun _ _ e=>e)) (fun _ _ e=>e)
 have hT0:∀b,(b=mb∨a.map (·.block)=some b)→w0.heap.size≤b:=fun b e=>e.elim (fun e=>by have:=h.new.1;omega) (fun e=>h.new.2 b e)
 refine ⟨⟨⟨hb,?_,fun x hx=>?_,hne'⟩,⟨h.off.box,fun g hg=>?_⟩,⟨h.new.1,fun g hg=>?_⟩⟩,hcT⟩
 ·rw [pams_append]
  exact ha.row.chg hc (fun g hg e=>by rw [zar] at hg;subst e;exact hne' hg)
 ·rcases yah.1 hx with hx|hx
  ·have h3:=h.mo.ok x hx
   exact ⟨⟨zbJ h3.1.src hcT (fun hn g hg e=>by have h4:=hP x hx hn g hg;have:=hT0 g e;omega),h3.1.cap⟩,h3.2⟩
  ·rw [yal.1 hx]
   exact ⟨⟨zbJ hq.src hcT (fun hn g hg e=>by have h3:=hq0 hn g hg;have:=hT0 g e;omega),hq.cap⟩,hqn⟩
 ·rcases hma' g hg with e|e
  ·exact h.off.row g e
  ·exact ⟨by omega,fun e'=>by have:=hB g e';omega⟩
 ·rcases hma' g hg with e|e
  ·exact h.new.2 g e
  ·omega
theorem PtsIn.put {w0:World}{F:List PaM}{q:PaM}(h:PtsIn w0 F) (hq:q.n≠0→∀g,q.a.map (·.block)=some g→g<w0.heap.size):PtsIn w0 (F++[q]):=fun x hx=>by
 rcases yah.1 hx with hx|hx
 ·exact h x hx
 ·rw [yal.1 hx];exact hq
theorem openC_new {w0 w1:World}{d:Nat}{B:List Nat}(hd:zbj w1 d (zbP 16777216) B) (hx:Ext w0 w1) (hB:∀b∈B,w0.heap.size≤b) (hg:HasET w0) :
 Calls Tryz.prog 10 #[.pointer (some ⟨d,0,none⟩),.int .i64 5,.slice none 0 0] w1 fun e w'=>∃p B',e=.returned (.tuple #[.pointer (some ⟨p,0,none⟩),.int .i64 0])∧StoC w0 p d 0 [] 0 0 B' w':=by
 refine (open_good hd start_I (by omega) (hg.ext hx)).mono ?_
 rintro e w' ⟨p,rfl,v,B',k1,kv,k2,k3,k4⟩
 refine ⟨p,B'++blksV v,rfl,⟨⟨_,_,B',v,k1,StK.start,rfl,fun b hb=>yat _ hb,fun g hg=>yaR _ hg⟩,fun b hb=>?_,fun b hb=>(yah.1 hb).elim (k1.disk.lt b) (k1.blks b),by have:=hx.size;omega,?_,hg⟩⟩
 ·rcases yah.1 hb with hb|hb
  ·rcases k3 b hb with e|e
   ·exact hB b e
   ·have:=hx.size;omega
  ·have:=kv.blks b hb
   have:=hx.size;omega
 ·exact ((Chg.of_ext (S:=(·∈B)) hx).trans k2 (fun i hi e=>e)).ext (fun i hi e=>by have:=hB i e;omega)
theorem cutC {w0 w:World}{p d:Nat}{r:Int}{G:Gs}{X c:Nat}{B:List Nat}(h:StoC w0 p d r G X c B w) (n:Nat) (hn:n≤127) :
 Calls Tryz.prog 22 #[.pointer (some ⟨d,0,none⟩),.int .i64 (n:Int)] w fun e w'=>e=.returned (.tuple #[])∧StepC w0 p d r G X c B w w':=by
 obtain ⟨s,S,B0,v,h1,h2,h3,h4,h5⟩:=h.at'
 refine (disk_cut h1.disk (n:Int)).mono ?_
 rintro e w' ⟨rfl,ht⟩
 obtain ⟨B',k1,k2,k3⟩:=h1.on ht
 have e:S.cut (n:Int)={ S with left:=(n:Int) }:=by simp only [DiskS.cut];congr 1;omega
 rw [e] at k1
 exact ⟨rfl,h.grow k1 (h2.cutTo (n:=(n:Int)) (by omega) (by omega)) h3 h4 (k2.mono (fun i _ e=>.inr e)) k3 (fun g hg=>.inl (h5 g hg))⟩
theorem loadS_small (S:DiskS):(loadS S).1.fl.length≤1000000∧(loadS S).1.ti.length≤1000000:=by
 unfold loadS
 cases aget S.files fM with
 | none=>exact ⟨by decide,by decide⟩
 | some f =>
  show (loadO (staRd f.bytes)).1.fl.length≤_∧(loadO (staRd f.bytes)).1.ti.length≤_
  have h:=staRd_fits (l:=f.bytes) rfl
  cases hr:staRd f.bytes with
  | none=>exact ⟨by decide,by decide⟩
  | some s =>
   rw [hr] at h
   have h:s.fl.length≤512∧s.ti.length≤4:=h
   show s.fl.length≤_∧s.ti.length≤_
   omega
theorem open_found {w:World}{d:Nat}{S:DiskS}{s:Sta}{G:Gs}{B:List Nat}(hd:zbj w d S B) (inv:DInv S 0) (h:FoundK S s G) (hg:HasET w) :
 Calls Tryz.prog 10 #[.pointer (some ⟨d,0,none⟩),.int .i64 5,.slice none 0 0] w fun e w'=>∃p,e=.returned (.tuple #[.pointer (some ⟨p,0,none⟩),.int .i64 0])∧StoMade w d s (tidyS S s).2 B p w':=by
 refine (stoOpen_any (c:=0) inv (by omega) hd 5 (by decide) none 0 0 ownSt (alikeB ownSt) hg (fun W hW=>stoFresh_none W 5 (by decide)) (fun W t v v0 hW hs ho hl=>stoAlike_any W t ownSt v v0 hs ho hl (by decide)) (fun t ht=>?_)).mono ?_
 ·rcases ht with rfl|rfl
  ·exact ⟨by decide,by decide⟩
  ·exact loadS_small S
 ·intro e w' ho
  unfold OpenSto at ho
  rw [h.opens] at ho
  simp only [not_true,ne_eq,if_false] at ho
  rw [h.tidies] at ho
  exact ho
end
section
open Go.RowKit Go.Sort Go.Lib
def HeadI (w0:World) (p d N j mw mn:Nat) (w:World):Prop :=
 ∃G F X c B aw nw cw an nn cn,CrI w0 p d N j G F X c B w∧MoAt w mw F aw nw cw∧MoF w0 p mn F B an nn cn w
theorem storeCrash_any (w:World) (a:Option Addr) (n c:Nat) (P:List AcM) (hs:Src w 5 (.slice a n c) n (acms P)) (hok:∀p∈P,p.Ok w) (hn:n<4398046511104) (ct:Int) (a3:Option Addr) (n3 c3:Nat) (kp:List Int) (hk3:Src w 1 (.slice a3 n3 c3) n3 (zints kp)) (hn3:n3≤9223372036854775807) (hg:HasET w) :
 Calls Tryz.prog 5 #[.slice a n c,.int .i64 ct,.slice a3 n3 c3] w fun e w'=>e=.returned (.bool true)∧Ext w w':=by
 have HS:=hid hs
 have HOK:=hid hok
 have HG:=hid hg
 have HK3:=hid hk3
 have HPL:=hid (acms_src_len hs)
 have hb1:=i64_and127 ct
 obtain ⟨cu,hcu,hcu'⟩:∃q:Nat,ct%128=(q:Int)∧q≤127:=⟨(ct%128).toNat,by omega,by omega⟩
 rw [hcu] at hb1
 have HB1:=hid hb1
 clear hs hok hg hk3 hcu hb1
 go_enter Tryz.func5,Tryz.ntmps5
 go_wp2_with fail
 refine (lawFew_any w a n c P HS.out HOK.out hn).mono ?_
 rintro e w1 ⟨rfl,rfl⟩
 by_cases hfew:n+manyA P<600
 case neg =>
  rw [decide_eq_false hfew]
  go_wp2_with fail
  go_ret
  exact ⟨rfl,Ext.refl _⟩
 rw [decide_eq_true hfew]
 have HFEW:=hid hfew
 have hn6:n<600:=by omega
 clear hfew
 go_wp2_with fail
 refine (disk_new (by omega) (by omega) w).mono ?_
 rintro e w2 ⟨rfl,hd,hx⟩
 obtain ⟨d,hde⟩:∃d,d=w.heap.size+1:=⟨_,rfl⟩
 have hB:∀b∈[w.heap.size+1,w.heap.size],w.heap.size≤b:=fun b hb=>by simp at hb;omega
 have HO:=hid (openC_new hd hx hB HG.out)
 rw [←hde] at HO ⊢
 clear hd hx hB hde
 go_wp2_with fail
 refine HO.out.mono ?_
 rintro e w3 ⟨p,B,rfl,hsto⟩
 have HSTO:=hid hsto
 clear hsto HO
 have hb1:=HB1.out
 go_wp2_with fail
 refine (cutC HSTO.out cu hcu').mono ?_
 rintro e w4 ⟨rfl,B2,hsto,hc4,hn4⟩
 have HSTO2:=hid hsto
 clear hsto hc4 hn4 HSTO hb1
 go_upto_region 11 with fail
 generalize hW:World.alloc _ _=w5
 obtain ⟨mw,hmw⟩:∃b,b=w4.heap.size:=⟨_,rfl⟩
 obtain ⟨mn,hmn⟩:∃b,b=w4.heap.size+1:=⟨_,rfl⟩
 have HE5:Hid (Ext w4 w5):=hid (by rw [←hW];exact ((Ext.refl w4).alloc _).alloc _)
 have HMW:Hid (w5.heap[mw]?=some (.cells #[.slice none 0 0] 35 (0,0))):=hid (by rw [←hW,hmw,heap_alloc_old _ _ (by simp)];exact heap_alloc_new w4 _)
 have HMN:Hid (w5.heap[mn]?=some (.cells #[.slice none 0 0] 35 (0,0))):=hid (by rw [←hW,hmn];exact zaF w4 _ _)
 rw [←hmn,←hmw]
 have HL0:Hid (HeadI w p d 0 0 mw mn w5):=hid (by
  have hw:=HSTO2.out.ext.size
  refine ⟨[],[],0,0,B2,none,0,0,none,0,0,⟨⟨0,HSTO2.out.next HE5.out,by omega⟩,by intro q hq;simp at hq,.start,⟨by simp,by simp [totG]⟩,by simp⟩,⟨HMW.out,Row.nil _ _ _,by simp,by simp⟩,⟨⟨HMN.out,Row.nil _ _ _,by simp,by simp⟩,⟨⟨?_,fun e=>by have:=HSTO2.out.lt mn e;omega⟩,by simp⟩,⟨by omega,by simp⟩⟩⟩
  obtain ⟨s,S,B0,v,q1,_⟩:=HSTO2.out.at'
  have:=zab q1.box
  omega)
 clear hW hmw hmn HE5 HMW HMN HSTO2
 go_upto_block 0 with fail
 go_cut [10,11] (fun s10 s11 wc=>∃m1 m2:Nat,s10=.pointer (some ⟨m1,0,none⟩)∧s11=.pointer (some ⟨m2,0,none⟩)∧Hid (EndI w d m1 m2 wc))
 case first =>
  go_wp2_with fail
  go_loopw [10,11,12] (fun s10 s11 s12 wr=>∃j m1 m2:Nat,s10=.pointer (some ⟨m1,0,none⟩)∧s11=.pointer (some ⟨m2,0,none⟩)∧s12=.int .i64 (j:Int)∧j≤n∧j≤25∧Hid (HeadI w p d (manyA (P.take j)) j m1 m2 wr)) (fun _ _ z _=>25-(RowKit.intOf z).toNat)
  case atStart=>exact ⟨0,mw,mn,rfl,rfl,rfl,by omega,by omega,hid (show HeadI w p d (manyA (P.take 0)) 0 mw mn w5 from by simpa [manyA] using HL0.out)⟩
  case round =>
   clear HL0
   obtain ⟨j,m1,m2,rfl,rfl,rfl,hj,hj25,HI⟩:=hrel
   by_cases hlt:j<n
   ·by_cases h25:j<25
    ·obtain ⟨G,F,X,cc,B,aw,nw,cw,an,nn,cn,hC,hmw,hmn⟩:=HI.out
     have HC:=hid hC
     have HMN:=hid hmn
     obtain ⟨b,off,q,rfl,hq,d0,d1,d2,d3,d4⟩:=acms_src HS.out hlt
     have c0:=zbX hC.world d0
     have c1:=zbX hC.world d1
     have c2:=zbX hC.world d2
     have c3:=zbX hC.world d3
     have c4:=zbX hC.world d4
     have HQ:=hid (HOK.out q (yag hq))
     have HMA:=hid (manyA_take hq)
     have HML:=hid (manyA_le P (j+1))
     clear hC hmw hmn hq HI d0 d1 d2 d3 d4
     go_upto_region 15 with fail
     generalize hW:World.alloc _ _=v1
     obtain ⟨ab,hab⟩:∃k,k=wr.heap.size:=⟨_,rfl⟩
     rw [←hab]
     have HX1:Hid (Ext wr v1):=hid (by rw [←hW];exact (Ext.refl wr).alloc _)
     have HAB:Hid (v1.heap[ab]?=some (.cells #[.int .i64 q.k,.int .u8 (q.nm:Int),.slice q.pa q.pn q.pc,.int .i64 q.n,.slice q.ka q.kn q.kc] 41 (0,0))):=hid (by rw [←hW,hab];exact heap_alloc_new wr _)
     have HABP:Hid (ab≠p∧ab∉B):=hid (by
      obtain ⟨r,h1,_⟩:=HC.out.sto
      obtain ⟨s,S,B0,v,q1,_⟩:=h1.at'
      exact ⟨fun e=>by have:=zab q1.box;omega,fun e=>by have:=h1.lt ab e;omega⟩)
     clear hW hab c0 c1 c2 c3 c4
     have HMN1:=hid (HMN.out.ext HX1.out)
     have m0:=zaa HMN1.out.mo.box 0
     simp at m0
     have hnn:nn≤25:=by have:=HC.out.len.1;have:=zcO (HMN.out.mo.row.src (zdY _));omega
     obtain ⟨vg,hvg⟩:∃k,k=v1.heap.size:=⟨_,rfl⟩
     have HVG:=hid hvg
     have m1c:=cell?_alloc_some (.cells #[] 48 (0,0)) m0
     have HROW:Hid (Row (v1.alloc (.cells #[] 48 (0,0))) 48 2 (.slice (some ⟨v1.heap.size,0,none⟩) 0 0) 0 []):=hid ⟨rfl,.inr ⟨v1.heap.size,0,#[],rfl,Nat.zero_le _,heap_alloc_new v1 _,by simp,by simp,by simp,by simp⟩⟩
     have HSRC:Hid (Src (v1.alloc (.cells #[] 48 (0,0))) 2 (.slice an nn cn) nn (pams F)):=hid ((HMN1.out.mo.row.src (zdY _)).ext ((Ext.refl v1).alloc _))
     clear m0 hvg
     go_upto_region 17 with (at_builtin;go_must (refine zah (n:=0) (m:=nn) (v:=.slice (some ⟨v1.heap.size,0,none⟩) 0 0) elem_mfl rfl _ _ rfl rfl rfl HROW.out HSRC.out (by unfold maxLen;omega) (by omega) ?_;intro v4 v2 happ);obtain ⟨va,vc,rfl⟩:=happ.row.shape;have HA:=hid happ;clear happ)
     clear m1c HSRC
     generalize hW:World.alloc _ _=v3
     obtain ⟨mk,hmk⟩:∃k,k=v2.heap.size:=⟨_,rfl⟩
     rw [←hmk]
     have hpl:p<v1.heap.size:=by
      obtain ⟨r,h1,_⟩:=HC.out.sto
      obtain ⟨s,S,B0,v,q1,_⟩:=h1.at'
      have:=zab q1.box
      have:=HX1.out.size
      omega
     have hBl:∀b∈B,b<v1.heap.size:=fun b hb=>by
      obtain ⟨r,h1,_⟩:=HC.out.sto
      have:=h1.lt b hb
      have:=HX1.out.size
      omega
     obtain ⟨hcp,hE13,hmk1,hva1⟩:=HMN1.out.copy hBl hpl ((Ext.refl v1).alloc _) (Nat.le_refl _) HA.out hmk.symm (show Ext v2 v3 by rw [←hW];exact (Ext.refl v2).alloc _) (show v3.heap[mk]?=_ by rw [←hW,hmk];exact heap_alloc_new v2 _) (by have:=HC.out.world.size;have:=HX1.out.size;omega) HC.out.pts
     have HNOW:=hid hcp
     have HX3:=hid (HX1.out.trans hE13)
     have HWAS:=hid (HMN.out.ext HX3.out)
     have HC3:=hid (HC.out.ext HX3.out)
     have HAB3:=hid ((hE13.block (zab HAB.out)).trans HAB.out)
     have HDIS:Hid (m2≠mk∧va.map (·.block)≠some m2∧an.map (·.block)≠some mk∧(∀g,an.map (·.block)=some g→va.map (·.block)≠some g)∧ab<v1.heap.size∧v1.heap.size≤mk∧∀g,va.map (·.block)=some g→v1.heap.size≤g):=hid (by
      have h1:=HMN1.out.lt
      refine ⟨by omega,fun e=>by have:=hva1 _ e;omega,fun e=>by have:=h1.2 _ e;omega,fun g hg e=>by have:=h1.2 g hg;have:=hva1 g e;omega,zab HAB.out,hmk1,hva1⟩)
     clear hW hmk hpl hBl hcp hE13 hmk1 hva1 HA HROW HVG HMN1 HAB HMN HC
     have y0:=zaa HAB3.out 0
     have y1:=zaa HAB3.out 1
     have y2:=zaa HAB3.out 2
     simp at y0 y1 y2
     by_cases hk0:q.k=0
     ·rw [hk0] at y0
      go_wp2_with fail
      have hqo:=HQ.out.ext (HC3.out.world)
      refine (refValid_any v3 q.pa q.pn q.pc q.l hqo.src (by have:=hqo.pn;have:=HMA.out;have:=HML.out;have:=HFEW.out;omega)).mono ?_
      rintro e w5 ⟨rfl,hx5⟩
      have HX5:=hid hx5
      clear hx5 hqo
      cases hcv:colV q.l
      ·go_wp2_with fail
       go_roundw
       case rel=>exact ⟨j+1,m2,mk,rfl,rfl,by go_num,by omega,by omega,hid ⟨G,F,X,cc,B,an,nn,cn,va,nn,vc,(HC3.out.ext HX5.out).more (by have:=HMA.out;omega) (by omega),(HWAS.out.ext HX5.out).mo,HNOW.out.ext HX5.out⟩⟩
       case measure=>simp [RowKit.intOf];omega
      ·have HCV:=hid hcv
       have HAB5:=hid ((HX5.out.block (zab HAB3.out)).trans HAB3.out)
       have HFB:∀(Ws:World) (bk:Nat),Ext w5 Ws→Ws.heap[bk]?=some (.cells #[.string (nmL q.nm),.slice q.pa q.pn q.pc] 43 (0,0))→Calls Tryz.prog 11 #[.pointer (some ⟨p,0,none⟩),.slice (some ⟨bk,0,none⟩) 1 1,.int .i64 (j:Int),.int .i64 (j:Int),.agg #[.bool false,.int .i64 0,.int .i64 5]] Ws fun e w'=>(e=.returned (.int .i64 0)∧StepC w p d (j:Int) (G++[(X,[(nmL q.nm,q.l)])]) (X+1) (cc+7) B Ws w')∨(e=.returned (.int .i64 17)∧EndTo w p d G B Ws w'):=by
        intro Ws bk hx hb
        have hCs:=HC3.out.ext (HX5.out.trans hx)
        obtain ⟨r,hst,hrj⟩:=hCs.sto
        have hlen:=hCs.len
        have hsum:=hCs.sum
        have hqo:=HQ.out.ext hCs.world
        have hpn:=hqo.pn
        have h1:=HMA.out
        have h2:=HML.out
        have h3:=HFEW.out
        exact flushC hst j hrj (by omega) (by omega) (by omega) (by omega) (some ⟨bk,0,none⟩) 1 q.part (src_pam hb) hqo.part (nmL_valid _) hcv hqo.v (by show totG G+q.l.length≤600;omega)
       have HFL:=hid HFB
       clear HFB hcv y0 y1 y2
       have z1:=zaa HAB5.out 1
       have z2:=zaa HAB5.out 2
       simp at z1 z2
       have y1:=zaf (T:=fun _=>false) z1 rfl
       have y2:=zaf (T:=fun _=>false) z2 rfl
       clear z1 z2
       go_upto_region 21 with fail
       refine zao 11 (fun w'=>∃z:Turned,w'=turned w5 (fun _=>false) z.d z.f z.os) (.reads [0,1,2,4,5,8,9,10] (.one 3 (.one 6 (.one 7 (.one 11 (.one 12 .done)))))) (by kernel_rfl) (by kernel_rfl) (fun _ _ dd _ _ hh=>by cases dd<;>exact hh) ?_ ?_
       ·exact zad (Ext.drewN w5 1)
       refine zak ?_
       simp only [zac,yab,yaa]
       repeat (go_big_quiet_step (fail))
       refine yaF ?_
       clear y1 y2
       change zaA _ _ _ _ _ _ _ _ (w5.drewN 1)
       have HXd:Hid (Ext w5 (w5.drewN 1)):=hid (Ext.drewN w5 1)
       generalize w5.drewN 1=Wd at HXd ⊢
       refine zae ?_
       simp only [zac,yab,yaa]
       go_wp2_with fail
       refine (zdg Wd q.nm HQ.out.nm).mono ?_
       rintro e w6 ⟨rfl,hx6⟩
       have HX6:=hid (HXd.out.trans hx6)
       clear hx6 HXd
       go_wp2_with fail
       refine zal (zad HX6.out) (zae ?_)
       simp only [zac,yab,yaa]
       go_wp2_with fail
       refine zal (zad HX6.out) (zae ?_)
       simp only [zac,yab,yaa]
       go_wp2_with fail
       generalize hW6:World.alloc _ _=wS
       obtain ⟨bk,hbk⟩:∃k,k=w6.heap.size:=⟨_,rfl⟩
       rw [←hbk]
       have HXS:Hid (Ext w5 wS):=hid (HX6.out.trans (by rw [←hW6];exact (Ext.refl w6).alloc _))
       have HBK:Hid (wS.heap[bk]?=some (.cells #[.string (nmL q.nm),.slice q.pa q.pn q.pc] 43 (0,0))):=hid (by rw [←hW6,hbk];exact heap_alloc_new w6 _)
       clear hW6 hbk HX6
       refine zal (zad HXS.out) (zae ?_)
       simp only [zac,yab,yaa]
       have HCS:=hid (HC3.out.ext (HX5.out.trans HXS.out))
       have HWS:=hid (HWAS.out.ext (HX5.out.trans HXS.out))
       have HNS:=hid (HNOW.out.ext (HX5.out.trans HXS.out))
       have HABS:=hid ((HXS.out.block (zab HAB5.out)).trans HAB5.out)
       have HV1S:Hid (v1.heap.size≤wS.heap.size):=hid (by have:=HDIS.out.2.2.2.2.2.1;have:=HNS.out.lt.1;omega)
       clear HC3 HWAS HNOW HAB3 HAB5 HX3 HX1
       go_wp2_with fail
       refine (HFL.out wS bk HXS.out HBK.out).mono ?_
       rintro e w7 (⟨rfl,hst⟩|⟨rfl,hst⟩)
       ·have HCOM:Hid (∃B7,(∀b∈B7,b∈B∨wS.heap.size≤b)∧Chg (fun b=>b=p∨b∈B) wS w7∧(∀b∈B7,b<w7.heap.size)∧Ext w w7∧StoC w p d (j:Int) (G++[(X,[(nmL q.nm,q.l)])]) (X+1) (cc+7) B7 w7):=hid (by
         obtain ⟨B7,k1,k2,k3⟩:=hst
         exact ⟨B7,k3,k2,k1.lt,k1.ext,k1⟩)
        clear hst
        obtain ⟨B7,hn7,hc7,hl7,hx7,hmore⟩:=HCOM.out
        have HMORE:=hid hmore
        have HXL:=hid hx7
        have hpn0:w.heap.size≤p:=by obtain ⟨r,h1,_⟩:=HCS.out.sto;exact h1.pn
        have hpl7:p<w7.heap.size:=by
         obtain ⟨r,h1,_⟩:=HCS.out.sto
         obtain ⟨s,S,B0,v,q1,_⟩:=h1.at'
         have:=zab q1.box
         have:=hc7.size
         omega
        have hown:∀b∈B,w.heap.size≤b:=by obtain ⟨r,h1,_⟩:=HCS.out.sto;exact h1.own
        have HNL:Hid (MoF w p mk F B7 va nn vc w7∧MoF w p m2 F B7 an nn cn w7):=hid ⟨HNS.out.step HCS.out.pts hpn0 hown hc7 hn7,HWS.out.step HCS.out.pts hpn0 hown hc7 hn7⟩
        have HPB:=hid (And.intro hpl7 hl7)
        have hab7:¬(ab=p∨ab∈B):=by
         have h1:=HDIS.out.2.2.2.2.1
         intro e
         have hb:=zab HABS.out
         rcases e with e|e
         ·exact HABP.out.1 e
         ·exact HABP.out.2 e
        have HAB7:=hid ((hc7.block ab (zab HABS.out) hab7).trans HABS.out)
        have HQ0:Hid (q.part.n≠0→∀g,q.part.a.map (·.block)=some g→g<w.heap.size):=hid (fun hn g hg=>HQ.out.blk hn g hg)
        have habT:ownB va ab=false:=decide_eq_false (fun e=>by have:=HDIS.out.2.2.2.2.2.2 ab e;have:=HDIS.out.2.2.2.2.1;omega)
        have x0:=zaa HNL.out.1.mo.box 0
        have x1:=zaa HAB7.out 1
        have x2:=zaa HAB7.out 2
        simp at x0 x1 x2
        have y0:=zaf (T:=ownB va) x0 (decide_eq_false HNL.out.1.mo.ne)
        have y1:=zaf (T:=ownB va) x1 habT
        have y2:=zaf (T:=ownB va) x2 habT
        clear x0 x1 x2 habT hab7 hown hpn0 hpl7 hn7 hc7 hl7 hx7 hmore HCOM
        go_wp2_with fail
        refine zau (zae ?_)
        simp only [zac,yab,yaa]
        go_wp2_with fail
        refine zau (zav ?_)
        go_upto_region 22 with fail
        refine zao 15 (fun w'=>∃z:Turned,w'=turned w7 (ownB va) z.d z.f z.os) (.reads [0,1,2,3,4,5,6,8,9] (.one 7 (.one 10 (.one 11 (.one 12 (.one 13 (.one 14 (.one 15 .done)))))))) (by kernel_rfl) (by kernel_rfl) (fun _ _ dd _ _ hh=>by cases dd<;>exact hh) ?_ ?_
        ·exact zad (Ext.drewN w7 1)
        refine zak ?_
        simp only [zac,yab,yaa]
        repeat (go_big_quiet_step (fail))
        refine yaF ?_
        clear y0 y1 y2
        change zaA _ _ _ _ _ _ _ _ (w7.drewN 1)
        have HXd:Hid (Ext w7 (w7.drewN 1)):=hid (Ext.drewN w7 1)
        generalize w7.drewN 1=We at HXd ⊢
        refine zae ?_
        simp only [zac,yab,yaa]
        go_wp2_with fail
        refine (zdg We q.nm HQ.out.nm).mono ?_
        rintro e w8 ⟨rfl,hx8⟩
        have HX8:=hid (HXd.out.trans hx8)
        clear hx8 HXd
        go_wp2_with fail
        refine zal (zad HX8.out) (zae ?_)
        simp only [zac,yab,yaa]
        go_wp2_with fail
        refine zal (zad HX8.out) (zae ?_)
        simp only [zac,yab,yaa]
        go_wp2_with fail
        generalize hW9:World.alloc _ _=w9
        obtain ⟨fk,hfk⟩:∃k,k=w8.heap.size:=⟨_,rfl⟩
        rw [←hfk]
        have HX9:Hid (Ext w7 w9):=hid (HX8.out.trans (by rw [←hW9];exact (Ext.refl w8).alloc _))
        have HFK:Hid (w9.heap[fk]?=some (.cells #[.string q.part.nm,.slice q.part.a q.part.n q.part.c] 48 (0,0))):=hid (by rw [←hW9,hfk];exact heap_alloc_new w8 _)
        clear hW9 hfk
        refine zal (zad HX9.out) (zae ?_)
        simp only [zac,yab,yaa]
        have HMO9:=hid (HNL.out.1.mo.ext HX9.out)
        obtain ⟨mn',hmn'⟩:∃k,k=nn+1:=⟨_,rfl⟩
        have HME:=hid hmn'
        clear hmn'
        go_wp2_with (at_builtin;go_must (refine zah (n:=nn) (m:=1) (v:=.slice va nn vc) elem_mfl rfl _ _ rfl rfl rfl HMO9.out.row (src_pam (q:=q.part) HFK.out) (by unfold maxLen;omega) (by omega) ?_;rw [←HME.out];intro v4 w10 happ);obtain ⟨va',vc',rfl⟩:=happ.row.shape;have HA:=hid happ;clear happ)
        have HMB:Hid (w10.heap[mk]?=some (.cells #[.slice va nn vc] 35 (0,0))):=hid ((HA.out.chg.block mk (zab HMO9.out.box) (fun e=>HMO9.out.ne (by rw [zar] at e;exact e))).trans HMO9.out.box)
        have HCH:Hid (Chg (fun k=>ownB va k=true) w7 w10):=hid ((Chg.of_ext (S:=fun k=>ownB va k=true) HX9.out).trans (HA.out.chg.mono (fun i _ e=>by rw [zar] at e;exact decide_eq_true e)) (fun _ _ e=>e))
        refine zal (zas HCH.out) (zae ?_)
        simp only [zac,yab,yaa]
        go_wp2_with fail
        refine zal (zas HCH.out) (zae ?_)
        simp only [zac,yab,yaa]
        go_wp2_with fail
        refine zal (zas HCH.out) (zae ?_)
        simp only [zac,yab,yaa]
        go_wp2_with (refine zap rfl _ _ _ rfl mk 0 _ #[.slice va' mn' vc'] _ _ rfl rfl rfl rfl HMB.out (by simp) rfl mfl_slice_info ?_;rintro w11 hbV hcV _he;have HBV:=hid hbV;have HCV2:=hid hcV;clear hbV hcV _he)
        refine zau (zav ?_)
        obtain ⟨hnf,hct⟩:MoF w p mk (F++[q.part]) B7 va' mn' vc' w11∧Chg (fun b=>b=mk∨va.map (·.block)=some b) w7 w11:=by
         have hqo:=HQ.out.ext HXL.out
         have ha:=HA.out
         have hb:=HBV.out
         rw [HME.out] at ha hb ⊢
         exact HNL.out.1.put HCS.out.pts HPB.out.1 HPB.out.2 HX9.out HXL.out.size hqo.part (by have:=hqo.pn;have:=HMA.out;have:=HML.out;have:=HFEW.out;show q.pn<_;omega) HQ0.out ha HCV2.out hb
        have HNF:=hid hnf
        have HCT:=hid hct
        clear hnf hct
        clear HFL HBK
        go_wp2_with fail
        go_roundw
        case rel =>
         refine ⟨j+1,mk,mk,rfl,rfl,by go_num,by omega,by omega,hid ?_⟩
         have hlen:=HCS.out.len
         have hsum:=HCS.out.sum
         have hqo:=HQ.out.ext HXL.out
         have hpn:=hqo.pn
         have h1:=HMA.out
         have h2:=HML.out
         have h3:=HFEW.out
         have hM:=HCS.out.mod.add (by obtain ⟨r,h1,_⟩:=HCS.out.sto;exact h1.okG') X (q:=q.part) HCV.out (by omega) (by show _+q.l.length≤600;omega)
         have hsto:StoC w p d (j:Int) (G++[(X,[(nmL q.nm,q.l)])]) (X+1) (cc+7) B7 w11:=HMORE.out.beside HCT.out (fun e=>e.elim (fun e=>HNL.out.1.off.box.1 e.symm) (fun e=>(HNL.out.1.off.row p e).1 rfl)) (fun b hb e=>e.elim (fun e=>HNL.out.1.off.box.2 (e▸hb)) (fun e=>(HNL.out.1.off.row b e).2 hb)) (fun b e=>e.elim (fun e=>by have:=HNL.out.1.new.1;omega) (fun e=>HNL.out.1.new.2 b e))
         refine ⟨G++[(X,[(nmL q.nm,q.l)])],F++[q.part],X+1,cc+7,B7,va',mn',vc',va',mn',vc',⟨⟨_,hsto,by omega⟩,HCS.out.pts.put HQ0.out,hM,⟨?_,?_⟩,⟨by simp;omega,by simp;omega,by omega,by omega⟩⟩,HNF.out.mo,HNF.out⟩
         ·rw [yav,List.sum_append]
          show _+[q.l.length].sum≤_
          simp;omega
         ·rw [totG_snoc]
          show _+manyP [(nmL q.nm,q.l)]≤_
          simp [manyP];omega
        case measure=>simp [RowKit.intOf];omega
       ·have HCOM:Hid (∃B7,(∀b∈B7,b∈B∨wS.heap.size≤b)∧Chg (fun b=>b=p∨b∈B) wS w7∧(∀b∈B7,b<w7.heap.size)∧Ext w w7∧∃s S c,zbj w7 d S B7∧CrK S s G c∧c≤500000):=hid (by
         obtain ⟨B7,s,S,c,h1,h2,h3,h4,h5,h6⟩:=hst
         exact ⟨B7,h5,h4,h1.lt,h6,s,S,c,h1,h2,h3⟩)
        clear hst
        obtain ⟨B7,hn7,hc7,hl7,hx7,hmore⟩:=HCOM.out
        have HMORE:=hid hmore
        have HXL:=hid hx7
        have hpn0:w.heap.size≤p:=by obtain ⟨r,h1,_⟩:=HCS.out.sto;exact h1.pn
        have hpl7:p<w7.heap.size:=by
         obtain ⟨r,h1,_⟩:=HCS.out.sto
         obtain ⟨s,S,B0,v,q1,_⟩:=h1.at'
         have:=zab q1.box
         have:=hc7.size
         omega
        have hown:∀b∈B,w.heap.size≤b:=by obtain ⟨r,h1,_⟩:=HCS.out.sto;exact h1.own
        have HNL:Hid (MoF w p mk F B7 va nn vc w7∧MoF w p m2 F B7 an nn cn w7):=hid ⟨HNS.out.step HCS.out.pts hpn0 hown hc7 hn7,HWS.out.step HCS.out.pts hpn0 hown hc7 hn7⟩
        have HPB:=hid (And.intro hpl7 hl7)
        have hab7:¬(ab=p∨ab∈B):=by
         have h1:=HDIS.out.2.2.2.2.1
         intro e
         have hb:=zab HABS.out
         rcases e with e|e
         ·exact HABP.out.1 e
         ·exact HABP.out.2 e
        have HAB7:=hid ((hc7.block ab (zab HABS.out) hab7).trans HABS.out)
        have HQ0:Hid (q.part.n≠0→∀g,q.part.a.map (·.block)=some g→g<w.heap.size):=hid (fun hn g hg=>HQ.out.blk hn g hg)
        have habT:ownB va ab=false:=decide_eq_false (fun e=>by have:=HDIS.out.2.2.2.2.2.2 ab e;have:=HDIS.out.2.2.2.2.1;omega)
        have x0:=zaa HNL.out.1.mo.box 0
        have x1:=zaa HAB7.out 1
        have x2:=zaa HAB7.out 2
        simp at x0 x1 x2
        have y0:=zaf (T:=ownB va) x0 (decide_eq_false HNL.out.1.mo.ne)
        have y1:=zaf (T:=ownB va) x1 habT
        have y2:=zaf (T:=ownB va) x2 habT
        clear x0 x1 x2 habT hab7 hown hpn0 hpl7 hn7 hc7 hl7 hx7 hmore HCOM
        go_wp2_with fail
        refine zau (zae ?_)
        simp only [zac,yab,yaa]
        go_wp2_with fail
        refine zau (zav ?_)
        go_upto_region 22 with fail
        refine zao 15 (fun w'=>∃z:Turned,w'=turned w7 (ownB va) z.d z.f z.os) (.reads [0,1,2,3,4,5,6,8,9] (.one 7 (.one 10 (.one 11 (.one 12 (.one 13 (.one 14 (.one 15 .done)))))))) (by kernel_rfl) (by kernel_rfl) (fun _ _ dd _ _ hh=>by cases dd<;>exact hh) ?_ ?_
        ·exact zad (Ext.drewN w7 1)
        refine zak ?_
        simp only [zac,yab,yaa]
        repeat (go_big_quiet_step (fail))
        refine yaF ?_
        clear y0 y1 y2
        change zaA _ _ _ _ _ _ _ _ (w7.drewN 1)
        have HXd:Hid (Ext w7 (w7.drewN 1)):=hid (Ext.drewN w7 1)
        generalize w7.drewN 1=We at HXd ⊢
        refine zae ?_
        simp only [zac,yab,yaa]
        go_wp2_with fail
        refine (zdg We q.nm HQ.out.nm).mono ?_
        rintro e w8 ⟨rfl,hx8⟩
        have HX8:=hid (HXd.out.trans hx8)
        clear hx8 HXd
        go_wp2_with fail
        refine zal (zad HX8.out) (zae ?_)
        simp only [zac,yab,yaa]
        go_wp2_with fail
        refine zal (zad HX8.out) (zae ?_)
        simp only [zac,yab,yaa]
        go_wp2_with fail
        generalize hW9:World.alloc _ _=w9
        obtain ⟨fk,hfk⟩:∃k,k=w8.heap.size:=⟨_,rfl⟩
        rw [←hfk]
        have HX9:Hid (Ext w7 w9):=hid (HX8.out.trans (by rw [←hW9];exact (Ext.refl w8).alloc _))
        have HFK:Hid (w9.heap[fk]?=some (.cells #[.string q.part.nm,.slice q.part.a q.part.n q.part.c] 48 (0,0))):=hid (by rw [←hW9,hfk];exact heap_alloc_new w8 _)
        clear hW9 hfk
        refine zal (zad HX9.out) (zae ?_)
        simp only [zac,yab,yaa]
        have HMO9:=hid (HNL.out.1.mo.ext HX9.out)
        obtain ⟨mn',hmn'⟩:∃k,k=nn+1:=⟨_,rfl⟩
        have HME:=hid hmn'
        clear hmn'
        go_wp2_with (at_builtin;go_must (refine zah (n:=nn) (m:=1) (v:=.slice va nn vc) elem_mfl rfl _ _ rfl rfl rfl HMO9.out.row (src_pam (q:=q.part) HFK.out) (by unfold maxLen;omega) (by omega) ?_;rw [←HME.out];intro v4 w10 happ);obtain ⟨va',vc',rfl⟩:=happ.row.shape;have HA:=hid happ;clear happ)
        have HMB:Hid (w10.heap[mk]?=some (.cells #[.slice va nn vc] 35 (0,0))):=hid ((HA.out.chg.block mk (zab HMO9.out.box) (fun e=>HMO9.out.ne (by rw [zar] at e;exact e))).trans HMO9.out.box)
        have HCH:Hid (Chg (fun k=>ownB va k=true) w7 w10):=hid ((Chg.of_ext (S:=fun k=>ownB va k=true) HX9.out).trans (HA.out.chg.mono (fun i _ e=>by rw [zar] at e;exact decide_eq_true e)) (fun _ _ e=>e))
        refine zal (zas HCH.out) (zae ?_)
        simp only [zac,yab,yaa]
        go_wp2_with fail
        refine zal (zas HCH.out) (zae ?_)
        simp only [zac,yab,yaa]
        go_wp2_with fail
        refine zal (zas HCH.out) (zae ?_)
        simp only [zac,yab,yaa]
        go_wp2_with (refine zap rfl _ _ _ rfl mk 0 _ #[.slice va' mn' vc'] _ _ rfl rfl rfl rfl HMB.out (by simp) rfl mfl_slice_info ?_;rintro w11 hbV hcV _he;have HBV:=hid hbV;have HCV2:=hid hcV;clear hbV hcV _he)
        refine zau (zav ?_)
        obtain ⟨hnf,hct⟩:MoF w p mk (F++[q.part]) B7 va' mn' vc' w11∧Chg (fun b=>b=mk∨va.map (·.block)=some b) w7 w11:=by
         have hqo:=HQ.out.ext HXL.out
         have ha:=HA.out
         have hb:=HBV.out
         rw [HME.out] at ha hb ⊢
         exact HNL.out.1.put HCS.out.pts HPB.out.1 HPB.out.2 HX9.out HXL.out.size hqo.part (by have:=hqo.pn;have:=HMA.out;have:=HML.out;have:=HFEW.out;show q.pn<_;omega) HQ0.out ha HCV2.out hb
        have HNF:=hid hnf
        have HCT:=hid hct
        clear hnf hct
        clear HFL HBK
        have HEND:Hid (EndI w d m2 mk w11):=hid (by
         obtain ⟨s,S,c,g1,g2,g3⟩:=HMORE.out
         have hlen:=HCS.out.len
         have hsum:=HCS.out.sum
         have hqo:=HQ.out.ext HXL.out
         have hpn:=hqo.pn
         have h1:=HMA.out
         have h2:=HML.out
         have h3:=HFEW.out
         refine ⟨G,c,B7,s,S,F,F++[q.part],an,nn,cn,va',mn',vc',g1.chg HCT.out (fun b hb e=>e.elim (fun e=>HNL.out.1.off.box.2 (e▸hb)) (fun e=>(HNL.out.1.off.row b e).2 hb)),g2,g3,?_,HNF.out.mo,HCS.out.mod.f,⟨fun x hx=>?_,by simp;omega,?_⟩,.inl HCS.out.mod,?_⟩
         ·refine (HNL.out.2.beside HCS.out.pts HCT.out (fun e=>e.elim (fun e=>HDIS.out.1 e) (fun e=>HDIS.out.2.1 e)) (fun g hg e=>e.elim (fun e=>HDIS.out.2.2.1 (by rw [←e];exact hg)) (fun e=>HDIS.out.2.2.2.1 g hg e)) (fun b e=>e.elim (fun e=>by have:=HNL.out.1.new.1;omega) (fun e=>HNL.out.1.new.2 b e))).mo
         ·rcases yah.1 hx with hx|hx
          ·exact HCS.out.mod.col x hx
          ·rw [yal.1 hx];exact HCV.out
         ·rw [yav,List.sum_append]
          show _+[q.l.length].sum≤_
          simp;omega
         ·exact ((Chg.of_ext (S:=fun b=>b=mk∨va.map (·.block)=some b) HXL.out).trans HCT.out (fun _ _ e=>e)).ext (fun i hi e=>e.elim (fun e=>by have:=HNL.out.1.new.1;omega) (fun e=>by have:=HNL.out.1.new.2 i e;omega)))
        go_wp2_with fail
        go_meet
        exact ⟨m2,mk,rfl,rfl,HEND⟩
     ·have hk0':(q.k==0)=false:=yam.2 hk0
      by_cases hk1:q.k=1
      ·rw [hk1] at y0
       clear hk0'
       obtain ⟨r,hst,hrj⟩:=HC3.out.sto
       have HST:=hid hst
       have hlen:=HC3.out.len
       clear hst
       by_cases hG2:G.length<2
       ·go_wp2_with fail
        refine (compactC_few HST.out hG2).mono ?_
        rintro e w6 ⟨rfl,rfl⟩
        go_wp2_with fail
        go_roundw
        case rel=>exact ⟨j+1,mk,mk,rfl,rfl,by go_num,by omega,by omega,hid ⟨G,F,X,cc,B,va,nn,vc,va,nn,vc,HC3.out.more (by have:=HMA.out;omega) (by omega),HNOW.out.mo,HNOW.out⟩⟩
        case measure=>simp [RowKit.intOf];omega
       ·have HCO:=hid (compactC HST.out (by omega) (by omega) (by omega))
        go_wp2_with fail
        refine HCO.out.mono ?_
        rintro e w6 ⟨Q,hQ,⟨rfl,hs⟩|⟨rfl,hs⟩⟩
        ·have HNEW:Hid (HeadI w p d (manyA (P.take (j+1))) (j+1) mk mk w6):=hid (by
          obtain ⟨B7,k1,k2,k3⟩:=hs
          have hsum:=HC3.out.sum
          have h1:=HMA.out
          have hm:=hQ.many
          have hn7:=HNOW.out.step HC3.out.pts HST.out.pn HST.out.own k2 k3
          exact ⟨[(X,Q)],F,X+1,cc+1031,B7,va,nn,vc,va,nn,vc,⟨⟨r,k1,by omega⟩,HC3.out.pts,HC3.out.mod.compact HST.out.okG' hQ X,⟨by omega,by simp [totG];omega⟩,⟨by omega,by simp,by omega,by omega⟩⟩,hn7.mo,hn7⟩)
         clear hs hQ HCO HST
         go_wp2_with fail
         go_roundw
         case rel=>exact ⟨j+1,mk,mk,rfl,rfl,by go_num,by omega,by omega,HNEW⟩
         case measure=>simp [RowKit.intOf];omega
        ·have HEND:Hid (EndI w d m2 mk w6):=hid (by
          have hfin:∀G',EndTo w p d G' B v3 w6→ModI G' F→EndI w d m2 mk w6:=fun G' he hM=>by
           obtain ⟨B7,s,S,c,h1,h2,h3,h4,h5,h6⟩:=he
           exact ⟨G',c,B7,s,S,F,F,an,nn,cn,va,nn,vc,h1,h2,h3,(HWAS.out.step HC3.out.pts HST.out.pn HST.out.own h4 h5).mo,(HNOW.out.step HC3.out.pts HST.out.pn HST.out.own h4 h5).mo,hM.f,hM.f,.inl hM,h6⟩
          rcases hs with he|he
          ·exact hfin _ he HC3.out.mod
          ·exact hfin _ he (HC3.out.mod.compact HST.out.okG' hQ X))
         clear hs hQ HCO HST
         go_wp2_with fail
         go_meet
         exact ⟨m2,mk,rfl,rfl,HEND⟩
      ·have hk1':(q.k==1)=false:=yam.2 hk1
       go_wp2_with fail
       go_roundw
       case rel=>exact ⟨j+1,m2,mk,rfl,rfl,by go_num,by omega,by omega,hid ⟨G,F,X,cc,B,an,nn,cn,va,nn,vc,HC3.out.more (by have:=HMA.out;omega) (by omega),HWAS.out.mo,HNOW.out⟩⟩
       case measure=>simp [RowKit.intOf];omega
    ·obtain rfl:j=25:=by omega
     obtain ⟨G,F,X,cc,B,aw,nw,cw,an,nn,cn,hC,hmw,hmn⟩:=HI.out
     have HE:Hid (EndI w d m1 m2 wr):=hid (hC.fin (by omega) hmw hmn.mo)
     clear hC hmw hmn HI
     go_wp2_with fail
     go_meet
     exact ⟨m1,m2,rfl,rfl,HE⟩
   ·obtain rfl:j=n:=by omega
    obtain ⟨G,F,X,cc,B,aw,nw,cw,an,nn,cn,hC,hmw,hmn⟩:=HI.out
    have HE:Hid (EndI w d m1 m2 wr):=hid (hC.fin (by omega) hmw hmn.mo)
    clear hC hmw hmn HI
    go_wp2_with fail
    go_meet
    exact ⟨m1,m2,rfl,rfl,HE⟩
 case rest =>
  obtain ⟨m1,m2,rfl,rfl,HE⟩:=hcut
  obtain ⟨G,cc,B,s,S,Fw,Fn,aw,nw,cw,an,nn,cn,hd,hcr,hcc,hw,hn',hfw,hfn,hor,hx⟩:=HE.out
  have HCRA:=hid (disk_crash hcr.inv.ok hd a3 n3 c3 kp (HK3.out.ext hx) hn3)
  have hF:=(hcr.crash kp).found (by show (-1:Int)<0;decide)
  have HINV:=hid (hcr.crash kp).inv
  have HFO:=hid hF
  have HMW:=hid hw
  have HMN:=hid hn'
  have HFW:=hid hfw
  have HFN:=hid hfn
  have HOR:=hid hor
  have HXC:=hid hx
  obtain ⟨SC,hSC⟩:∃SC,SC=S.crash kp:=⟨_,rfl⟩
  rw [←hSC] at HCRA HINV HFO hF
  clear HE hd hcr hcc hw hn' hfw hfn hor hx hSC HL0
  go_wp2_with fail
  refine HCRA.out.mono ?_
  rintro e w6 ⟨dn,B6,rfl,hd6,hx6,hn6'⟩
  have HOP:=hid (open_found hd6 HINV.out HFO.out (HG.out.ext (HXC.out.trans hx6)))
  have HX6:=hid hx6
  have HN6:=hid hn6'
  clear hd6 hx6 hn6' HCRA
  go_wp2_with fail
  refine HOP.out.mono ?_
  rintro e w7 ⟨p2,rfl,v,B7,hsa,hvn,hc7,hn7,hp2⟩
  have HSA7:=hid hsa
  have HX7:Hid (Ext wc w7):=hid (((Chg.of_ext (S:=(·∈B6)) HX6.out).trans hc7 (fun _ _ e=>e)).ext (fun i hi e=>by have:=HN6.out i e;omega))
  have hkl:=hsa.lens
  clear hsa hvn hc7 hn7 hp2 HOP HX6 HN6
  go_upto_region 34 with fail
  generalize hW:World.alloc _ _=w8
  obtain ⟨sb,hsb⟩:∃q,q=w7.heap.size:=⟨_,rfl⟩
  rw [←hsb]
  have HX8:Hid (Ext w7 w8):=hid (by rw [←hW];exact (Ext.refl w7).alloc _)
  have HSB:Hid (w8.heap[sb]?=some (.cells #[.int .i64 (-4611686018427387904),.int .i64 4611686018427387904] 61 (0,0))):=hid (by rw [←hW,hsb];exact heap_alloc_new w7 _)
  clear hW hsb
  have HXZ:=hid ((HXC.out.trans HX7.out).trans HX8.out)
  have HSA:=hid (HSA7.out.ext HX8.out)
  have HM1:=hid (HMW.out.ext (HX7.out.trans HX8.out))
  have HM2:=hid (HMN.out.ext (HX7.out.trans HX8.out))
  have HGE:=hid (HG.out.ext HXZ.out)
  obtain ⟨k,hk⟩:∃k,k=s.fl.length:=⟨_,rfl⟩
  have HK:=hid hk
  have hk30:v.fn≤30∧v.tn≤30:=by have h1:=hF.fl;rw [h1.2.1] at hkl;have:=hkl.2;simp at this;omega
  have hkv:v.fn=k:=by omega
  have hG:OkG G:=hF.okG
  have HOKG:=hid hG
  clear HX7 HX8 HSA7 HMW HMN hG hkl hk
  have z0:=zaa HSB.out 0
  have z1:=zaa HSB.out 1
  simp at z0 z1
  go_wp2_with fail
  clear z0 z1
  refine (lawLike_any HFO.out.inv.ok HSA.out HM1.out HFW.out.rises _ _ (fun i=>holdG G (nmL i)) (fun i _=>⟨HFO.out.hold _,HFO.out.few _,HFW.out.few2 _⟩) HGE.out).mono ?_
  rintro e w9 ⟨b1,rfl,hb1,hx9⟩
  have HX9:=hid hx9
  have HB1':=hid hb1
  clear hx9 hb1
  cases b1
  ·have hMn:ModI G Fn:=by
    rcases HOR.out with h|h
    ·have:=HB1'.out (fun i _=>same_of HOKG.out h _ _ i)
     cases this
    ·exact h
   have HMD:=hid hMn
   clear hMn HB1'
   have HSB9:=hid ((HX9.out.block (zab HSB.out)).trans HSB.out)
   have z0:=zaa HSB9.out 0
   have z1:=zaa HSB9.out 1
   simp at z0 z1
   go_wp2_with fail
   clear z0 z1
   refine (lawLike_any HFO.out.inv.ok (HSA.out.ext HX9.out) (HM2.out.ext HX9.out) HFN.out.rises _ _ (fun i=>holdG G (nmL i)) (fun i _=>⟨HFO.out.hold _,HFO.out.few _,HFN.out.few2 _⟩) (HGE.out.ext HX9.out)).mono ?_
   rintro e wa ⟨b2,rfl,hb2,hxa⟩
   obtain rfl:b2=true:=hb2 (fun i _=>same_of HOKG.out HMD.out _ _ i)
   have HXA:=hid (HX9.out.trans hxa)
   clear hb2 hxa
   have HLS:=hid (disk_list HFO.out.inv.ok (HSA.out.ext HXA.out).disk fS)
   go_wp2_with fail
   refine HLS.out.mono ?_
   rintro e wl ⟨vl,rfl,hsl⟩
   obtain ⟨la,lc,rfl⟩:=hsl.row.shape
   rw [hF.list,←HK.out]
   have HXl:=hid (HXA.out.trans hsl.ext)
   clear hsl
   go_wp2_with fail
   refine (stoState_any (HSA.out.ext HXl.out) (by omega) (by omega)).mono ?_
   rintro e wm ⟨u,hu1,hu2,rfl,hu⟩
   obtain ⟨ufa,ufn,ufc,uta,utn,utc⟩:=u
   simp only at hu1 hu2
   have hfk:ufn=k:=by omega
   subst hfk
   have HXm:=hid (HXl.out.trans hu.ext)
   clear hu hu1 hu2
   obtain ⟨sx,sr,sq,⟨smb,smt,smg⟩,sfl,sti⟩:=s
   have hfd:=field_files sx sr sq smb smt smg ufa ufn ufc uta utn utc
   clear hF
   go_wp2_with fail
   go_ret
   exact ⟨rfl,HXZ.out.trans HXm.out⟩
  ·have HXA:=HX9
   have HLS:=hid (disk_list HFO.out.inv.ok (HSA.out.ext HXA.out).disk fS)
   go_wp2_with fail
   refine HLS.out.mono ?_
   rintro e wl ⟨vl,rfl,hsl⟩
   obtain ⟨la,lc,rfl⟩:=hsl.row.shape
   rw [hF.list,←HK.out]
   have HXl:=hid (HXA.out.trans hsl.ext)
   clear hsl
   go_wp2_with fail
   refine (stoState_any (HSA.out.ext HXl.out) (by omega) (by omega)).mono ?_
   rintro e wm ⟨u,hu1,hu2,rfl,hu⟩
   obtain ⟨ufa,ufn,ufc,uta,utn,utc⟩:=u
   simp only at hu1 hu2
   have hfk:ufn=k:=by omega
   subst hfk
   have HXm:=hid (HXl.out.trans hu.ext)
   clear hu hu1 hu2
   obtain ⟨sx,sr,sq,⟨smb,smt,smg⟩,sfl,sti⟩:=s
   have hfd:=field_files sx sr sq smb smt smg ufa ufn ufc uta utn utc
   clear hF
   go_wp2_with fail
   go_ret
   exact ⟨rfl,HXZ.out.trans HXm.out⟩
end
end Go.Proofs.YtlmfhjipbjkcbaaGreatDoor
