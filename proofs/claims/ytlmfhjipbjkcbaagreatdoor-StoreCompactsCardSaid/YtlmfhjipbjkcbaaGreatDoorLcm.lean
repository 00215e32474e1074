/- x -/
import Derived.Test.YtlmfhjipbjkcbaaGreatDoorLwc
import Derived.Test.YtlmfhjipbjkcbaaGreatDoorSrc
import Derived.Test.YtlmfhjipbjkcbaaGreatDoorDiskC0
import Derived.Test.YtlmfhjipbjkcbaaGreatDoorSta
import Derived.Test.YtlmfhjipbjkcbaaGreatDoorSvx
import Derived.Test.YtlmfhjipbjkcbaaGreatDoorBes
set_option maxHeartbeats 16000000
set_option maxRecDepth 100000
set_option linter.unusedSimpArgs false
set_option linter.unusedVariables false
namespace Go.Proofs.YtlmfhjipbjkcbaaGreatDoor
open Go.RowKit Go.Sort Go.Lib
def HoldS (S:DiskS) (fl:List Fl) (LS:List (List SegI)):Prop:=LS.length=fl.length∧∀(k:Nat) (F:Fl) (L:List SegI),fl[k]?=some F→LS[k]?=some L→OnDisk S F L
def zbc (LS:List (List SegI)):List ByteArray:=compS (sortS (LS.flatMap zay))
theorem StrsTo.app {w w1 w2 w3:World}{L K:List ByteArray}{v v':Value}{n:Nat}(h:StrsTo w L v w1) (hx:Ext w1 w2) (ha:Appended w2 9 1 v n (strs L++strs K) v' w3) (hn:n=L.length+K.length):StrsTo w (L++K) v' w3:=by
 subst hn
 refine ⟨?_,fun g hg=>?_,Chg.ext ((Chg.of_ext (h.ext.trans hx)).trans ha.chg (fun _ _ e=>e)) (fun i hi e=>by have:=h.own i e;omega)⟩
 ·have:=ha.row
  rw [show strs (L++K)=strs L++strs K by simp [strs],List.length_append]
  exact this
 ·rcases ha.loc with e|e
  ·rw [e] at hg;exact h.own g hg
  ·rw [e] at hg;have:=h.ext.size;have:=hx.size;simp at hg;omega
theorem stoNames_any {w:World}{p d:Nat}{s:Sta}{S:DiskS}{B:List Nat}{v:StoV}(ok:S.Ok) (h:StoAt w p d s S B v) (LS:List (List SegI)) (hH:HoldS S s.fl LS) (hN:v.fn≤4000) (hg:HasET w) :
 Calls Tryz.prog 83 #[.pointer (some ⟨p,0,none⟩)] w fun e w'=>∃u,e=.returned (.tuple #[u,.int .i64 0])∧StrsTo w (zbc LS) u w':=by
 obtain ⟨fa,fn,fc,ta,tn,tc⟩:=v
 simp only at hN
 have HH:=hid h
 have HG:=hid hg
 have HHP:=hid hH
 have HOK:=hid ok
 have hfl:s.fl.length=fn:=zbo h.st.fl
 have hHl:LS.length=fn:=by rw [hH.1,hfl]
 have HHL:=hid hHl
 have HFS:Hid (Src w 4 (.slice fa fn fc) fn (fls s.fl)):=hid h.st.fl
 have c7:w.cell? ⟨p,7,none⟩=some (.slice fa fn fc):=by have:=zaa h.box 7;simpa using this
 clear h hg hH ok hfl hHl
 go_enter Tryz.func83,Tryz.ntmps83
 go_wp2_with fail
 refine (zbX HH.out).mono ?_
 rintro e w1 ⟨rfl,rfl⟩
 go_wp2_with fail
 clear c7
 go_loopw [4,17] (fun s4 s17 wr=>∃(k vn vc:Nat) (va:Option Addr),s4=.slice va vn vc∧s17=.int .i64 (k:Int)∧k≤fn∧vn≤k*1024∧Hid (∃K,K=(LS.take k).flatMap zay∧vn=K.length∧StrsTo w K (.slice va vn vc) wr)) (fun _ z _=>fn-(RowKit.intOf z).toNat)
 case atStart=>exact ⟨0,0,0,none,rfl,rfl,by omega,by omega,hid ⟨[],rfl,rfl,Row.nil _ _ _,fun g hg=>by simp [Value.ownBlock] at hg,Ext.refl _⟩⟩
 case round =>
  obtain ⟨k,vn,vc,va,rfl,rfl,hk,hvk,HI⟩:=hrel
  obtain ⟨K,hK,hKn,hst⟩:=HI.out
  have HKK:=hid (And.intro hK hKn)
  have HST:=hid hst
  clear HI hK hKn hst
  by_cases hlt:k<fn
  ·obtain ⟨fb,fo,F,rfl,hF,f0,f1,f2,f3⟩:=fls_src (HFS.out.ext HST.out.ext) hlt
   obtain ⟨L,hL⟩:∃L,LS[k]?=some L:=⟨_,List.getElem?_eq_getElem (by have:=HHL.out;omega)⟩
   have HOD:=hid (HHP.out.2 k F L hF hL)
   have HTK:Hid ((LS.take (k+1)).flatMap zay=(LS.take k).flatMap zay++zay L):=hid (by rw [List.take_add_one,hL];simp)
   have hL1:L.length≤1024:=HOD.out.ok.len
   have HL1:=hid hL1
   have HNL:Hid ((zay L).length≤1024):=hid (by rw [zbl];exact hL1)
   obtain ⟨fnm,ga,gb,gk⟩:=F
   simp only at f0 f1 f2 f3
   clear hF hL hL1
   go_upto_region 7 with fail
   generalize hW:World.alloc _ _=W
   obtain ⟨bx,hbx⟩:∃bx,bx=wr.heap.size:=⟨_,rfl⟩
   have HXW:Hid (Ext wr W):=hid (by rw [←hW];exact (Ext.refl wr).alloc _)
   have HB:Hid (W.heap[bx]?=some (.cells #[.string fnm,.int .i64 ga,.int .i64 gb,.int .i64 gk] 110 (0,0))):=hid (by rw [←hW,hbx];exact heap_alloc_new wr _)
   rw [←hbx]
   clear hW hbx f0 f1 f2 f3
   go_wp2_with (refine zat rfl _ _ rfl _ _ _ _ _ rfl HB.out Tryz.underlying110 rfl zcQ ?_)
   refine (stoRead_any HOK.out (HH.out.ext (HST.out.ext.trans HXW.out)) ⟨fnm,ga,gb,gk⟩ L HOD.out (HG.out.ext (HST.out.ext.trans HXW.out))).mono ?_
   rintro e w2 ⟨q,rfl,hsg,hx2⟩
   have HSG:=hid hsg
   have HX2:=hid (HXW.out.trans hx2)
   clear hsg hx2
   go_wp2_with fail
   refine (segNamesOf_any HSG.out HL1.out).mono ?_
   rintro e w3 ⟨v3,rfl,hns⟩
   obtain ⟨m,hm⟩:∃m,m=(zay L).length:=⟨_,rfl⟩
   have hrow:=hns.row
   rw [←hm] at hrow
   obtain ⟨a3,c3,rfl⟩:=hrow.shape
   have HNS:=hid hns
   have HROW:=hid hrow
   have HM:=hid hm
   have hm1:m≤1024:=by rw [hm];exact HNL.out
   have HX3:=hid (HX2.out.trans hns.ext)
   clear hns hrow hm
   have HR0:Hid (Row w3 9 1 (.slice va vn vc) vn (strs K)):=hid (by have h:=HST.out.row;rw [←HKK.out.2] at h;exact h.ext HX3.out)
   go_wp2_with (at_builtin;go_must (refine zah (n:=vn) (m:=m) (v:=.slice _ _ _) elem_str rfl _ _ rfl rfl rfl HR0.out (HROW.out.src (strs_one _)) (by unfold maxLen;omega) (by omega) ?_;intro v4 w4 happ);obtain ⟨vb,vd,rfl⟩:=happ.row.shape;have HA4:=hid happ;clear happ)
   have HS4:=hid (HST.out.app HX3.out HA4.out (by rw [←HKK.out.2,←HM.out]))
   go_roundw
   case rel =>
    refine ⟨k+1,vn+m,vd,vb,rfl,by go_num,by omega,by omega,hid ⟨K++zay L,by rw [HTK.out,←HKK.out.1],?_,HS4.out⟩⟩
    rw [List.length_append,←HKK.out.2,←HM.out]
   case measure=>simp [RowKit.intOf];omega
  ·obtain rfl:k=fn:=by omega
   have HKA:Hid (K=LS.flatMap zay):=hid (by have h:=HKK.out.1;rw [List.take_of_length_le (by rw [HHL.out];exact Nat.le_refl _)] at h;exact h)
   have HR0:Hid (Row wr 9 1 (.slice va vn vc) vn (strs K)):=hid (by have h:=HST.out.row;rw [←HKK.out.2] at h;exact h)
   go_wp2_with fail
   refine (sort_any HR0.out (by omega)).mono ?_
   rintro e w2 ⟨rfl,hrow,hc⟩
   have HR2:=hid hrow
   have HC2:=hid hc
   clear hrow hc
   go_wp2_with fail
   refine (compact_any HR2.out (by omega)).mono ?_
   rintro e w3 ⟨u,rfl,hrow,hc,hob⟩
   have HX:Hid (Ext w w3):=hid ((((Chg.of_ext (S:=fun k=>(Value.slice va vn vc).ownBlock=some k) HST.out.ext).trans HC2.out (fun _ _ e=>e)).trans hc (fun _ _ e=>e)).ext (fun i hi e=>by have:=HST.out.own i e;omega))
   have HR3:=hid hrow
   have HOB:=hid hob
   clear hrow hc hob
   go_wp2_with fail
   go_ret2
   refine ⟨u,rfl,?_,fun g hg=>?_,HX.out⟩
   ·unfold zbc
    rw [←HKA.out]
    exact HR3.out
   ·rw [HOB.out] at hg
    exact HST.out.own g hg
end Go.Proofs.YtlmfhjipbjkcbaaGreatDoor
namespace Go.Proofs.YtlmfhjipbjkcbaaGreatDoor
open Go.RowKit Go.Sort Go.Lib
theorem elem_pam:ElemOk Tryz.prog 44 43 2 40 :=
 ⟨Tryz.underlying44,by
   obtain ⟨i0,hi,hz0,hz1,hz2⟩:=info_parts (show (Tryz.prog.info? 43).map (fun i=>(i.zero,i.size,i.bytes))=some (some (.agg #[.string ⟨#[]⟩,.slice none 0 0]),2,40) from by kernel_rfl)
   exact ⟨i0,_,hi,hz0,hz1,hz2,rfl⟩,by decide⟩
theorem src_pamc {W:World}{b:Nat}{q:PaM}{t:TypeId}{fr:Nat×Nat}(h:W.heap[b]?=some (.cells #[.string q.nm,.slice q.a q.n q.c] t fr)):Src W 2 (.slice (some ⟨b,0,none⟩) 1 1) 1 (pams [q]):=by
 refine .inr ⟨_,_,rfl,by simp [pams,PaM.cells],fun j u hj=>?_,pams_one _⟩
 rw [Go.WideShapes.add_plain,Nat.zero_add,zaa h]
 simpa [pams,PaM.cells] using hj
structure AllI (w:World) (N:List ByteArray) (Hof:ByteArray→List (List Pt)) (k:Nat) (qs:List PaM) (va:Option Addr) (vn vc:Nat) (wr:World):Prop where
 row:Row wr 43 2 (.slice va vn vc) vn (pams qs)
 nm:qs.map PaM.nm=N.take k
 ok:∀q∈qs,q.Ok wr∧IsMerge (((Hof q.nm).map (cutL (-1152921504606846976) 1152921504606846977)).filter neL) q.l
 off:∀q∈qs,∀g,q.a.map (·.block)=some g→va.map (·.block)≠some g
 lt:∀q∈qs,∀g,q.a.map (·.block)=some g→w.heap.size≤g∧g<wr.heap.size
 own:∀g,va.map (·.block)=some g→w.heap.size≤g
 ext:Ext w wr
 len:vn=qs.length
theorem AllI.add {w wr w2 w3 W w4:World}{N:List ByteArray}{Hof:ByteArray→List (List Pt)}{k vn vc vc' c:Nat}{qs:List PaM}{va va' a:Option Addr}{nm:ByteArray}{l:List Pt}(h:AllI w N Hof k qs va vn vc wr) (hn:N[k]?=some nm) (hx:Ext wr w2)
 (hc:CutTo w2 l (.slice a l.length c) w3) (hnc:l.length≤c) (hm:IsMerge (((Hof nm).map (cutL (-1152921504606846976) 1152921504606846977)).filter neL) l) (hW:Ext w3 W) (ha:Appended W 43 2 (.slice va vn vc) (vn+1) (pams qs++pams [⟨nm,a,l.length,c,l⟩]) (.slice va' (vn+1) vc') w4):AllI w N Hof (k+1) (qs++[⟨nm,a,l.length,c,l⟩]) va' (vn+1) vc' w4:=by
 have hxW:Ext wr W:=(hx.trans hc.ext).trans hW
 have hwW:Ext w W:=h.ext.trans hxW
 have hloc:∀g,va'.map (·.block)=some g→va.map (·.block)=some g∨g=W.heap.size:=fun g hg=>by
  have hl:=ha.loc
  rw [zau,zau,hg] at hl
  rcases hl with e|e
  ·exact .inl e.symm
  ·exact .inr (Option.some.inj e)
 have hcg:∀g,a.map (·.block)=some g→w2.heap.size≤g∧g<w3.heap.size:=fun g hg=>⟨hc.own g (by rw [zau];exact hg),hc.row.lt (by rw [zau];exact hg)⟩
 have hvl:∀g,va.map (·.block)=some g→g<wr.heap.size:=fun g hg=>h.row.lt (by rw [zau];exact hg)
 have hs2:=hx.size
 have hs3:=hW.size
 have hsw:=h.ext.size
 have hok:∀x:PaM,x.Ok W→(∀g,x.a.map (·.block)=some g→va.map (·.block)≠some g)→x.Ok w4:=fun x hx hne =>
  ⟨zbI hx.1 ha.chg (fun b hb e=>by rw [zau] at e;exact hne b hb e),hx.2⟩
 refine ⟨by rw [pams_append];exact ha.row,?_,fun x hm'=>?_,fun x hm' g hg=>?_,fun x hm' g hg=>?_,fun g hg=>?_,?_,by rw [List.length_append,←h.len];rfl⟩
 ·rw [List.map_append,h.nm,List.take_add_one,hn];rfl
 ·rcases List.mem_append.1 hm' with hm'|hm'
  ·exact ⟨hok x ((h.ok x hm').1.ext hxW) (h.off x hm'),(h.ok x hm').2⟩
  ·obtain rfl:=List.mem_singleton.1 hm'
   exact ⟨hok _ ⟨(hc.row.src (zch _)).ext hW,hnc⟩ (fun g hg e=>by have:=hcg g hg;have:=hvl g e;omega),hm⟩
 ·intro e2
  rcases List.mem_append.1 hm' with hm'|hm'
  ·rcases hloc g e2 with e3|e3
   ·exact h.off x hm' g hg e3
   ·have:=h.lt x hm' g hg
    have:=hxW.size
    omega
  ·obtain rfl:=List.mem_singleton.1 hm'
   have:=hcg g hg
   rcases hloc g e2 with e3|e3
   ·have:=hvl g e3;omega
   ·omega
 ·have hs4:=ha.chg.size
  rcases List.mem_append.1 hm' with hm'|hm'
  ·have:=h.lt x hm' g hg
   have:=hxW.size
   omega
  ·obtain rfl:=List.mem_singleton.1 hm'
   have:=hcg g hg;omega
 ·rcases hloc g hg with e3|e3
  ·exact h.own g e3
  ·have:=hwW.size;omega
 ·exact ((Chg.of_ext (S:=fun b=>va.map (·.block)=some b) hwW).trans ha.chg (fun i _ e=>by rw [zau] at e;exact e)).ext (fun i hi e=>by have:=h.own i e;omega)
theorem AllI.early {w0 w wr:World}{N:List ByteArray}{Hof:ByteArray→List (List Pt)}{k vn vc:Nat}{qs:List PaM}{va:Option Addr}(h:AllI w N Hof k qs va vn vc wr) (hx:Ext w0 w):AllI w0 N Hof k qs va vn vc wr :=
 ⟨h.row,h.nm,h.ok,h.off,fun q hq g hg=>⟨by have:=(h.lt q hq g hg).1;have:=hx.size;omega,(h.lt q hq g hg).2⟩,fun g hg=>by have:=h.own g hg;have:=hx.size;omega,hx.trans h.ext,h.len⟩
theorem stoAll_any {w:World}{p d:Nat}{s:Sta}{S:DiskS}{B:List Nat}{v:StoV}(ok:S.Ok) (h:StoAt w p d s S B v) (LS:List (List SegI)) (hH:HoldS S s.fl LS) (hN:v.fn≤4000) (hg:HasET w)
 (Hof:ByteArray→List (List Pt)) (hof:∀n∈zbc LS,HoldP S s.fl n (Hof n)∧(Hof n).length+((Hof n).map List.length).sum<4000) (hNL:(zbc LS).length≤1000000) :
 Calls Tryz.prog 48 #[.pointer (some ⟨p,0,none⟩)] w fun e w'=>∃qs va vc,e=.returned (.tuple #[.slice va qs.length vc,.int .i64 0])∧AllI w (zbc LS) Hof (zbc LS).length qs va qs.length vc w':=by
 have HH:=hid h
 have HG:=hid hg
 have HOF:=hid hof
 have HOK:=hid ok
 have HNM:=hid (fun W (hW:Ext w W)=>stoNames_any ok (h.ext hW) LS hH hN (hg.ext hW))
 obtain ⟨N,hNN⟩:∃N,N=zbc LS:=⟨_,rfl⟩
 rw [←hNN] at HOF HNM hNL ⊢
 obtain ⟨t,ht⟩:∃t,t=N.length:=⟨_,rfl⟩
 rw [←ht] at hNL ⊢
 have HT:=hid ht
 clear h hg hH ok hof hNN ht
 go_enter Tryz.func48,Tryz.ntmps48
 go_wp2_with fail
 refine (HNM.out w (Ext.refl w)).mono ?_
 rintro e w1 ⟨u,rfl,hst⟩
 have hrow:=hst.row
 rw [←HT.out] at hrow
 obtain ⟨ua,uc,rfl⟩:=hrow.shape
 have HROW:=hid hrow
 have HX1:=hid hst.ext
 clear hst hrow
 go_wp2_with fail
 go_loopw [6,21] (fun s6 s21 wr=>∃(k vn vc:Nat) (va:Option Addr),s6=.slice va vn vc∧s21=.int .i64 (k:Int)∧k≤t∧vn≤k∧Hid (∃qs,AllI w1 N Hof k qs va vn vc wr)) (fun _ z _=>t-(RowKit.intOf z).toNat)
 case atStart=>exact ⟨0,0,0,none,rfl,rfl,by omega,by omega,hid ⟨[],⟨Row.nil _ _ _,by simp,by simp,by simp,by simp,by simp,Ext.refl _,rfl⟩⟩⟩
 case round =>
  obtain ⟨k,vn,vc,va,rfl,rfl,hk,hvk,HI⟩:=hrel
  obtain ⟨qs,hI⟩:=HI.out
  have HX1R:=hid hI.ext
  have HXW:=hid (HX1.out.trans hI.ext)
  have HAI:=hid hI
  clear HI hI
  by_cases hlt:k<t
  ·obtain ⟨g,nm,rfl,hnm,hcell⟩:=strs_at (HROW.out.ext HX1R.out) HT.out hlt
   have HNK:=hid hnm
   have HP:=hid (HOF.out nm (List.mem_of_getElem? hnm))
   clear hnm
   go_wp2_with fail
   refine (stoPoints_any HOK.out (HH.out.ext HXW.out) nm (Hof nm) HP.out.1 (-1152921504606846976) 1152921504606846977 HP.out.2 (HG.out.ext HXW.out)).mono ?_
   rintro e w2 ⟨v2,out,rfl,hc,hm⟩
   obtain ⟨ca,cc,rfl⟩:=hc.row.shape
   have HC:=hid hc
   have HMG:=hid hm
   have HNC:=hid (zbY hc.row)
   obtain ⟨cn,hcn⟩:∃cn,cn=out.length:=⟨_,rfl⟩
   rw [←hcn]
   have HCN:=hid hcn
   clear hc hm hcn hcell
   have HR2:=hid (HAI.out.row.ext HC.out.ext)
   go_wp2_with (at_builtin;go_must (refine zah (n:=vn) (m:=1) (v:=.slice va vn vc) elem_pam rfl _ _ rfl rfl rfl (HR2.out.alloc _) (src_pamc (q:=⟨nm,ca,cn,cc,out⟩) (heap_alloc_new _ _)) (by unfold maxLen;omega) (by omega) ?_;intro v4 w4 happ);obtain ⟨va',vc',rfl⟩:=happ.row.shape;have HA:=hid happ;clear happ)
   go_roundw
   case rel =>
    exact ⟨k+1,vn+1,vc',va',rfl,by go_num,by omega,by omega,hid ⟨_,HAI.out.add HNK.out (Ext.refl wr) HC.out HNC.out HMG.out ((Ext.refl w2).alloc _) (by have h:=HA.out;rw [HCN.out] at h;exact h)⟩⟩
   case measure=>simp [RowKit.intOf];omega
  ·obtain rfl:k=t:=by omega
   have HLN:=hid HAI.out.len
   have hvl:vn=qs.length:=HAI.out.len
   go_wp2_with fail
   go_ret2
   subst hvl
   exact ⟨qs,va,vc,rfl,HAI.out.early HX1.out⟩
end Go.Proofs.YtlmfhjipbjkcbaaGreatDoor
namespace Go.Proofs.YtlmfhjipbjkcbaaGreatDoor
open Go.RowKit Go.Sort Go.Lib
def zdC (s:Sta) (n:Nat) (Q:List Prt):Sta:=⟨(n:Int)+1,s.r,s.q,s.km,[zdm (nameS 115 n) Q],s.ti⟩
def TidyTo (w:World) (p d:Nat) (s s':Sta) (B:List Nat) (v:StoV) (r:Int×DiskS) (e:Ending) (w':World):Prop :=
 if r.1≠0 then e=.returned (.int .i64 r.1)∧StoTo w p d s B v r.2 w'
 else if (saveS r.2 s').1≠0 then e=.returned (.int .i64 (saveS r.2 s').1)∧StoTo w p d s B v (saveS r.2 s').2 w'
 else e=.returned (.int .i64 (tidyS (saveS r.2 s').2 s').1)∧∃v':StoV,v'.fn=s'.fl.length∧v'.tn=s'.ti.length∧v'.New w∧StoNew w p d s' B v' (tidyS (saveS r.2 s').2 s').2 w'
theorem StoNew.then {w w1 w2:World}{p d:Nat}{s:Sta}{B:List Nat}{v:StoV}{S2:DiskS}{B1:List Nat}(c1:Chg (fun b=>b=p∨b∈B) w w1) (n1:∀b∈B1,b∈B∨w.heap.size≤b) (k:StoTo w1 p d s B1 v S2 w2):StoNew w p d s B v S2 w2:=by
 obtain ⟨B2,h2,c2,n2⟩:=k
 refine ⟨B2,h2,c1.trans c2 (fun i hi e=>?_),fun b hb=>?_⟩
 ·rcases n1 i e with e|e
  ·exact .inr e
  ·omega
 ·rcases n2 b hb with e|e
  ·exact n1 b e
  ·have:=c1.size;omega
def CompTo (w:World) (p d n:Nat) (s:Sta) (S:DiskS) (B:List Nat) (v:StoV) (N:List ByteArray) (Hof:ByteArray→List (List Pt)) (e:Ending) (w':World):Prop :=
 ∃Q:List Prt,Q.map Prod.fst=N∧(∀q∈Q,IsMerge (((Hof q.1).map (cutL (-1152921504606846976) 1152921504606846977)).filter neL) q.2)∧TidyTo w p d s (zdC s n Q) B v (zbO S (nameS 115 n) (segB Q)) e w'
theorem stoCompact_few {w:World}{p d:Nat}{s:Sta}{S:DiskS}{B:List Nat}{v:StoV}(h:StoAt w p d s S B v) (h2:v.fn<2) :
 Calls Tryz.prog 19 #[.pointer (some ⟨p,0,none⟩)] w fun e w'=>e=.returned (.int .i64 13)∧w=w':=by
 have HH:=hid h
 obtain ⟨fa,fn,fc,ta,tn,tc⟩:=v
 simp only at h2
 have c7:w.cell? ⟨p,7,none⟩=some (.slice fa fn fc):=by have:=zaa h.box 7;simpa using this
 clear h
 go_enter Tryz.func19,Tryz.ntmps19
 go_wp2_with fail
 refine (zbX HH.out).mono ?_
 rintro e w1 ⟨rfl,rfl⟩
 go_wp2_with fail
 go_ret
 exact ⟨rfl,rfl⟩
theorem stoCompact_any {w:World}{p d k n:Nat}{s:Sta}{S:DiskS}{B:List Nat}{v:StoV}(hk:k≤700000) (inv:DInv S k) (h:StoAt w p d s S B v) (hx:s.x=(n:Int)) (hn:n<1000000000) (hvn:v.fn≤1000∧v.tn≤1000)
 (LS:List (List SegI)) (hH:HoldS S s.fl LS) (Hof:ByteArray→List (List Pt)) (hof:∀n∈zbc LS,HoldP S s.fl n (Hof n)∧(Hof n).length+((Hof n).map List.length).sum<4000) (hNL:(zbc LS).length≤1000000)
 (hok:∀Q:List Prt,Q.map Prod.fst=zbc LS→(∀q∈Q,IsMerge (((Hof q.1).map (cutL (-1152921504606846976) 1152921504606846977)).filter neL) q.2)→PrtsOk Q) (h2:2≤v.fn) (hg:HasET w) (hgB:0∉B) :
 Calls Tryz.prog 19 #[.pointer (some ⟨p,0,none⟩)] w (CompTo w p d n s S B v (zbc LS) Hof):=by
 have HH:=hid h
 have HI:=hid inv
 have HG:=hid hg
 have HX:=hid hx
 have HGB:=hid hgB
 have HOKQ:=hid hok
 have HALL:=hid (stoAll_any inv.ok h LS hH (by omega) hg Hof hof hNL)
 have HPL:=hid (zab h.box)
 have HFL:=hid (And.intro (zbo h.st.fl:s.fl.length=v.fn) (zaV h.st.ti:s.ti.length=v.tn))
 have HKM:=hid h.st.ok
 have HBLT:Hid (∀b,w.heap.size≤b→b∉B):=hid (fun b hb e=>by have:=h.disk.lt b e;omega)
 obtain ⟨N,hN⟩:∃N,N=zbc LS:=⟨_,rfl⟩
 rw [←hN] at HALL HOKQ ⊢
 obtain ⟨fa,fn,fc,ta,tn,tc⟩:=v
 obtain ⟨sx,sr,sq,⟨mb,mt,mg⟩,fl,ti⟩:=s
 simp only at h2 hvn HFL HX HKM
 have c7:w.cell? ⟨p,7,none⟩=some (.slice fa fn fc):=by have:=zaa h.box 7;simpa using this
 clear h inv hg hx hgB hok hH hof hNL hN
 go_enter Tryz.func19,Tryz.ntmps19
 go_wp2_with fail
 refine (zbX HH.out).mono ?_
 rintro e w1 ⟨rfl,rfl⟩
 go_wp2_with fail
 refine HALL.out.mono ?_
 rintro e w1 ⟨qs,va,vc,rfl,hai⟩
 have HAI:=hid hai
 have hQ1:(zaC qs).map Prod.fst=N:=by
  have h1:=hai.nm
  rw [List.take_of_length_le (Nat.le_refl _)] at h1
  rw [←h1]
  simp [zaC,prtOf]
 have hQ2:∀q∈zaC qs,IsMerge (((Hof q.1).map (cutL (-1152921504606846976) 1152921504606846977)).filter neL) q.2:=fun q hq=>by
  unfold zaC at hq
  obtain ⟨y,hy,rfl⟩:=List.mem_map.1 hq
  exact (hai.ok y hy).2
 have HQ:=hid (And.intro hQ1 hQ2)
 have HFI:=hid (stoFile_any (hk:=(by omega:k≤900000)) HI.out (HH.out.ext hai.ext) HX.out hn va qs.length vc qs (hai.row.src (pams_one _)) (fun q hq=>(hai.ok q hq).1) (HOKQ.out _ hQ1 hQ2) (HG.out.ext hai.ext))
 have HX1:=hid hai.ext
 clear hai hQ1 hQ2 c7 HOKQ HALL
 go_wp2_with fail
 obtain ⟨Q,hQ⟩:∃Q,Q=zaC qs:=⟨_,rfl⟩
 rw [←hQ] at HFI HQ
 obtain ⟨F,hF⟩:∃F,F=zdm (nameS 115 n) Q:=⟨_,rfl⟩
 obtain ⟨R,hR⟩:∃R,R=zbO S (nameS 115 n) (segB Q):=⟨_,rfl⟩
 have HFS:Hid (zdC ⟨sx,sr,sq,⟨mb,mt,mg⟩,fl,ti⟩ n Q=⟨(n:Int)+1,sr,sq,⟨mb,mt,mg⟩,[F],ti⟩):=hid (by rw [hF];rfl)
 have HIR:Hid (DInv R.2 (k+3)):=hid (by rw [hR];exact HI.out.write _ _)
 rw [←hF,←hR] at HFI
 have HRE:Hid (zbO S (nameS 115 n) (segB Q)=R):=hid hR.symm
 clear hF hR hQ
 refine HFI.out.mono ?_
 rintro e w9 ⟨rfl,B9,hsa,hc9,hn9⟩
 have HSA:=hid hsa
 have hnw:∀b∈B9,b∈B∨w.heap.size≤b:=fun b hb=>by
  rcases hn9 b hb with e|e
  ·exact .inl e
  ·have:=HX1.out.size;exact .inr (by omega)
 have hcw:Chg (·∈B) w w9:=(Chg.of_ext HX1.out).trans hc9 (fun _ _ e=>e)
 have HCW:=hid (And.intro hcw hnw)
 have HGW:=hid (HG.out.chg hcw HGB.out)
 clear hsa hc9 hn9 hnw hcw HFI HAI
 obtain ⟨z,S9⟩:=R
 simp only at HSA HIR ⊢
 by_cases hz:z=0
 ·subst hz
  go_upto_region 9 with fail
  generalize hW:World.alloc _ _=Wa
  obtain ⟨fb,hfb⟩:∃fb,fb=w9.heap.size:=⟨_,rfl⟩
  have hxa:Ext w9 Wa:=by rw [←hW];exact (Ext.refl w9).alloc _
  have HFB:Hid (Wa.heap[fb]?=some (.cells #[.string F.nm,.int .i64 F.a,.int .i64 F.b,.int .i64 F.k] 110 (0,0))):=hid (by rw [←hW,hfb];exact heap_alloc_new w9 _)
  have HXA:=hid hxa
  have HSAa:=hid (HSA.out.ext hxa)
  rw [←hfb]
  clear hW hfb hxa
  go_wp2_with (refine zbF rfl _ _ rfl p 1 (stoC d ⟨sx,sr,sq,⟨mb,mt,mg⟩,fl,ti⟩ ⟨fa,fn,fc,ta,tn,tc⟩) [.int .i64 sx,.int .i64 sr,.int .i64 sq,.bool mb,.int .i64 mt,.int .i64 mg,.slice fa fn fc,.slice ta tn tc] _ _ _ rfl HSAa.out.box rfl Tryz.underlying66 rfl zaH ?_)
  refine (zcP Wa ⟨sx,sr,sq,⟨mb,mt,mg⟩,fl,ti⟩ fa ta fn fc tn tc HSAa.out.st.fl HSAa.out.st.ti (by omega) (by omega)).mono ?_
  rintro e w10 ⟨v4,hv1,hv2,rfl,ho4⟩
  obtain ⟨fa4,fn4,fc4,ta4,tn4,tc4⟩:=v4
  simp only at hv1 hv2
  subst hv1 hv2
  have HO4:=hid ho4
  have HX10:=hid (HXA.out.trans ho4.ext)
  have HFB10:=hid ((ho4.ext.block (zab HFB.out)).trans HFB.out)
  clear ho4
  go_upto_region 12 with fail
  generalize hW:World.alloc _ _=Wb
  obtain ⟨nb,hnb⟩:∃nb,nb=w10.heap.size:=⟨_,rfl⟩
  rw [←hnb]
  have hxb:Ext w10 Wb:=by rw [←hW];exact (Ext.refl w10).alloc _
  have HNB:Hid (Wb.heap[nb]?=some (.cells #[.int .i64 sx,.int .i64 sr,.int .i64 sq,.bool mb,.int .i64 mt,.int .i64 mg,.slice fa4 fn4 fc4,.slice ta4 tn4 tc4] 66 (0,0))):=hid (by rw [←hW,hnb];exact heap_alloc_new w10 _)
  have HXB:=hid (HX10.out.trans hxb)
  have HFBb:=hid ((hxb.block (zab HFB10.out)).trans HFB10.out)
  have HNN:Hid (w10.heap.size=nb):=hid hnb.symm
  have HTI:Hid (Row Wb 90 5 (.slice ta4 tn4 tc4) tn4 (trs ti)):=hid (HO4.out.t.ext hxb)
  have HTF:Hid (∀g,ta4.map (·.block)=some g→w9.heap.size≤g∧g<nb):=hid (fun g hg=>⟨by have:=HO4.out.to' g hg;have:=HXA.out.size;omega,by have:=HO4.out.t.lt (g:=g) (by rw [zau];exact hg);omega⟩)
  have HX9N:Hid (w9.heap.size≤nb):=hid (by have:=HX10.out.size;omega)
  clear hW hnb hxb HX10 HO4
  have hinfo:(Tryz.prog.info? 3).map (·.size)=some 1:=by kernel_rfl
  have HINF:=hid hinfo
  clear hinfo
  have hsx:sx=(n:Int):=HX.out
  subst hsx
  have y0:=zaa HNB.out 0
  simp at y0
  go_upto_region 13 with (refine zan rfl _ _ _ rfl nb 0 _ #[.int .i64 ((n:Int)+1),.int .i64 sr,.int .i64 sq,.bool mb,.int .i64 mt,.int .i64 mg,.slice fa4 fn4 fc4,.slice ta4 tn4 tc4] _ _ rfl rfl rfl rfl HNB.out (by simp) rfl HINF.out ?_;rintro Vb hbV hcV _he;have HNBb:=hid hbV;have HCb:=hid hcV;clear hbV hcV _he)
  simp only [Act.put]
  clear y0
  have HFBv:=hid ((HCb.out.block fb (zab HFBb.out) (fun e=>by have h1:=zab HFB10.out;have:=HNN.out;omega)).trans HFBb.out)
  go_upto_region 14 with (first
   | (refine zat rfl _ _ rfl _ _ _ _ _ rfl HFBv.out Tryz.underlying110 rfl zcQ ?_)
   | (refine zan rfl _ _ _ rfl nb 6 _ #[.int .i64 ((n:Int)+1),.int .i64 sr,.int .i64 sq,.bool mb,.int .i64 mt,.int .i64 mg,.slice (some ⟨Vb.heap.size,0,none⟩) 1 1,.slice ta4 tn4 tc4] _ _ rfl rfl rfl rfl ((((Ext.refl Vb).alloc _).block (zab HNBb.out)).trans HNBb.out) (by simp) rfl zda ?_;rintro Vd hbV hcV _he;have HNBd:=hid hbV;have HCd:=hid hcV;clear hbV hcV _he))
  have hcT:Chg (·=nb) Wb Vd:=HCb.out.trans ((Chg.of_ext ((Ext.refl Vb).alloc _)).trans HCd.out (fun _ _ e=>e)) (fun _ _ e=>e)
  have hn9:w9.heap.size≤nb:=HX9N.out
  have hpn:p<w9.heap.size:=zab HSA.out.box
  have hB9:∀b∈B9,b<w9.heap.size:=HSA.out.disk.lt
  have hsd:=(HSA.out.ext HXB.out).other hcT (fun e=>by have:=hB9 nb e;omega) (by omega) (fun hn e=>by have:=(HSA.out.off.f hn nb e).2;omega) (fun hn e=>by have:=(HSA.out.off.t hn nb e).2;omega)
  have hVb:Wb.heap.size≤Vb.heap.size:=HCb.out.size
  have hWb:w9.heap.size≤Wb.heap.size:=HXB.out.size
  have hnW:nb<Wb.heap.size:=zab HNB.out
  have hsl:Vd.heap[Vb.heap.size]?=some (.cells #[.string F.nm,.int .i64 F.a,.int .i64 F.b,.int .i64 F.k] 110 (0,0)):=(HCd.out.block Vb.heap.size (by have:=(Ext.refl Vb).alloc (.cells #[.string F.nm,.int .i64 F.a,.int .i64 F.b,.int .i64 F.k] 110 (0,0)) |>.size;exact zab (heap_alloc_new Vb _)) (by omega)).trans (heap_alloc_new Vb _)
  have hin:StoV.In ⟨some ⟨Vb.heap.size,0,none⟩,1,1,ta4,tn4,tc4⟩ Vd ⟨(n:Int)+1,sr,sq,⟨mb,mt,mg⟩,[F],ti⟩ :=
   ⟨src_flc hsl,(HTI.out.chg hcT (fun g hg e=>by rw [zau] at hg;have:=HTF.out g hg;omega)).src (trs_one _),HKM.out,by show 1<_;omega,by show tn4<_;omega⟩
  have hoff:StoV.Off ⟨some ⟨Vb.heap.size,0,none⟩,1,1,ta4,tn4,tc4⟩ Vd (p::B9):=⟨fun _ g hg=>by
   have e1:Vb.heap.size=g:=by simpa using hg
   subst e1
   refine ⟨fun e=>?_,zab hsl⟩
   rcases List.mem_cons.1 e with e|e
   ·omega
   ·have:=hB9 _ e;omega,fun _ g hg=>by
   have h1:=HTF.out g hg
   have h2:=hcT.size
   refine ⟨fun e=>?_,by omega⟩
   rcases List.mem_cons.1 e with e|e
   ·omega
   ·have:=hB9 _ e;omega⟩
  have hww:w.heap.size≤w9.heap.size:=HCW.out.1.size
  have hgd:HasET Vd:=(HGW.out.ext HXB.out).chg hcT (fun e=>by have:=HG.out.lt;omega)
  have HINS:=hid (stoInstall_any (k:=k+3) (by omega) HIR.out hsd hin hoff hgd)
  have hcw:Chg (·∈B) w Vd:=(HCW.out.1.trans (Chg.of_ext (S:=(·∈B)) HXB.out) (fun _ _ e=>e)).trans hcT (fun i hi e=>by omega)
  have HCWD:=hid hcw
  have HNEW:Hid (StoV.New ⟨some ⟨Vb.heap.size,0,none⟩,1,1,ta4,tn4,tc4⟩ w):=hid ⟨fun g hg=>by have e1:Vb.heap.size=g:=(by simpa using hg);omega,fun g hg=>by have:=HTF.out g hg;omega⟩
  clear hcT hn9 hpn hB9 hsd hVb hWb hnW hsl hin hoff hww hgd hcw
  go_wp2_with (refine zat rfl _ _ rfl _ _ _ _ _ rfl HNBd.out Tryz.underlying66 rfl zaH ?_)
  refine HINS.out.mono ?_
  rintro e we ⟨rfl,hre⟩
  obtain ⟨R2,hR2⟩:∃R2,R2=saveS S9 ⟨(n:Int)+1,sr,sq,⟨mb,mt,mg⟩,[F],ti⟩:=⟨_,rfl⟩
  have HIS:Hid (DInv R2.2 (k+3+4)):=hid (by rw [hR2];exact HIR.out.save _)
  have HR2:=hid hR2.symm
  rw [←hR2] at hre ⊢
  clear hR2
  obtain ⟨z2,S2⟩:=R2
  simp only at hre HIS ⊢
  by_cases hz2:z2=0
  ·subst hz2
   rw [if_pos rfl] at hre
   obtain ⟨B2,h2',c2,n2⟩:=hre
   have HA2:=hid h2'
   have HC2:=hid (And.intro c2 n2)
   clear h2' c2 n2
   go_wp2_with fail
   refine (stoTidy_any HIS.out (by omega) HA2.out (by show 1≤_;omega) (by show tn4≤_;omega)).mono ?_
   rintro e wf ⟨rfl,hto⟩
   have HTO:=hid hto
   clear hto
   go_wp2_with fail
   go_ret
   refine ⟨Q,HQ.out.1,HQ.out.2,?_⟩
   rw [HRE.out,HFS.out]
   unfold TidyTo
   rw [if_neg (by simp),HR2.out,if_neg (by simp)]
   refine ⟨rfl,⟨some ⟨Vb.heap.size,0,none⟩,1,1,ta4,tn4,tc4⟩,rfl,HFL.out.2.symm,HNEW.out,?_⟩
   have h1:=StoNew.then (w:=Vd) HC2.out.1 HC2.out.2 HTO.out
   exact StoNew.more HPL.out (HCWD.out.mono (fun i _ e=>.inr e)) HCW.out.2 h1
  ·have hz0:(z2==0)=false:=beq_eq_false_iff_ne.2 hz2
   have hz1:(z2 != 0)=true:=bne_iff_ne.2 hz2
   rw [if_neg hz2] at hre
   have HRE2:=hid hre
   clear hre
   go_wp2_with fail
   go_ret
   refine ⟨Q,HQ.out.1,HQ.out.2,?_⟩
   rw [HRE.out,HFS.out]
   unfold TidyTo
   rw [if_neg (by simp),HR2.out,if_pos hz2]
   exact ⟨rfl,StoTo.more HCWD.out HCW.out.2 HRE2.out⟩
 ·have hz0:(z==0)=false:=beq_eq_false_iff_ne.2 hz
  have hz1:(z != 0)=true:=bne_iff_ne.2 hz
  go_wp2_with fail
  go_ret
  refine ⟨Q,HQ.out.1,HQ.out.2,?_⟩
  rw [HRE.out]
  unfold TidyTo
  rw [if_pos hz]
  exact ⟨rfl,StoTo.more HCW.out.1 HCW.out.2 (.same HSA.out ((Ext.refl w9).alloc _))⟩
end Go.Proofs.YtlmfhjipbjkcbaaGreatDoor
namespace Go.Proofs.YtlmfhjipbjkcbaaGreatDoor
open Go.RowKit Go.Sort Go.Lib
theorem nameS_bl (c:UInt8) (n:Nat):bl (nameS c n)=c::digs 12 n:=rfl
theorem nameS_inj {c:UInt8}{i j:Nat}(hi:i<1000000000) (hj:j<1000000000) (h:nameS c i=nameS c j):i=j:=by
 have h1:=congrArg bl h
 rw [nameS_bl,nameS_bl] at h1
 have h2:=(List.cons.inj h1).2
 have h3:=numD_digs 12 i 0
 rw [h2,numD_digs 12 j 0] at h3
 have h4:=Option.some.inj h3
 rw [Nat.mod_eq_of_lt (by omega),Nat.mod_eq_of_lt (by omega)] at h4
 omega
theorem nameS_ok (c:UInt8) (n:Nat):nameB (nameS c n)=true:=by
 unfold nameB;rw [zdz];decide
theorem nameS_fM (n:Nat):nameS 115 n≠fM:=fun e=>by
 have h:=congrArg ByteArray.size e
 rw [zdz] at h
 simp [fM,ByteArray.size] at h
theorem nameS_fN (n:Nat):nameS 115 n≠fN:=fun e=>by
 have h:=congrArg ByteArray.size e
 rw [zdz] at h
 simp [fN,ByteArray.size] at h
theorem pre_s (n:Nat):Lib.hasPrefix (bl (nameS 115 n)) (bl fS)=true:=by
 rw [nameS_bl]
 show [115].isPrefixOf (115::digs 12 n)=true
 simp [List.isPrefixOf]
theorem pre_r (n:Nat):Lib.hasPrefix (bl (nameS 115 n)) (bl fR)=false:=by
 rw [nameS_bl]
 show [114].isPrefixOf (115::digs 12 n)=false
 simp [List.isPrefixOf]
theorem pre_m:Lib.hasPrefix (bl fM) (bl fS)=false∧Lib.hasPrefix (bl fM) (bl fR)=false:=by
 constructor<;>rfl
theorem zdR {S:DiskS}{p n:ByteArray}:n∈S.list p↔(aget S.files n).isSome=true∧Lib.hasPrefix (bl n) (bl p)=true:=by
 unfold DiskS.list
 rw [(zct _).mem_iff]
 unfold DiskS.names
 rw [List.mem_filter,←zcn]
theorem list_nodupS {S:DiskS}(h:(S.files.map (·.1)).Nodup) (p:ByteArray):(S.list p).Nodup:=by
 unfold DiskS.list
 refine (zct _).symm.nodup ?_
 exact h.filter _
theorem write_ok {S:DiskS}{n:ByteArray}{b:List UInt8}(hn:nameB n=true) (hl:S.left<0) (hg:aget S.files n=none) (hroom:S.used+b.length≤S.room) (hfew:S.files.length<512) (hb:b.length≤1048576) :
 ∃S',zbO S n b=(0,S')∧OpOk S S' (updG (getS S) n (some ⟨b,b.length,true⟩)) b.length 1:=by
 obtain ⟨S1,e1,o1⟩:=append_new hn (by omega) hg hroom hfew hb
 have l1:S1.left=S.left:=by rw [o1.left,zbR hl]
 have g1:aget S1.files n=some ⟨b,0,false⟩:=by rw [o1.get];unfold updG;rw [if_pos rfl]
 obtain ⟨S2,e2,o2⟩:=sync_ok hn (by omega) g1
 refine ⟨S2,?_,⟨fun k=>?_,by rw [o2.room,o1.room],by rw [o2.left,l1],by have:=o1.used;have:=o2.used;omega,by have:=o1.len;have:=o2.len;omega⟩⟩
 ·unfold zbO
  rw [hg]
  unfold thenS
  simp only [Option.isSome_none,Bool.false_eq_true,if_false,if_true,e1,e2]
 ·rw [o2.get]
  unfold updG
  by_cases e:k=n
  ·rw [if_pos e,if_pos e]
  ·rw [if_neg e,if_neg e]
   show aget S1.files k=_
   rw [o1.get]
   unfold updG
   rw [if_neg e]
theorem nm_fN:nameB fN=true:=by decide
theorem nm_fM:nameB fM=true:=by decide
theorem save_ok {S:DiskS}{c:Nat}{s:Sta}(inv:DInv S c) (hl:S.left<0) (hg:aget S.files fN=none) (hr:staR s=true) (hm:s.km.ok) (hroom:S.used+60100≤S.room) (hfew:S.files.length<512) :
 ∃S',saveS S s=(0,S')∧OpOk S S' (updG (getS S) fM (some ⟨sealL 7 (staP s),(sealL 7 (staP s)).length,true⟩)) 60100 1:=by
 have hsl:(sealL 7 (staP s)).length≤60100:=by
  have:=staP_len hr hm
  rw [zbn];omega
 obtain ⟨S1,e1,o1⟩:=append_new (b:=sealL 7 (staP s)) nm_fN (by omega) hg (by omega) hfew (by omega)
 have i1:DInv S1 (c+1):=by have h:=inv.append fN (sealL 7 (staP s));rw [e1] at h;exact h
 have l1:S1.left=S.left:=by rw [o1.left,zbR hl]
 have g1:aget S1.files fN=some ⟨sealL 7 (staP s),0,false⟩:=by rw [o1.get];unfold updG;rw [if_pos rfl]
 obtain ⟨S2,e2,o2⟩:=sync_ok nm_fN (by omega) g1
 have i2:DInv S2 (c+2):=by have h:=i1.sync fN;rw [e2] at h;exact h
 have l2:S2.left=S.left:=by rw [o2.left,zbR (by omega),l1]
 have g2:aget S2.files fN=some ⟨sealL 7 (staP s),(sealL 7 (staP s)).length,true⟩:=by rw [o2.get];unfold updG;rw [if_pos rfl]
 obtain ⟨S3,e3,o3⟩:=rename_ok i2.ok.names nm_fN nm_fM fN_ne (by omega) g2
 refine ⟨S3,?_,⟨fun k=>?_,by rw [o3.room,o2.room,o1.room],by rw [o3.left,zbR (by omega),l2,zbR hl],by have:=o1.used;have:=o2.used;have:=o3.used;omega,by have:=o1.len;have:=o2.len;have:=o3.len;omega⟩⟩
 ·unfold saveS saveA
  rw [if_pos hr,hg]
  unfold thenS
  simp only [Option.isSome_none,Bool.false_eq_true,if_false,if_true,e1,e2,e3]
 ·rw [o3.get]
  unfold updG
  by_cases e:k=fM
  ·rw [if_pos e,if_pos e]
  ·rw [if_neg e,if_neg e]
   by_cases e':k=fN
   ·rw [if_pos e',e'];exact hg.symm
   ·rw [if_neg e']
    show aget S2.files k=_
    rw [o2.get]
    unfold updG
    rw [if_neg e']
    show aget S1.files k=_
    rw [o1.get]
    unfold updG
    rw [if_neg e']
theorem tidy_ok {N:List ByteArray}:∀{L:List ByteArray}{S:DiskS}{c:Nat},DInv S c→S.left<0→L.Nodup→(∀f∈L,(aget S.files f).isSome=true∧nameB f=true) →
 ∃S',zbP N L S=(0,S')∧OpOk S S' (fun k=>if k∈L∧k∉N then none else aget S.files k) 0 0
 | [],S,c,inv,hl,_,_=>⟨S,rfl,⟨fun k=>by simp,rfl,by rw [zbR hl],by omega,by omega⟩⟩
 | f::L,S,c,inv,hl,hn,hL=>by
  obtain ⟨hf,hn⟩:=List.nodup_cons.1 hn
  by_cases hN:f∈N
  ·obtain ⟨S',e,o⟩:=tidy_ok (N:=N) (L:=L) inv hl hn (fun g hg=>hL g (by simp [hg]))
   refine ⟨S',by rw [zbP,if_pos hN,e],⟨fun k=>?_,o.room,o.left,o.used,o.len⟩⟩
   rw [o.get]
   by_cases hk:k∈L∧k∉N
   ·rw [if_pos hk,if_pos ⟨by simp [hk.1],hk.2⟩]
   ·rw [if_neg hk,if_neg]
    rintro ⟨h1,h2⟩
    rcases List.mem_cons.1 h1 with e|e
    ·exact h2 (e▸hN)
    ·exact hk ⟨e,h2⟩
  ·obtain ⟨x,hx⟩:=Option.isSome_iff_exists.1 (hL f (by simp)).1
   obtain ⟨S1,e1,o1⟩:=delete_ok inv.ok.names (hL f (by simp)).2 (by omega) hx
   have i1:DInv S1 (c+1):=by have h:=inv.delete f;rw [e1] at h;exact h
   have l1:S1.left=S.left:=by rw [o1.left,zbR hl]
   have g1:∀g,g≠f→aget S1.files g=aget S.files g:=fun g hg=>by rw [o1.get];unfold updG;rw [if_neg hg]
   obtain ⟨S',e,o⟩:=tidy_ok (N:=N) (L:=L) i1 (by omega) hn (fun g hg=>by
    rw [g1 g (fun e=>hf (e▸hg))]
    exact hL g (by simp [hg]))
   refine ⟨S',?_,⟨fun k=>?_,by rw [o.room,o1.room],by rw [o.left,l1],by have:=o.used;have:=o1.used;omega,by have:=o.len;have:=o1.len;omega⟩⟩
   ·rw [zbP,if_neg hN,e1]
    exact e
   ·rw [o.get]
    by_cases hkf:k=f
    ·subst hkf
     rw [if_pos (show k∈k::L∧k∉N from ⟨by simp,hN⟩),if_neg (fun h=>hf h.1),o1.get]
     unfold updG
     rw [if_pos rfl]
    ·by_cases hk:k∈L∧k∉N
     ·rw [if_pos hk,if_pos ⟨by simp [hk.1],hk.2⟩]
     ·rw [if_neg hk,if_neg,g1 k hkf]
      rintro ⟨h1,h2⟩
      rcases List.mem_cons.1 h1 with e|e
      ·exact hkf e
      ·exact hk ⟨e,h2⟩
end Go.Proofs.YtlmfhjipbjkcbaaGreatDoor
namespace Go.Proofs.YtlmfhjipbjkcbaaGreatDoor
open Go.RowKit Go.Sort Go.Lib
theorem okV_of:∀{l:List Pt},Rises l→(∀p∈l,-1152921504606846976≤p.t∧p.t≤1152921504606846976∧0≤p.s∧p.s≤1152921504606846976)→(okV l).1=true:=by
 intro l hr hb
 have key:∀k,k≤l.length→(okV (l.take k)).1=true∧((okV (l.take k)).2=-1152921504606846977∨∃(j:Nat) (q:Pt),j<k∧l[j]?=some q∧(okV (l.take k)).2=q.t):=by
  intro k
  induction k with
  | zero=>intro _;exact ⟨rfl,.inl rfl⟩
  | succ k ih =>
   intro hk
   have hp:l[k]?=some l[k]:=List.getElem?_eq_getElem (by omega)
   obtain ⟨h1,h2⟩:=ih (by omega)
   have hm:=hb l[k] (List.getElem_mem _)
   have hlt:(okV (l.take k)).2<(l[k]).t:=by
    rcases h2 with e|⟨j,q,hj,hq,e⟩
    ·omega
    ·rw [e];exact hr.at hq hp hj
   rw [okV_next hp]
   refine ⟨?_,.inr ⟨k,l[k],by omega,hp,rfl⟩⟩
   unfold stepV
   simp [h1]
   omega
 have h:=(key l.length (Nat.le_refl _)).1
 rwa [List.take_length] at h
theorem colV_of {l:List Pt}(hr:Rises l) (hb:∀p∈l,-1152921504606846976≤p.t∧p.t≤1152921504606846976∧0≤p.s∧p.s≤1152921504606846976) (h0:0<l.length) (h1:l.length≤4096):colV l=true:=by
 unfold colV
 rw [okV_of hr hb]
 simp only [Bool.true_and,Bool.and_eq_true,decide_eq_true_eq]
 exact ⟨h0,h1⟩
theorem le_sum_mem:∀{l:List Nat}{x:Nat},x∈l→x≤l.sum
 | y::l,x,h=>by
  rw [List.sum_cons]
  rcases List.mem_cons.1 h with e|e
  ·omega
  ·have:=le_sum_mem e;omega
theorem span_items {Q:List Prt}(h:PrtsOk Q):-1152921504606846976≤loS (zaw Q)∧loS (zaw Q)≤hiS (zaw Q)∧hiS (zaw Q)≤1152921504606846976∧0<cntL (zaw Q)∧cntL (zaw Q)≤1024:=by
 have hm:=minOf_fold (zaw Q)
 have hs:=h.seg
 obtain ⟨x,hx⟩:∃x,x∈zaw Q:=List.exists_mem_of_length_pos hs.pos
 have h1:=hm.l1 x hx trivial
 have h2:=hm.h1 x hx trivial
 have hxo:=hs.ok x hx
 have e1:=hxo.l1
 have hlo:-1152921504606846976≤loS (zaw Q):=by
  rcases hm.l2 with e|⟨y,hy,e⟩
  ·omega
  ·have:=(hs.ok y hy).l0;omega
 have hhi:hiS (zaw Q)≤1152921504606846976:=by
  rcases hm.h2 with e|⟨y,hy,e⟩
  ·omega
  ·have:=(hs.ok y hy).l2;omega
 have hc:cntL (zaw Q)=manyP Q:=by
  unfold cntL zaw manyP
  rw [List.map_map];rfl
 refine ⟨hlo,?_,hhi,?_,by rw [hc];exact h.many⟩
 ·omega
 ·have hx0:=hxo.n0
  have:x.n≤cntL (zaw Q):=by
   unfold cntL
   exact le_sum_mem (List.mem_map_of_mem hx)
  omega
theorem flR_file {Q:List Prt}(h:PrtsOk Q) (n:Nat):flR (zdm (nameS 115 n) Q)=true:=by
 obtain ⟨h1,h2,h3,h4,h5⟩:=span_items h
 have e:nmB (nameS 115 n)=true:=by unfold nmB;rw [zdz];decide
 have t1:tmB (loS (zaw Q))=true:=by unfold tmB;rw [decide_eq_true (by omega),decide_eq_true (by omega)];rfl
 have t2:tmB (hiS (zaw Q))=true:=by unfold tmB;rw [decide_eq_true (by omega),decide_eq_true (by omega)];rfl
 have t3:z60 (cntL (zaw Q):Int)=true:=by unfold z60 inB;rw [decide_eq_true (by omega),decide_eq_true (by omega)];rfl
 unfold flR zdm
 simp only [e,t1,t2,t3]
 rw [decide_eq_true h2,decide_eq_true (by omega)]
 rfl
abbrev Gs:=List (Nat×List Prt)
def flsOf (G:Gs):List Fl:=G.map fun g=>zdm (nameS 115 g.1) g.2
def km5:Mk:=⟨false,0,5⟩
theorem staR_of {G:Gs}{x r q:Int}(hG:∀g∈G,PrtsOk g.2) (hl:G.length≤512) (hx:0≤x∧x≤1000000) (hr:0≤r∧r≤1000000) (hq:0≤q∧q≤1000000):staR ⟨x,r,q,km5,flsOf G,[]⟩=true:=by
 have h1:(flsOf G).all flR=true:=by
  rw [List.all_eq_true]
  intro f hf
  obtain ⟨g,hg,rfl⟩:=List.mem_map.1 hf
  exact flR_file (hG g hg) _
 have h2:(flsOf G).length≤512:=by unfold flsOf;rw [List.length_map];exact hl
 have h3:mkR km5=true:=by decide
 have z:∀y:Int,0≤y∧y≤1000000→z60 y=true:=fun y hy=>by unfold z60 inB;rw [decide_eq_true (by omega),decide_eq_true (by omega)];rfl
 unfold staR staB
 simp only [h1,h3,z x hx,z r hr,z q hq]
 rw [decide_eq_true h2]
 rfl
theorem km5_ok:km5.ok:=⟨by decide,by decide,by decide,by decide⟩
end Go.Proofs.YtlmfhjipbjkcbaaGreatDoor
namespace Go.Proofs.YtlmfhjipbjkcbaaGreatDoor
open Go.RowKit Go.Sort Go.Lib
def ownSt:Sta:=⟨0,0,0,km5,[],[]⟩
theorem newDisk_invS {room:Int}(h0:0≤room) (h1:room≤1073741824):DInv (zbZ room) 0:=⟨newDisk_ok h0 h1,Int.le_refl _,by simp [zbZ],by simp [zbZ,sumF]⟩
def totG (G:Gs):Nat:=(G.map fun g=>manyP g.2).sum
structure StI (S:DiskS) (s:Sta) (G:Gs) (X c:Nat):Prop where
 st:s=⟨(X:Int),s.r,s.q,km5,flsOf G,[]⟩
 rq:0≤s.r∧s.r≤1000∧s.q=s.r
 num:(G.map Prod.fst).Nodup∧(∀g∈G,g.1<X)∧X≤1000
 ok:∀g∈G,PrtsOk g.2∧∀q∈g.2,∀p∈q.2,-9223372036854775808≤p.v∧p.v≤9223372036854775807
 inv:DInv S c
 left:S.left<0
 room:S.room=16777216
 file:∀g∈G,∃f,aget S.files (nameS 115 g.1)=some f∧f.bytes=segB g.2
 man:(∃f,aget S.files fM=some f∧f.bytes=sealL 7 (staP s))∨(aget S.files fM=none∧s=ownSt)
 keys:∀n,(aget S.files n).isSome=true→n=fM∨∃g∈G,n=nameS 115 g.1
 few:G.length≤30
 tot:totG G≤600
theorem StI.x {S:DiskS}{s:Sta}{G:Gs}{X c:Nat}(h:StI S s G X c):s.x=(X:Int):=by rw [h.st]
theorem StI.fl {S:DiskS}{s:Sta}{G:Gs}{X c:Nat}(h:StI S s G X c):s.fl=flsOf G:=by rw [h.st]
theorem StI.ti {S:DiskS}{s:Sta}{G:Gs}{X c:Nat}(h:StI S s G X c):s.ti=[]:=by rw [h.st]
theorem StI.km {S:DiskS}{s:Sta}{G:Gs}{X c:Nat}(h:StI S s G X c):s.km=km5:=by rw [h.st]
theorem StI.r {S:DiskS}{s:Sta}{G:Gs}{X c:Nat}(h:StI S s G X c):staR s=true:=by
 have h1:=h.rq
 have h2:=h.num.2.2
 have h3:=h.few
 rw [h.st]
 exact staR_of (fun g hg=>(h.ok g hg).1) (by omega) (by omega) (by omega) (by omega)
theorem StI.kmok {S:DiskS}{s:Sta}{G:Gs}{X c:Nat}(h:StI S s G X c):s.km.ok:=by rw [h.km];exact km5_ok
theorem StI.seal {S:DiskS}{s:Sta}{G:Gs}{X c:Nat}(h:StI S s G X c):(sealL 7 (staP s)).length≤60100:=by
 have:=staP_len h.r h.kmok
 rw [zbn];omega
theorem StI.len {S:DiskS}{s:Sta}{G:Gs}{X c:Nat}(h:StI S s G X c):S.files.length≤31:=by
 have h1:=nodup_le h.inv.ok.names (b:=fM::G.map fun g=>nameS 115 g.1) (fun n hn=>by
  rcases h.keys n (zcn.2 hn) with e|⟨g,hg,e⟩
  ·rw [e];simp
  ·rw [e];exact List.mem_cons_of_mem _ (List.mem_map_of_mem (f:=fun g:Nat×List Prt=>nameS 115 g.1) hg))
 have:=h.few
 simp at h1
 omega
theorem sum_le_mul {l:List Nat}{k:Nat}(h:∀x∈l,x≤k):l.sum≤l.length*k:=by
 induction l with
 | nil=>simp
 | cons x l ih =>
  have h1:=ih (fun y hy=>h y (by simp [hy]))
  have h2:=h x (by simp)
  rw [List.sum_cons,List.length_cons,Nat.succ_mul];omega
theorem StI.used {S:DiskS}{s:Sta}{G:Gs}{X c:Nat}(h:StI S s G X c):S.used≤5177000:=by
 rw [h.inv.sum]
 have h1:sumF S.files≤S.files.length*167000:=by
  unfold sumF
  have:=sum_le_mul (l:=S.files.map fun p=>p.2.bytes.length) (k:=167000) (fun x hx=>by
   obtain ⟨p,hp,rfl⟩:=List.mem_map.1 hx
   have hg:=aget_of_mem h.inv.ok.names (k:=p.1) (v:=p.2) hp
   rcases h.keys p.1 (by rw [hg];rfl) with e|⟨g,hgG,e⟩
   ·rcases h.man with ⟨f,hf,hb⟩|⟨hn,_⟩
    ·rw [←e,hg] at hf
     cases hf
     rw [hb]
     have:=h.seal;omega
    ·rw [←e,hg] at hn;cases hn
   ·obtain ⟨f,hf,hb⟩:=h.file g hgG
    rw [←e,hg] at hf
    cases hf
    rw [hb]
    exact segB_len (h.ok g hgG).1)
  rwa [List.length_map] at this
 have h2:=h.len
 have h3:S.files.length*167000≤31*167000:=Nat.mul_le_mul_right _ h2
 omega
theorem StI.noN {S:DiskS}{s:Sta}{G:Gs}{X c:Nat}(h:StI S s G X c):aget S.files fN=none:=by
 cases hg:aget S.files fN with
 | none=>rfl
 | some f =>
  rcases h.keys fN (by rw [hg];rfl) with e|⟨g,_,e⟩
  ·exact absurd e fN_ne
  ·exact absurd e.symm (nameS_fN _)
theorem StI.noX {S:DiskS}{s:Sta}{G:Gs}{X c k:Nat}(h:StI S s G X c) (hk:X≤k) (hk2:k<1000000):aget S.files (nameS 115 k)=none:=by
 cases hg:aget S.files (nameS 115 k) with
 | none=>rfl
 | some f =>
  rcases h.keys _ (by rw [hg];rfl) with e|⟨g,hgG,e⟩
  ·exact absurd e (nameS_fM _)
  ·have h1:=h.num.2.1 g hgG
   have h2:=h.num.2.2
   have:=nameS_inj (by omega) (by omega) e
   omega
theorem StI.load {S:DiskS}{s:Sta}{G:Gs}{X c:Nat}(h:StI S s G X c):(aget S.files fM).isSome=true→loadS S=(s,true,0):=by
 intro hs
 rcases h.man with ⟨f,hf,hb⟩|⟨hn,_⟩
 ·unfold loadS
  rw [hf]
  show loadO (staRd f.bytes)=_
  rw [hb,staRd_seal h.r h.kmok (by have:=staP_len h.r h.kmok;omega)]
  rfl
 ·rw [hn] at hs;simp at hs
theorem names_flsOf (G:Gs) (x r q:Int) (m:Mk):zcc ⟨x,r,q,m,flsOf G,[]⟩=G.map fun g=>nameS 115 g.1:=by
 unfold zcc madeN flsOf
 simp [zdm,Function.comp_def]
theorem StI.names {S:DiskS}{s:Sta}{G:Gs}{X c:Nat}(h:StI S s G X c):zcc s=G.map fun g=>nameS 115 g.1:=by rw [h.st];exact names_flsOf G _ _ _ _
theorem StI.listR {S:DiskS}{s:Sta}{G:Gs}{X c:Nat}(h:StI S s G X c):S.list fR=[]:=by
 cases hl:S.list fR with
 | nil=>rfl
 | cons f L =>
  have hm:f∈S.list fR:=by rw [hl];simp
  obtain ⟨h1,h2⟩:=zdR.1 hm
  rcases h.keys f h1 with e|⟨g,_,e⟩
  ·rw [e,pre_m.2] at h2;cases h2
  ·rw [e,pre_r] at h2;cases h2
theorem StI.listS {S:DiskS}{s:Sta}{G:Gs}{X c:Nat}(h:StI S s G X c) {f:ByteArray}(hf:f∈S.list fS):∃g∈G,f=nameS 115 g.1:=by
 obtain ⟨h1,h2⟩:=zdR.1 hf
 rcases h.keys f h1 with e|h
 ·rw [e,pre_m.1] at h2;cases h2
 ·exact h
theorem tidyGo_own_all {N:List ByteArray}:∀{L:List ByteArray}(S:DiskS),(∀f∈L,f∈N)→zbP N L S=(0,S)
 | [],S,_=>rfl
 | f::L,S,h=>by rw [zbP,if_pos (h f (by simp)),tidyGo_own_all S (fun g hg=>h g (by simp [hg]))]
theorem StI.tidy {S:DiskS}{s:Sta}{G:Gs}{X c:Nat}(h:StI S s G X c):tidyS S s=(0,S):=by
 unfold tidyS
 refine tidyGo_own_all S (fun f hf=>?_)
 rw [h.names]
 unfold tidyL at hf
 rw [h.listR,List.nil_append] at hf
 obtain ⟨g,hg,rfl⟩:=h.listS hf
 exact List.mem_map_of_mem (f:=fun g:Nat×List Prt=>nameS 115 g.1) hg
theorem StI.rest {S:DiskS}{s:Sta}{G:Gs}{X c:Nat}(h:StI S s G X c):restK S s=(0,s):=by
 unfold restK
 rw [if_pos]
 rw [List.all_eq_true]
 intro n hn
 rw [h.names] at hn
 obtain ⟨g,hg,rfl⟩:=List.mem_map.1 hn
 obtain ⟨f,hf,_⟩:=h.file g hg
 rw [hf];rfl
theorem alike_own {G:Gs}{x r q:Int}:alikeB ownSt ⟨x,r,q,km5,flsOf G,[]⟩=true:=rfl
theorem StI.open {S:DiskS}{s:Sta}{G:Gs}{X c:Nat}(h:StI S s G X c):stoK S ownSt (alikeB ownSt)=(0,s):=by
 unfold stoK
 rcases h.man with ⟨f,hf,_⟩|⟨hn,hs⟩
 ·have hl:=h.load (by rw [hf];rfl)
  rw [hl]
  simp only [ne_eq,not_true,if_false,if_true]
  rw [if_pos (by rw [h.st];exact alike_own)]
  exact h.rest
 ·have hl:loadS S=(staZ,false,0):=by unfold loadS;rw [hn]
  rw [hl]
  simp only [ne_eq,not_true,if_false]
  rw [if_neg (by simp),←hs]
  exact h.rest
theorem start_I:StI (zbZ 16777216) ownSt [] 0 0 where
 st:=rfl
 rq:=⟨by decide,by decide,rfl⟩
 num:=⟨by simp,by simp,by omega⟩
 ok:=by simp
 inv:=newDisk_invS (by decide) (by decide)
 left:=by show (-1:Int)<0;decide
 room:=rfl
 file:=by simp
 man:=.inr ⟨rfl,rfl⟩
 keys:=fun n hn=>by simp [zbZ,aget] at hn
 few:=by simp
 tot:=by simp [totG]
end Go.Proofs.YtlmfhjipbjkcbaaGreatDoor
namespace Go.Proofs.YtlmfhjipbjkcbaaGreatDoor
open Go.RowKit Go.Sort Go.Lib
theorem flsOf_snoc (G:Gs) (n:Nat) (Q:List Prt):flsOf (G++[(n,Q)])=flsOf G++[zdm (nameS 115 n) Q]:=by simp [flsOf]
theorem totG_snoc (G:Gs) (n:Nat) (Q:List Prt):totG (G++[(n,Q)])=totG G+manyP Q:=by simp [totG]
theorem StI.flush_eq {S:DiskS}{s:Sta}{G:Gs}{X c:Nat}(h:StI S s G X c) (i:Int) (Q:List Prt):flushSt s X i i km5 Q=⟨((X+1:Nat):Int),i,i,km5,flsOf (G++[(X,Q)]),[]⟩:=by
 unfold flushSt
 rw [flsOf_snoc,h.fl,h.ti]
 simp
theorem put_file {S:DiskS}{s:Sta}{G:Gs}{X c:Nat}(h:StI S s G X c) {Q:List Prt}(hQ:PrtsOk Q) (hX:X<1000) {s':Sta}(hr:staR s'=true) (hm:s'.km.ok) :
 ∃S1 S2,zbO S (nameS 115 X) (segB Q)=(0,S1)∧saveS S1 s'=(0,S2)∧DInv S2 (c+7)∧S2.left<0∧S2.room=16777216 ∧
  ∀k,aget S2.files k=if k=fM then some ⟨sealL 7 (staP s'),(sealL 7 (staP s')).length,true⟩ else if k=nameS 115 X then some ⟨segB Q,(segB Q).length,true⟩ else aget S.files k:=by
 have hu:=h.used
 have hl:=h.len
 have hb:=segB_len hQ
 have hrm:=h.room
 have hlf:=h.left
 obtain ⟨S1,e1,o1⟩:=write_ok (nameS_ok 115 X) h.left (h.noX (Nat.le_refl _) (by omega)) (b:=segB Q) (by omega) (by omega) (by omega)
 have i1:DInv S1 (c+3):=by have h:=h.inv.write (nameS 115 X) (segB Q);rw [e1] at h;exact h
 have l1:S1.left=S.left:=by rw [o1.left,zbR hlf]
 have n1:aget S1.files fN=none:=by
  rw [o1.get];unfold updG
  rw [if_neg (fun e=>nameS_fN X e.symm)]
  exact h.noN
 obtain ⟨S2,e2,o2⟩:=save_ok i1 (by omega) n1 hr hm (by have:=o1.used;have:=o1.room;omega) (by have:=o1.len;omega)
 have i2:DInv S2 (c+7):=by have h:=i1.save s';rw [e2] at h;exact h
 refine ⟨S1,S2,e1,e2,i2,by rw [o2.left,zbR (by omega)];omega,by rw [o2.room,o1.room];exact hrm,fun k=>?_⟩
 rw [o2.get]
 unfold updG
 by_cases e:k=fM
 ·rw [if_pos e,if_pos e]
 ·rw [if_neg e,if_neg e]
  show aget S1.files k=_
  rw [o1.get]
  unfold updG
  by_cases e':k=nameS 115 X
  ·rw [if_pos e']
  ·rw [if_neg e']
theorem step_flush {S:DiskS}{s:Sta}{G:Gs}{X c:Nat}(h:StI S s G X c) {Q:List Prt}(hQ:PrtsOk Q) (hv:∀q∈Q,∀p∈q.2,-9223372036854775808≤p.v∧p.v≤9223372036854775807) {i:Int}(hi:s.r≤i∧i≤1000) (hG:G.length<30) (hX:X<1000) (ht:totG G+manyP Q≤600) :
 ∃S1 S2,zbO S (nameS 115 X) (segB Q)=(0,S1)∧saveS S1 (flushSt s X i i km5 Q)=(0,S2)∧StI S2 (flushSt s X i i km5 Q) (G++[(X,Q)]) (X+1) (c+7):=by
 have h0:=h.rq
 have hok:∀g∈G++[(X,Q)],PrtsOk g.2∧∀q∈g.2,∀p∈q.2,-9223372036854775808≤p.v∧p.v≤9223372036854775807:=fun g hg=>by
  rcases List.mem_append.1 hg with e|e
  ·exact h.ok g e
  ·obtain rfl:=List.mem_singleton.1 e
   exact ⟨hQ,hv⟩
 have hr:staR (flushSt s X i i km5 Q)=true:=by
  rw [h.flush_eq]
  exact staR_of (fun g hg=>(hok g hg).1) (by simp;omega) (by omega) (by omega) (by omega)
 obtain ⟨S1,S2,e1,e2,i2,l2,r2,g2⟩:=put_file h hQ hX hr (by rw [h.flush_eq];exact km5_ok)
 have hne:∀g∈G,nameS 115 g.1≠nameS 115 X:=fun g hg e=>by
  have h1:=h.num.2.1 g hg
  have h2:=h.num.2.2
  have:=nameS_inj (by omega) (by omega) e
  omega
 refine ⟨S1,S2,e1,e2,?_⟩
 refine { st:=h.flush_eq i Q,rq:=⟨by show 0≤i;omega,hi.2,rfl⟩,num:=⟨?_,fun g hg=>?_,by omega⟩,ok:=hok,inv:=i2,left:=l2,room:=r2,file:=fun g hg=>?_,man:=.inl ⟨_,by rw [g2,if_pos rfl],rfl⟩,keys:=fun k hk=>?_,few:=by simp;omega,tot:=by rw [totG_snoc];exact ht }
 ·rw [List.map_append,List.nodup_append]
  refine ⟨h.num.1,by simp,fun a ha b hb e=>?_⟩
  obtain ⟨g,hg,rfl⟩:=List.mem_map.1 ha
  have:b=X:=by simpa using hb
  have:=h.num.2.1 g hg
  omega
 ·rcases List.mem_append.1 hg with e|e
  ·have:=h.num.2.1 g e;omega
  ·obtain rfl:=List.mem_singleton.1 e
   exact Nat.lt_succ_self X
 ·rcases List.mem_append.1 hg with e|e
  ·rw [g2,if_neg (nameS_fM _),if_neg (hne g e)]
   exact h.file g e
  ·obtain rfl:=List.mem_singleton.1 e
   exact ⟨_,by rw [g2,if_neg (nameS_fM _),if_pos rfl],rfl⟩
 ·rw [g2] at hk
  by_cases e:k=fM
  ·exact .inl e
  ·rw [if_neg e] at hk
   by_cases e':k=nameS 115 X
   ·exact .inr ⟨(X,Q),by simp,e'⟩
   ·rw [if_neg e'] at hk
    rcases h.keys k hk with h1|⟨g,hg,h1⟩
    ·exact .inl h1
    ·exact .inr ⟨g,by simp [hg],h1⟩
theorem StI.comp_eq {S:DiskS}{s:Sta}{G:Gs}{X c:Nat}(h:StI S s G X c) (Q:List Prt):zdC s X Q=⟨((X+1:Nat):Int),s.r,s.q,km5,flsOf [(X,Q)],[]⟩:=by
 unfold zdC
 rw [h.km,h.ti]
 simp [flsOf]
theorem step_compact {S:DiskS}{s:Sta}{G:Gs}{X c:Nat}(h:StI S s G X c) {Q:List Prt}(hQ:PrtsOk Q) (hv:∀q∈Q,∀p∈q.2,-9223372036854775808≤p.v∧p.v≤9223372036854775807) (hX:X<1000) (ht:manyP Q≤600) :
 ∃S1 S2 S3,zbO S (nameS 115 X) (segB Q)=(0,S1)∧saveS S1 (zdC s X Q)=(0,S2)∧tidyS S2 (zdC s X Q)=(0,S3)∧StI S3 (zdC s X Q) [(X,Q)] (X+1) (c+1031):=by
 have h0:=h.rq
 have hok:∀g∈[(X,Q)],PrtsOk g.2∧∀q∈g.2,∀p∈q.2,-9223372036854775808≤p.v∧p.v≤9223372036854775807:=fun g hg=>by
  obtain rfl:=List.mem_singleton.1 hg
  exact ⟨hQ,hv⟩
 have hr:staR (zdC s X Q)=true:=by
  rw [h.comp_eq]
  exact staR_of (fun g hg=>(hok g hg).1) (by simp) (by omega) (by omega) (by omega)
 obtain ⟨S1,S2,e1,e2,i2,l2,r2,g2⟩:=put_file h hQ hX hr (by rw [h.comp_eq];exact km5_ok)
 have hN:zcc (zdC s X Q)=[nameS 115 X]:=by rw [h.comp_eq,names_flsOf];rfl
 have hkeys:∀k,(aget S2.files k).isSome=true→k=fM∨∃n,k=nameS 115 n:=fun k hk=>by
  rw [g2] at hk
  by_cases e:k=fM
  ·exact .inl e
  ·rw [if_neg e] at hk
   by_cases e':k=nameS 115 X
   ·exact .inr ⟨X,e'⟩
   ·rw [if_neg e'] at hk
    rcases h.keys k hk with h1|⟨g,_,h1⟩
    ·exact .inl h1
    ·exact .inr ⟨_,h1⟩
 have hR:S2.list fR=[]:=by
  cases hl:S2.list fR with
  | nil=>rfl
  | cons f L =>
   have hm:f∈S2.list fR:=by rw [hl];simp
   obtain ⟨h1,h2⟩:=zdR.1 hm
   rcases hkeys f h1 with e|⟨n,e⟩
   ·rw [e,pre_m.2] at h2;cases h2
   ·rw [e,pre_r] at h2;cases h2
 have hL:tidyL S2=S2.list fS:=by unfold tidyL;rw [hR];rfl
 obtain ⟨S3,e3,o3⟩:=tidy_ok (N:=zcc (zdC s X Q)) (L:=tidyL S2) i2 l2 (by rw [hL];exact list_nodupS i2.ok.names _) (fun f hf=>by
  rw [hL] at hf
  obtain ⟨h1,h2⟩:=zdR.1 hf
  refine ⟨h1,?_⟩
  rcases hkeys f h1 with e|⟨n,e⟩
  ·rw [e,pre_m.1] at h2;cases h2
  ·rw [e];exact nameS_ok _ _)
 have i3:DInv S3 (c+1031):=by
  have h3:=i2.tidy (N:=zcc (zdC s X Q)) (L:=tidyL S2)
  rw [e3] at h3
  exact h3.mono (by have:=(tidyL_small i2).1;omega)
 have g3:∀k,aget S3.files k=if k=fM then some ⟨sealL 7 (staP (zdC s X Q)),(sealL 7 (staP (zdC s X Q))).length,true⟩ else if k=nameS 115 X then some ⟨segB Q,(segB Q).length,true⟩ else none:=fun k=>by
  rw [o3.get]
  by_cases e:k=fM
  ·rw [if_pos e,if_neg,g2,if_pos e]
   rintro ⟨h1,_⟩
   rw [hL] at h1
   have h2:=(zdR.1 h1).2
   rw [e,pre_m.1] at h2;cases h2
  ·rw [if_neg e]
   by_cases e':k=nameS 115 X
   ·rw [if_pos e',if_neg,g2,if_neg e,if_pos e']
    rintro ⟨_,h1⟩
    exact h1 (by rw [hN,e'];simp)
   ·rw [if_neg e']
    by_cases hk:(aget S2.files k).isSome=true
    ·rw [if_pos]
     refine ⟨?_,by rw [hN];simpa using e'⟩
     rw [hL]
     refine zdR.2 ⟨hk,?_⟩
     rcases hkeys k hk with h1|⟨n,h1⟩
     ·exact absurd h1 e
     ·rw [h1];exact pre_s n
    ·have hk2:aget S2.files k=none:=by simpa using hk
     rw [hk2]
     split<;>rfl
 refine ⟨S1,S2,S3,e1,e2,e3,?_⟩
 refine { st:=h.comp_eq Q,rq:=h0,num:=⟨by simp,fun g hg=>?_,by omega⟩,ok:=hok,inv:=i3,left:=by rw [o3.left,zbR l2];exact l2,room:=by rw [o3.room];exact r2,file:=fun g hg=>?_,man:=.inl ⟨_,by rw [g3,if_pos rfl],rfl⟩,keys:=fun k hk=>?_,few:=by simp,tot:=by simp [totG];exact ht }
 ·obtain rfl:=List.mem_singleton.1 hg
  exact Nat.lt_succ_self X
 ·obtain rfl:=List.mem_singleton.1 hg
  exact ⟨_,by rw [g3,if_neg (nameS_fM _),if_pos rfl],rfl⟩
 ·rw [g3] at hk
  by_cases e:k=fM
  ·exact .inl e
  ·rw [if_neg e] at hk
   by_cases e':k=nameS 115 X
   ·exact .inr ⟨(X,Q),by simp,e'⟩
   ·rw [if_neg e'] at hk;cases hk
end Go.Proofs.YtlmfhjipbjkcbaaGreatDoor
namespace Go.Proofs.YtlmfhjipbjkcbaaGreatDoor
open Go.RowKit Go.Sort Go.Lib
def ofN:List Prt→ByteArray→List Pt
 | [],_=>[]
 | q::Q,n=>if q.1=n then q.2 else ofN Q n
theorem ofN_out:∀{Q:List Prt}{n:ByteArray},n∉Q.map Prod.fst→ofN Q n=[]
 | [],_,_=>rfl
 | q::Q,n,h=>by
  rw [ofN,if_neg (fun e=>h (by simp [e])),ofN_out (fun e=>h (by simp at e ⊢;exact .inr e))]
theorem ofN_at:∀{Q:List Prt}{n:ByteArray},n∈Q.map Prod.fst→∃(i:Nat) (q:Prt),Q[i]?=some q∧q.1=n∧ofN Q n=q.2
 | [],n,h=>by simp at h
 | q::Q,n,h=>by
  by_cases e:q.1=n
  ·exact ⟨0,q,rfl,e,by rw [ofN,if_pos e]⟩
  ·obtain ⟨i,r,h1,h2,h3⟩:=ofN_at (Q:=Q) (n:=n) (by
    rw [List.map_cons,List.mem_cons] at h
    exact h.resolve_left (fun x=>e x.symm))
   exact ⟨i+1,r,by simpa using h1,h2,by rw [ofN,if_neg e,h3]⟩
def VOk (l:List Pt):Prop:=∀p∈l,-9223372036854775808≤p.v∧p.v≤9223372036854775807
theorem hasP_of {Q:List Prt}(h:PrtsOk Q) (hv:∀q∈Q,VOk q.2) (n:ByteArray):HasP (zaw Q) n (ofN Q n):=by
 rcases Classical.em (n∈Q.map Prod.fst) with hn|hn
 ·obtain ⟨i,q,h1,h2,h3⟩:=ofN_at hn
  have hm:=List.mem_of_getElem? h1
  rw [h3]
  exact .inr ⟨i,itemOf q,by unfold zaw;rw [List.getElem?_map,h1];rfl,h2,⟨rfl,rfl,rfl,rfl,h.col q hm,hv q hm⟩⟩
 ·exact .inl ⟨by rw [namesI_of];exact hn,ofN_out hn⟩
theorem sum_ite {N:List ByteArray}(h:N.Nodup) (m:ByteArray) (c:Nat):(N.map fun n=>if m=n then c else 0).sum≤c:=by
 induction N with
 | nil=>simp
 | cons n N ih =>
  obtain ⟨h1,h2⟩:=List.nodup_cons.1 h
  rw [List.map_cons,List.sum_cons]
  by_cases e:m=n
  ·rw [if_pos e]
   have:(N.map fun n=>if m=n then c else 0).sum=0:=by
    have:∀(M:List ByteArray),m∉M→(M.map fun n=>if m=n then c else 0).sum=0:=by
     intro M
     induction M with
     | nil=>simp
     | cons x M ih =>
      intro hx
      rw [List.map_cons,List.sum_cons,if_neg (fun e=>hx (by simp [e])),ih (fun e=>hx (by simp [e]))]
    exact this N (by rw [e];exact h1)
   omega
  ·rw [if_neg e]
   have:=ih h2
   omega
theorem sum_add (N:List ByteArray) (f g:ByteArray→Nat):(N.map fun n=>f n+g n).sum=(N.map f).sum+(N.map g).sum:=by
 induction N with
 | nil=>rfl
 | cons n N ih=>simp only [List.map_cons,List.sum_cons,ih];omega
theorem sum_le {N:List ByteArray}{f g:ByteArray→Nat}(h:∀n∈N,f n≤g n):(N.map f).sum≤(N.map g).sum:=by
 induction N with
 | nil=>simp
 | cons n N ih =>
  have h1:=h n (by simp)
  have h2:=ih (fun m hm=>h m (by simp [hm]))
  simp only [List.map_cons,List.sum_cons];omega
theorem ofN_sum {N:List ByteArray}(h:N.Nodup):∀(Q:List Prt),(N.map fun n=>(ofN Q n).length).sum≤manyP Q
 | []=>by
  have:(N.map fun n=>(ofN [] n).length)=N.map fun _=>0:=rfl
  rw [this]
  clear h this
  induction N with
  | nil=>simp
  | cons n N ih=>simp only [List.map_cons,List.sum_cons];omega
 | q::Q=>by
  have e:manyP (q::Q)=q.2.length+manyP Q:=by simp [manyP]
  have h1:=ofN_sum h Q
  have h2:=sum_ite h q.1 q.2.length
  have h3:(N.map fun n=>(ofN (q::Q) n).length).sum≤(N.map fun n=>(if q.1=n then q.2.length else 0)+(ofN Q n).length).sum:=sum_le (fun n _=>by
   rw [ofN]
   split<;>omega)
  rw [sum_add] at h3
  omega
def holdG (G:Gs) (n:ByteArray):List (List Pt):=G.map fun g=>ofN g.2 n
theorem holdG_sum {N:List ByteArray}(h:N.Nodup):∀(G:Gs),(N.map fun n=>((holdG G n).map List.length).sum).sum≤totG G
 | []=>by
  have:(N.map fun n=>((holdG [] n).map List.length).sum)=N.map fun _=>0:=rfl
  rw [this]
  clear h this
  induction N with
  | nil=>simp
  | cons n N ih=>simp only [List.map_cons,List.sum_cons];omega
 | g::G=>by
  have e:totG (g::G)=manyP g.2+totG G:=by simp [totG]
  have h1:=holdG_sum h G
  have h2:=ofN_sum h g.2
  have h3:(N.map fun n=>((holdG (g::G) n).map List.length).sum)=N.map fun n=>(ofN g.2 n).length+((holdG G n).map List.length).sum:=by
   refine List.map_congr_left fun n _=>?_
   simp [holdG]
  rw [h3,sum_add]
  omega
theorem holdG_one (G:Gs) (n:ByteArray):((holdG G n).map List.length).sum≤totG G:=by
 have:=holdG_sum (N:=[n]) (by simp) G
 simpa using this
theorem holdG_at {G:Gs}{n:ByteArray}{l:List Pt}(h:l∈holdG G n):∃g∈G,l=ofN g.2 n:=by
 obtain ⟨g,hg,rfl⟩:=List.mem_map.1 h
 exact ⟨g,hg,rfl⟩
def OkG (G:Gs):Prop:=∀g∈G,PrtsOk g.2∧∀q∈g.2,VOk q.2
theorem zdV {G:Gs}(h:OkG G) (n:ByteArray):∀l∈holdG G n,Rises l:=fun l hl=>by
 obtain ⟨g,hg,rfl⟩:=holdG_at hl
 exact (hasP_of (h g hg).1 (h g hg).2 n).rises
theorem holdG_point {G:Gs}(h:OkG G) {n:ByteArray}{l:List Pt}(hl:l∈holdG G n) {p:Pt}(hp:p∈l):(-1152921504606846976≤p.t∧p.t≤1152921504606846976∧0≤p.s∧p.s≤1152921504606846976)∧-9223372036854775808≤p.v∧p.v≤9223372036854775807:=by
 obtain ⟨g,hg,rfl⟩:=holdG_at hl
 rcases hasP_of (h g hg).1 (h g hg).2 n with ⟨_,e⟩|⟨_,_,_,_,hi⟩
 ·rw [e] at hp;simp at hp
 ·exact ⟨colV_mem hi.col hp,hi.v p hp⟩
theorem cut_all {l:List Pt}(h:∀p∈l,-1152921504606846976≤p.t∧p.t≤1152921504606846976):cutL (-1152921504606846976) 1152921504606846977 l=l:=by
 unfold cutL
 rw [List.filter_eq_self]
 intro p hp
 have:=h p hp
 simp;omega
theorem holdG_whole {G:Gs}(h:OkG G) (n:ByteArray):(holdG G n).map (cutL (-1152921504606846976) 1152921504606846977)=holdG G n:=by
 conv=>rhs;rw [←List.map_id (holdG G n)]
 refine List.map_congr_left fun l hl=>cut_all fun p hp=>?_
 have:=holdG_point h hl hp
 exact ⟨this.1.1,this.1.2.1⟩
theorem StI.okG {S:DiskS}{s:Sta}{G:Gs}{X c:Nat}(h:StI S s G X c):OkG G:=h.ok
theorem StI.onDisk {S:DiskS}{s:Sta}{G:Gs}{X c:Nat}(h:StI S s G X c) {k:Nat}{F:Fl}(hF:s.fl[k]?=some F):∃g,G[k]?=some g∧F=zdm (nameS 115 g.1) g.2∧g∈G∧OnDisk S F (zaw g.2):=by
 rw [h.fl] at hF
 unfold flsOf at hF
 rw [List.getElem?_map] at hF
 cases hg:G[k]? with
 | none=>rw [hg] at hF;cases hF
 | some g =>
  rw [hg] at hF
  have e:F=zdm (nameS 115 g.1) g.2:=(Option.some.inj hF).symm
  have hm:=List.mem_of_getElem? hg
  subst e
  exact ⟨g,rfl,rfl,hm,⟨h.file g hm,(h.ok g hm).1.seg,rfl,rfl,rfl⟩⟩
theorem StI.flLen {S:DiskS}{s:Sta}{G:Gs}{X c:Nat}(h:StI S s G X c):s.fl.length=G.length:=by rw [h.fl];simp [flsOf]
theorem StI.holdP {S:DiskS}{s:Sta}{G:Gs}{X c:Nat}(h:StI S s G X c) (n:ByteArray):HoldP S s.fl n (holdG G n):=by
 refine ⟨by rw [h.flLen];simp [holdG],fun k F l hF hl=>?_⟩
 obtain ⟨g,hg,_,hm,ho⟩:=h.onDisk hF
 unfold holdG at hl
 rw [List.getElem?_map,hg] at hl
 have e:l=ofN g.2 n:=(Option.some.inj hl).symm
 subst e
 exact ⟨_,ho,hasP_of (h.ok g hm).1 (h.ok g hm).2 n⟩
def zcK (G:Gs):List (List SegI):=G.map fun g=>zaw g.2
theorem StI.holdS {S:DiskS}{s:Sta}{G:Gs}{X c:Nat}(h:StI S s G X c):HoldS S s.fl (zcK G):=by
 refine ⟨by rw [h.flLen];simp [zcK],fun k F L hF hL=>?_⟩
 obtain ⟨g,hg,_,_,ho⟩:=h.onDisk hF
 unfold zcK at hL
 rw [List.getElem?_map,hg] at hL
 have e:L=zaw g.2:=(Option.some.inj hL).symm
 subst e
 exact ho
theorem StI.holdFew {S:DiskS}{s:Sta}{G:Gs}{X c:Nat}(h:StI S s G X c) (n:ByteArray):(holdG G n).length+((holdG G n).map List.length).sum<4000:=by
 have h1:=holdG_one G n
 have h2:=h.tot
 have h3:=h.few
 have h4:(holdG G n).length=G.length:=by simp [holdG]
 omega
theorem compS_rises {l:List ByteArray}(h:l.Pairwise fun a b=>bl a≤bl b):(compS l).Pairwise fun a b=>bl a<bl b:=by
 unfold compS Lib.compact
 have hp:(compactUpTo (l.map bl).toArray (l.map bl).length).Pairwise (·< ·):=by
  refine upTo_rises (fun i j hij hj=>?_) (by simp)
  have hj':j<l.length:=by simpa using hj
  rw [getElem!_pos _ i (by simp;omega),getElem!_pos _ j hj]
  simpa using List.pairwise_iff_getElem.1 h i j (by omega) hj' hij
 rw [List.pairwise_map]
 refine hp.imp fun {a b} hab=>?_
 rw [bl_lb,bl_lb]
 exact hab
theorem allNames_mem {G:Gs}{n:ByteArray}:n∈zbc (zcK G)↔∃g∈G,n∈g.2.map Prod.fst:=by
 unfold zbc
 rw [compS_mem,(zct _).mem_iff,List.mem_flatMap]
 unfold zcK
 constructor
 ·rintro ⟨L,hL,hn⟩
  obtain ⟨g,hg,rfl⟩:=List.mem_map.1 hL
  exact ⟨g,hg,by rw [namesI_of] at hn;exact hn⟩
 ·rintro ⟨g,hg,hn⟩
  exact ⟨_,List.mem_map_of_mem hg,by rw [namesI_of];exact hn⟩
theorem allNames_rises (LS:List (List SegI)):(zbc LS).Pairwise fun a b=>bl a<bl b:=compS_rises (zdi _)
theorem allNames_nodup (LS:List (List SegI)):(zbc LS).Nodup:=compS_nodup (zdi _)
structure AllQ (G:Gs) (Q:List Prt):Prop where
 nm:Q.map Prod.fst=zbc (zcK G)
 mg:∀q∈Q,IsMerge (((holdG G q.1).map (cutL (-1152921504606846976) 1152921504606846977)).filter neL) q.2
theorem AllQ.isM {G:Gs}{Q:List Prt}(h:AllQ G Q) (hG:OkG G) {q:Prt}(hq:q∈Q):IsMerge ((holdG G q.1).filter neL) q.2:=by
 have:=h.mg q hq
 rwa [holdG_whole hG] at this
theorem neRises {H:List (List Pt)}(h:∀l∈H,Rises l):∀l∈H.filter neL,Rises l:=fun l hl=>h l (List.mem_filter.1 hl).1
theorem AllQ.eqv {G:Gs}{Q:List Prt}(h:AllQ G Q) (hG:OkG G) {q:Prt}(hq:q∈Q):EqvL (holdG G q.1) [q.2] :=
 (eqv_ne _).symm.trans (EqvL.merged (neRises (zdV hG q.1)) (h.isM hG hq))
theorem AllQ.point {G:Gs}{Q:List Prt}(h:AllQ G Q) (hG:OkG G) {q:Prt}(hq:q∈Q) {p:Pt}(hp:p∈q.2):∃l∈holdG G q.1,p∈l:=by
 have:=(h.eqv hG hq p).2 (best_one.2 hp)
 exact this.mem
theorem AllQ.v {G:Gs}{Q:List Prt}(h:AllQ G Q) (hG:OkG G):∀q∈Q,VOk q.2:=fun q hq p hp=>by
 obtain ⟨l,hl,hpl⟩:=h.point hG hq hp
 exact (holdG_point hG hl hpl).2
theorem AllQ.len {G:Gs}{Q:List Prt}(h:AllQ G Q) {q:Prt}(hq:q∈Q):q.2.length≤((holdG G q.1).map List.length).sum:=merged_le (h.mg q hq)
theorem AllQ.many {G:Gs}{Q:List Prt}(h:AllQ G Q):manyP Q≤totG G:=by
 have h1:=holdG_sum (allNames_nodup (zcK G)) G
 rw [←h.nm,List.map_map] at h1
 have h2:∀(L:List Prt),(∀q∈L,q.2.length≤((holdG G q.1).map List.length).sum)→manyP L≤(L.map ((fun n=>((holdG G n).map List.length).sum) ∘ Prod.fst)).sum:=by
  intro L
  induction L with
  | nil=>intro _;exact Nat.le_refl _
  | cons q L ih =>
   intro hL
   have a:=ih (fun x hx=>hL x (by simp [hx]))
   have b:=hL q (by simp)
   have e:manyP (q::L)=q.2.length+manyP L:=by simp [manyP]
   rw [e,List.map_cons,List.sum_cons]
   simp only [Function.comp_apply] at a ⊢
   omega
 have:=h2 Q (fun q hq=>h.len hq)
 omega
theorem AllQ.prts {G:Gs}{Q:List Prt}(h:AllQ G Q) (hG:OkG G) (h0:0<G.length) (ht:totG G≤600):PrtsOk Q:=by
 have hn:∀q∈Q,∃g∈G,q.1∈g.2.map Prod.fst:=fun q hq=>allNames_mem.1 (by rw [←h.nm];exact List.mem_map_of_mem hq)
 refine ⟨fun q hq=>?_,fun q hq=>?_,by rw [h.nm];exact allNames_rises _,?_,by have:=h.many;omega⟩
 ·obtain ⟨g,hg,hm⟩:=hn q hq
  obtain ⟨r,hr,e⟩:=List.mem_map.1 hm
  rw [←e]
  exact (hG g hg).1.name r hr
 ·refine colV_of (h.isM hG hq).rises (fun p hp=>?_) ?_ (by have:=h.len hq;have:=holdG_one G q.1;omega)
  ·obtain ⟨l,hl,hpl⟩:=h.point hG hq hp
   exact (holdG_point hG hl hpl).1
  ·obtain ⟨g,hg,hm⟩:=hn q hq
   obtain ⟨i,r,h1,_,h3⟩:=ofN_at hm
   have hc:=zck ((hG g hg).1.col r (List.mem_of_getElem? h1))
   obtain ⟨p,hp⟩:∃p,p∈r.2:=List.exists_mem_of_length_pos hc.1
   obtain ⟨y,hy,_⟩:=Best.has (zdV hG q.1) (q:=p) ⟨_,List.mem_map_of_mem (f:=fun g:Nat×List Prt=>ofN g.2 q.1) hg,by show p∈ofN g.2 q.1;rw [h3];exact hp⟩
   exact List.length_pos_of_mem (best_one.1 ((h.eqv hG hq y).1 hy))
 ·obtain ⟨g,hg⟩:=List.exists_mem_of_length_pos h0
  obtain ⟨r,hr⟩:=List.exists_mem_of_length_pos (hG g hg).1.pos
  have:r.1∈Q.map Prod.fst:=by rw [h.nm];exact allNames_mem.2 ⟨g,hg,List.mem_map_of_mem hr⟩
  have:=List.length_pos_of_mem this
  simpa using this
theorem AllQ.all {G:Gs}{Q:List Prt}(h:AllQ G Q) (hG:OkG G) (X:Nat) (n:ByteArray):EqvL (holdG [(X,Q)] n) (holdG G n):=by
 have e:holdG [(X,Q)] n=[ofN Q n]:=rfl
 rw [e]
 rcases Classical.em (n∈Q.map Prod.fst) with hn|hn
 ·obtain ⟨i,q,h1,h2,h3⟩:=ofN_at hn
  rw [h3,←h2]
  exact (h.eqv hG (List.mem_of_getElem? h1)).symm
 ·rw [ofN_out hn]
  have he:∀l∈holdG G n,l=[]:=fun l hl=>by
   obtain ⟨g,hg,rfl⟩:=holdG_at hl
   refine ofN_out (fun hm=>hn ?_)
   rw [h.nm]
   exact allNames_mem.2 ⟨g,hg,hm⟩
  intro p
  constructor
  ·intro hp;obtain ⟨l,hl,hpl⟩:=hp.mem;rw [List.mem_singleton.1 hl] at hpl;simp at hpl
  ·intro hp;obtain ⟨l,hl,hpl⟩:=hp.mem;rw [he l hl] at hpl;simp at hpl
theorem modH_snoc (F:List PaM) (q:PaM) (n:ByteArray):modH (F++[q]) n=modH F n++[if q.nm=n then q.l else []]:=by simp [modH]
theorem holdG_snoc (G:Gs) (X:Nat) (Q:List Prt) (n:ByteArray):holdG (G++[(X,Q)]) n=holdG G n++[ofN Q n]:=by simp [holdG]
theorem modH_sum (F:List PaM) (n:ByteArray):((modH F n).map List.length).sum≤(F.map fun q=>q.l.length).sum:=by
 induction F with
 | nil=>simp [modH]
 | cons q F ih =>
  unfold modH at ih ⊢
  simp only [List.map_cons,List.sum_cons]
  split
  ·omega
  ·simp only [List.length_nil];omega
theorem modH_rises {F:List PaM}(h:∀q∈F,Rises q.l) (n:ByteArray):∀l∈modH F n,Rises l:=fun l hl=>by
 obtain ⟨q,hq,rfl⟩:=List.mem_map.1 hl
 split
 ·exact h q hq
 ·exact Rises.nil
structure ModI (G:Gs) (F:List PaM):Prop where
 eqv:∀n,EqvL (holdG G n) (modH F n)
 col:∀q∈F,colV q.l=true
 few:F.length≤25
 sum:(F.map fun q=>q.l.length).sum≤600
theorem ModI.rises {G:Gs}{F:List PaM}(h:ModI G F):∀q∈F,Rises q.l:=fun q hq=>colV_rises (h.col q hq)
theorem ModI.start:ModI [] []:=⟨fun _=>EqvL.refl _,by simp,by simp,by simp⟩
theorem ModI.add {G:Gs}{F:List PaM}(h:ModI G F) (hG:OkG G) (X:Nat) {q:PaM}(hc:colV q.l=true) (h1:F.length<25) (h2:(F.map fun q=>q.l.length).sum+q.l.length≤600):ModI (G++[(X,[(q.nm,q.l)])]) (F++[q]):=by
 refine ⟨fun n=>?_,fun r hr=>?_,by simp;omega,by simp;omega⟩
 ·rw [holdG_snoc,modH_snoc]
  have e:ofN [(q.nm,q.l)] n=if q.nm=n then q.l else []:=by rw [ofN,ofN]
  rw [e]
  refine (h.eqv n).append (zdV hG n) (modH_rises h.rises n) (fun l hl=>?_)
  rw [List.mem_singleton.1 hl]
  split
  ·exact colV_rises hc
  ·exact Rises.nil
 ·rcases List.mem_append.1 hr with hr|hr
  ·exact h.col r hr
  ·rw [List.mem_singleton.1 hr];exact hc
theorem ModI.compact {G:Gs}{F:List PaM}(h:ModI G F) (hG:OkG G) {Q:List Prt}(hQ:AllQ G Q) (X:Nat):ModI [(X,Q)] F :=
 ⟨fun n=>(hQ.all hG X n).trans (h.eqv n),h.col,h.few,h.sum⟩
theorem ModI.few2 {G:Gs}{F:List PaM}(h:ModI G F) (n:ByteArray):F.length+((modH F n).map List.length).sum<4000:=by
 have h1:=h.few
 have h2:=h.sum
 have h3:=modH_sum F n
 omega
end Go.Proofs.YtlmfhjipbjkcbaaGreatDoor
namespace Go.Proofs.YtlmfhjipbjkcbaaGreatDoor
open Go.RowKit Go.Sort Go.Lib
def blksV (v:StoV):List Nat:=(if v.fn=0 then [] else (v.fa.map (·.block)).toList)++(if v.tn=0 then [] else (v.ta.map (·.block)).toList)
theorem mem_blksV {v:StoV}{g:Nat}:g∈blksV v↔(v.fn≠0∧v.fa.map (·.block)=some g)∨(v.tn≠0∧v.ta.map (·.block)=some g):=by
 unfold blksV
 rw [List.mem_append]
 by_cases h1:v.fn=0<;>by_cases h2:v.tn=0<;>simp [h1,h2,Option.mem_toList]
theorem StoV.New.blks {v:StoV}{w:World}(h:v.New w):∀g∈blksV v,w.heap.size≤g:=fun g hg=>(mem_blksV.1 hg).elim (fun e=>h.1 g e.2) (fun e=>h.2 g e.2)
theorem StoAt.blks {w:World}{p d:Nat}{s:Sta}{S:DiskS}{B:List Nat}{v:StoV}(h:StoAt w p d s S B v):∀g∈blksV v,g<w.heap.size:=fun g hg=>(mem_blksV.1 hg).elim (fun e=>(h.off.f e.1 g e.2).2) (fun e=>(h.off.t e.1 g e.2).2)
structure StoI (w0:World) (p d:Nat) (r:Int) (G:Gs) (X c:Nat) (B:List Nat) (w:World):Prop where
 at':∃s S B0 v,StoAt w p d s S B0 v∧StI S s G X c∧s.r=r∧(∀b∈B0,b∈B)∧∀g∈blksV v,g∈B
 own:∀b∈B,w0.heap.size≤b
 lt:∀b∈B,b<w.heap.size
 pn:w0.heap.size≤p
 ext:Ext w0 w
 et:HasET w0
def StepTo (w0:World) (p d:Nat) (r:Int) (G:Gs) (X c:Nat) (B:List Nat) (w w':World):Prop :=
 ∃B',StoI w0 p d r G X c B' w'∧Chg (fun b=>b=p∨b∈B) w w'∧∀b∈B',b∈B∨w.heap.size≤b
theorem StoI.grow {w0 w w':World}{p d:Nat}{r r':Int}{G G':Gs}{X X' c c':Nat}{B B0 B':List Nat}(h:StoI w0 p d r G X c B w) {s:Sta}{S:DiskS}{v:StoV}(k:StoAt w' p d s S B' v) (ki:StI S s G' X' c') (kr:s.r=r') (hB0:∀b∈B0,b∈B) (hc:Chg (fun b=>b=p∨b∈B0) w w') (hn:∀b∈B',b∈B0∨w.heap.size≤b) (hv:∀g∈blksV v,g∈B∨w.heap.size≤g):StepTo w0 p d r' G' X' c' B w w':=by
 have hn':∀b∈B'++blksV v,b∈B∨w.heap.size≤b:=fun b hb=>by
  rcases List.mem_append.1 hb with e|e
  ·exact (hn b e).imp (hB0 b) id
  ·exact hv b e
 refine ⟨B'++blksV v,⟨⟨s,S,B',v,k,ki,kr,fun b hb=>List.mem_append_left _ hb,fun g hg=>List.mem_append_right _ hg⟩,fun b hb=>?_,fun b hb=>(List.mem_append.1 hb).elim (k.disk.lt b) (k.blks b),h.pn,?_,h.et⟩,hc.mono (fun i _ e=>e.imp id (hB0 i)),hn'⟩
 ·rcases hn' b hb with e|e
  ·exact h.own b e
  ·have:=h.ext.size;omega
 ·refine (((Chg.of_ext (S:=fun b=>b=p∨b∈B0) h.ext)).trans hc (fun i hi e=>e)).ext (fun i hi e=>?_)
  rcases e with e|e
  ·have:=h.pn;omega
  ·have:=h.own i (hB0 i e);omega
theorem StoI.et' {w0 w:World}{p d:Nat}{r:Int}{G:Gs}{X c:Nat}{B:List Nat}(h:StoI w0 p d r G X c B w):HasET w:=h.et.ext h.ext
theorem StoI.gB {w0 w:World}{p d:Nat}{r:Int}{G:Gs}{X c:Nat}{B B0:List Nat}(h:StoI w0 p d r G X c B w) (hB:∀b∈B0,b∈B):0∉B0:=fun e=>by have:=h.own _ (hB _ e);have:=h.et.lt;omega
theorem StoI.okG' {w0 w:World}{p d:Nat}{r:Int}{G:Gs}{X c:Nat}{B:List Nat}(h:StoI w0 p d r G X c B w):OkG G:=by
 obtain ⟨s,S,B0,v,h1,h2,h3⟩:=h.at'
 exact h2.okG
theorem StoI.next {w0 w w':World}{p d:Nat}{r:Int}{G:Gs}{X c:Nat}{B:List Nat}(h:StoI w0 p d r G X c B w) (hx:Ext w w'):StoI w0 p d r G X c B w':=by
 obtain ⟨s,S,B0,v,h1,h2⟩:=h.at'
 exact ⟨⟨s,S,B0,v,h1.ext hx,h2⟩,h.own,fun b hb=>Nat.lt_of_lt_of_le (h.lt b hb) hx.size,h.pn,h.ext.trans hx,h.et⟩
theorem StoI.beside {w0 w w':World}{p d:Nat}{r:Int}{G:Gs}{X c:Nat}{B:List Nat}{T:Nat→Prop}(h:StoI w0 p d r G X c B w) (hc:Chg T w w') (hp:¬T p) (hB:∀b∈B,¬T b) (h0:∀b,T b→w0.heap.size≤b):StoI w0 p d r G X c B w':=by
 obtain ⟨s,S,B0,v,h1,h2,h3,h4,h5⟩:=h.at'
 refine ⟨⟨s,S,B0,v,h1.apart hc (fun b hb=>hB b (h4 b hb)) hp (fun hn b hb=>hB b (h5 b (mem_blksV.2 (.inl ⟨hn,hb⟩)))) (fun hn b hb=>hB b (h5 b (mem_blksV.2 (.inr ⟨hn,hb⟩)))),h2,h3,h4,h5⟩,h.own,fun b hb=>Nat.lt_of_lt_of_le (h.lt b hb) hc.size,h.pn,?_,h.et⟩
 exact ((Chg.of_ext (S:=T) h.ext).trans hc (fun i hi e=>e)).ext (fun i hi e=>by have:=h0 i e;omega)
theorem StoAt.lens {w:World}{p d:Nat}{s:Sta}{S:DiskS}{B:List Nat}{v:StoV}(h:StoAt w p d s S B v):s.fl.length=v.fn∧s.ti.length=v.tn:=⟨zbo h.st.fl,zaV h.st.ti⟩
theorem one_ok {nm:ByteArray}{l:List Pt}(hn:zaU (bl nm)=true) (hc:colV l=true) (hl:l.length≤600):PrtsOk [(nm,l)] :=
 ⟨fun q hq=>by rw [List.mem_singleton.1 hq];exact hn,fun q hq=>by rw [List.mem_singleton.1 hq];exact hc,by simp,by simp,by simp [manyP];omega⟩
theorem fresh5 {s:Sta}{S:DiskS}{G:Gs}{X c:Nat}(h:StI S s G X c):Fresh s.km km5:=by
 rw [h.km];exact ⟨rfl,rfl,by decide,km5_ok⟩
theorem flush_good {w0 w:World}{p d:Nat}{r:Int}{G:Gs}{X c:Nat}{B:List Nat}(h:StoI w0 p d r G X c B w) (i:Nat) (hr:r≤(i:Int)) (hi:i≤1000) (hX:X<1000) (hG:G.length<30) (hc:c≤500000)
 (a:Option Addr) (ca:Nat) (q:PaM) (hs:Src w 2 (.slice a 1 ca) 1 (pams [q])) (hq:q.Ok w) (hn:zaU (bl q.nm)=true) (hcol:colV q.l=true) (hv:VOk q.l) (ht:totG G+q.l.length≤600) :
 Calls Tryz.prog 11 #[.pointer (some ⟨p,0,none⟩),.slice a 1 ca,.int .i64 (i:Int),.int .i64 (i:Int),.agg #[.bool false,.int .i64 0,.int .i64 5]] w fun e w'=>e=.returned (.int .i64 0)∧StepTo w0 p d (i:Int) (G++[(X,[(q.nm,q.l)])]) (X+1) (c+7) B w w':=by
 obtain ⟨s,S,B0,v,h1,h2,h3,h4,h5⟩:=h.at'
 have hQ:=one_ok hn hcol (by omega)
 have hrq:=h2.rq
 have hfl:=h1.lens
 have e0:s.fl.length=G.length:=h2.flLen
 have e1:s.ti.length=0:=by rw [h2.ti];rfl
 have hz:s.q≤(i:Int):=by have:=hrq.2.2;omega
 have hQe:zaC [q]=[(q.nm,q.l)]:=rfl
 obtain ⟨S1,S2,g1,g2,g3⟩:=step_flush h2 hQ (fun x hx=>by rw [List.mem_singleton.1 hx];exact hv) (i:=(i:Int)) ⟨by omega,by omega⟩ hG hX (by simp [manyP];omega)
 have hF:=stoFlush_any (k:=c) (n:=X) (by omega) h2.inv h1 h2.x (by omega) ⟨by omega,by omega⟩ (i:Int) (i:Int) (by omega) (by omega) hz (by omega) km5 (fresh5 h2) a 1 ca [q] hs (fun x hx=>by rw [List.mem_singleton.1 hx];exact hq) (by rw [hQe];exact hQ) h.et' (h.gB h4)
 rw [hQe] at hF
 refine hF.mono ?_
 intro e w' hw
 unfold WriteTo at hw
 rw [g1] at hw
 simp only [ne_eq,not_true,if_false] at hw
 rw [g2] at hw
 simp only [if_true] at hw
 obtain ⟨rfl,v',hv1,hv2,hv3,B',k1,k2,k3⟩:=hw
 exact ⟨rfl,h.grow k1 g3 rfl h4 k2 k3 (fun g hg=>.inr (hv3.blks g hg))⟩
theorem flush_bad {w0 w:World}{p d:Nat}{r:Int}{G:Gs}{X c:Nat}{B:List Nat}(h:StoI w0 p d r G X c B w) (i:Nat) (hr:r≤(i:Int)) (hi:i≤1000) (hX:X<1000) (hG:G.length<30) (hc:c≤500000)
 (a:Option Addr) (ca:Nat) (q:PaM) (hs:Src w 2 (.slice a 1 ca) 1 (pams [q])) (hq:q.Ok w) (hn:zaU (bl q.nm)=true) (hcol:colV q.l=false) (hql:q.n≤1024) :
 Calls Tryz.prog 11 #[.pointer (some ⟨p,0,none⟩),.slice a 1 ca,.int .i64 (i:Int),.int .i64 (i:Int),.agg #[.bool false,.int .i64 0,.int .i64 5]] w fun e w'=>e=.returned (.int .i64 2)∧StepTo w0 p d r G X c B w w':=by
 obtain ⟨s,S,B0,v,h1,h2,h3,h4,h5⟩:=h.at'
 have hrq:=h2.rq
 have hfl:=h1.lens
 have e0:s.fl.length=G.length:=h2.flLen
 have e1:s.ti.length=0:=by rw [h2.ti];rfl
 have hz:s.q≤(i:Int):=by have:=hrq.2.2;omega
 refine (stoFlush_bad (k:=c) (n:=X) (by omega) h2.inv h1 h2.x (by omega) ⟨by omega,by omega⟩ (i:Int) (i:Int) (by omega) (by omega) hz (by omega) km5 (fresh5 h2) a ca q hs hq hn hcol hql h.et').mono ?_
 rintro e w' ⟨rfl,B',k1,k2,k3⟩
 exact ⟨rfl,h.grow k1 h2 h3 h4 (k2.mono (fun i _ e=>.inr e)) k3 (fun g hg=>.inl (h5 g hg))⟩
theorem compact_none {w0 w:World}{p d:Nat}{r:Int}{G:Gs}{X c:Nat}{B:List Nat}(h:StoI w0 p d r G X c B w) (hG:G.length<2) :
 Calls Tryz.prog 19 #[.pointer (some ⟨p,0,none⟩)] w fun e w'=>e=.returned (.int .i64 13)∧w=w':=by
 obtain ⟨s,S,B0,v,h1,h2,h3,h4,h5⟩:=h.at'
 exact stoCompact_few h1 (by have:=h1.lens.1;have:=h2.flLen;omega)
theorem names_few {G:Gs}(hok:OkG G) (htot:totG G≤600):(zbc (zcK G)).length≤1000000:=by
 have h4:(zbc (zcK G)).length≤((zcK G).flatMap zay).length:=by
  unfold zbc
  exact Nat.le_trans (compS_len _) (by rw [zdj];exact Nat.le_refl _)
 have h5:∀(K:Gs),OkG K→((zcK K).flatMap zay).length≤totG K:=by
  intro K
  induction K with
  | nil=>intro _;simp [zcK]
  | cons g K ih =>
   intro hk
   have a1:=ih (fun x hx=>hk x (by simp [hx]))
   have a2:=(body_of (P:=g.2) (hk g (by simp)).1.col).2
   have e:totG (g::K)=manyP g.2+totG K:=by simp [totG]
   have e':((zcK (g::K)).flatMap zay).length=g.2.length+((zcK K).flatMap zay).length:=by
    simp [zcK,zay,zaw]
   omega
 have:=h5 G hok
 omega
theorem compact_good {w0 w:World}{p d:Nat}{r:Int}{G:Gs}{X c:Nat}{B:List Nat}(h:StoI w0 p d r G X c B w) (hG:2≤G.length) (hX:X<1000) (hc:c≤500000) :
 Calls Tryz.prog 19 #[.pointer (some ⟨p,0,none⟩)] w fun e w'=>e=.returned (.int .i64 0)∧∃Q,AllQ G Q∧StepTo w0 p d r [(X,Q)] (X+1) (c+1031) B w w':=by
 obtain ⟨s,S,B0,v,h1,h2,h3,h4,h5⟩:=h.at'
 have hfl:=h1.lens
 have e0:s.fl.length=G.length:=h2.flLen
 have e1:s.ti.length=0:=by rw [h2.ti];rfl
 have hfew:=h2.few
 have htot:=h2.tot
 have hok:=h2.okG
 have hall:∀Q:List Prt,Q.map Prod.fst=zbc (zcK G)→(∀q∈Q,IsMerge (((holdG G q.1).map (cutL (-1152921504606846976) 1152921504606846977)).filter neL) q.2)→PrtsOk Q :=
  fun Q hn hm=>AllQ.prts ⟨hn,hm⟩ hok (by omega) htot
 have hnl:=names_few hok htot
 refine (stoCompact_any (k:=c) (n:=X) (by omega) h2.inv h1 h2.x (by omega) ⟨by omega,by omega⟩ (zcK G) h2.holdS (holdG G) (fun n _=>⟨h2.holdP n,h2.holdFew n⟩) hnl hall (by omega) h.et' (h.gB h4)).mono ?_
 rintro e w' ⟨Q,hn,hm,ht⟩
 have hQ:AllQ G Q:=⟨hn,hm⟩
 obtain ⟨S1,S2,S3,g1,g2,g3,g4⟩:=step_compact h2 (hQ.prts hok (by omega) htot) (hQ.v hok) hX (by have:=hQ.many;omega)
 unfold TidyTo at ht
 rw [g1] at ht
 simp only [ne_eq,not_true,if_false] at ht
 rw [g2] at ht
 simp only [not_true,if_false] at ht
 rw [g3] at ht
 obtain ⟨rfl,v',hv1,hv2,hv3,B',k1,k2,k3⟩:=ht
 exact ⟨rfl,Q,hQ,h.grow k1 g4 h3 h4 k2 k3 (fun g hg=>.inr (hv3.blks g hg))⟩
theorem fits_own {S:DiskS}{s:Sta}{G:Gs}{X c:Nat}(h:StI S s G X c) (t:Sta) (ht:t=ownSt∨t=(loadS S).1):t.fl.length≤1000000∧t.ti.length≤1000000:=by
 rcases ht with rfl|rfl
 ·exact ⟨by decide,by decide⟩
 ·rcases h.man with ⟨f,hf,_⟩|⟨hn,_⟩
  ·rw [h.load (by rw [hf];rfl)]
   have:=h.few
   exact ⟨by rw [h.flLen];omega,by rw [h.ti];simp⟩
  ·have e:(loadS S).1=staZ:=by unfold loadS;rw [hn]
   rw [e];exact ⟨by decide,by decide⟩
theorem open_good {w1:World}{d:Nat}{S:DiskS}{s:Sta}{G:Gs}{X c:Nat}{B:List Nat}(hd:zbu w1 d S B) (h:StI S s G X c) (hc:c≤500000) (hg:HasET w1) :
 Calls Tryz.prog 10 #[.pointer (some ⟨d,0,none⟩),.int .i64 5,.slice none 0 0] w1 fun e w'=>∃p,e=.returned (.tuple #[.pointer (some ⟨p,0,none⟩),.int .i64 0])∧StoMade w1 d s S B p w':=by
 refine (stoOpen_any (c:=c) h.inv (by omega) hd 5 (by decide) none 0 0 ownSt (alikeB ownSt) hg (fun W hW=>stoFresh_none W 5 (by decide)) (fun W t v v0 hW hs ho hl=>stoAlike_any W t ownSt v v0 hs ho hl (by decide)) (fits_own h)).mono ?_
 intro e w' ho
 unfold OpenSto at ho
 rw [h.open] at ho
 simp only [not_true,ne_eq,if_false] at ho
 rw [h.tidy] at ho
 exact ho
theorem open_new {w0 w1:World}{d:Nat}{B:List Nat}(hd:zbu w1 d (zbZ 16777216) B) (hx:Ext w0 w1) (hB:∀b∈B,w0.heap.size≤b) (hg:HasET w0) :
 Calls Tryz.prog 10 #[.pointer (some ⟨d,0,none⟩),.int .i64 5,.slice none 0 0] w1 fun e w'=>∃p B',e=.returned (.tuple #[.pointer (some ⟨p,0,none⟩),.int .i64 0])∧StoI w0 p d 0 [] 0 0 B' w':=by
 refine (open_good hd start_I (by omega) (hg.ext hx)).mono ?_
 rintro e w' ⟨p,rfl,v,B',k1,kv,k2,k3,k4⟩
 refine ⟨p,B'++blksV v,rfl,⟨⟨_,_,B',v,k1,start_I,rfl,fun b hb=>List.mem_append_left _ hb,fun g hg=>List.mem_append_right _ hg⟩,fun b hb=>?_,fun b hb=>(List.mem_append.1 hb).elim (k1.disk.lt b) (k1.blks b),by have:=hx.size;omega,?_,hg⟩⟩
 ·rcases List.mem_append.1 hb with hb|hb
  ·rcases k3 b hb with e|e
   ·exact hB b e
   ·have:=hx.size;omega
  ·have:=kv.blks b hb
   have:=hx.size;omega
 ·exact ((Chg.of_ext (S:=(·∈B)) hx).trans k2 (fun i hi e=>e)).ext (fun i hi e=>by have:=hB i e;omega)
theorem open_again {w0 w:World}{p d:Nat}{r:Int}{G:Gs}{X c:Nat}{B:List Nat}(h:StoI w0 p d r G X c B w) (hc:c≤500000) :
 Calls Tryz.prog 10 #[.pointer (some ⟨d,0,none⟩),.int .i64 5,.slice none 0 0] w fun e w'=>∃p' B',e=.returned (.tuple #[.pointer (some ⟨p',0,none⟩),.int .i64 0])∧StoI w0 p d r G X c B' w'∧StoI w0 p' d r G X c B' w'∧Chg (·∈B) w w'∧∀b∈B',b∈B∨w.heap.size≤b:=by
 obtain ⟨s,S,B0,v,h1,h2,h3,h4,h5⟩:=h.at'
 refine (open_good h1.disk h2 hc h.et').mono ?_
 rintro e w' ⟨p',rfl,v',B',k1,kv,k2,k3,k4⟩
 have hx:Ext w0 w':=((Chg.of_ext (S:=(·∈B0)) h.ext).trans k2 (fun i hi e=>e)).ext (fun i hi e=>by have:=h.own i (h4 i e);omega)
 have hB:∀b∈B'++(blksV v++blksV v'),b∈B∨w.heap.size≤b:=fun b hb=>by
  rcases List.mem_append.1 hb with hb|hb
  ·exact (k3 b hb).imp (h4 b) id
  ·rcases List.mem_append.1 hb with hb|hb
   ·exact .inl (h5 b hb)
   ·exact .inr (kv.blks b hb)
 have hB2:∀b∈B'++(blksV v++blksV v'),w0.heap.size≤b:=fun b hb=>by
  rcases hB b hb with e|e
  ·exact h.own b e
  ·have:=h.ext.size;omega
 have hp:p∉B':=fun e=>by
  rcases k3 p e with e|e
  ·exact h1.pB e
  ·have:=zab h1.box;omega
 have hat:StoAt w' p d s S B' v:=by
  refine ⟨(k2.block p (zab h1.box) h1.pB).trans h1.box,h1.st.chg (B:=p::B0) k2 h1.off (fun i _ e=>List.mem_cons_of_mem _ e),k1.disk,hp,h1.off.to k2.size (fun b hb=>?_)⟩
  rcases List.mem_cons.1 hb with e|e
  ·exact .inl (by rw [e];simp)
  ·rcases k3 b e with e|e
   ·exact .inl (List.mem_cons_of_mem _ e)
   ·exact .inr e
 have hlt:∀b∈B'++(blksV v++blksV v'),b<w'.heap.size:=fun b hb=>by
  rcases List.mem_append.1 hb with hb|hb
  ·exact k1.disk.lt b hb
  ·rcases List.mem_append.1 hb with hb|hb
   ·exact hat.blks b hb
   ·exact k1.blks b hb
 exact ⟨p',B'++(blksV v++blksV v'),rfl,⟨⟨s,S,B',v,hat,h2,h3,fun b hb=>List.mem_append_left _ hb,fun g hg=>List.mem_append_right _ (List.mem_append_left _ hg)⟩,hB2,hlt,h.pn,hx,h.et⟩,⟨⟨s,S,B',v',k1,h2,h3,fun b hb=>List.mem_append_left _ hb,fun g hg=>List.mem_append_right _ (List.mem_append_right _ hg)⟩,hB2,hlt,by have:=h.ext.size;omega,hx,h.et⟩,k2.mono (fun i _ e=>h4 i e),hB⟩
theorem field_files (x1 x2 x3:Int) (x4:Bool) (x5 x6:Int) (fa:Option Addr) (fn fc:Nat) (ta:Option Addr) (tn tc:Nat) (w:World):(Instr.field 66 (.agg #[.int .i64 x1,.int .i64 x2,.int .i64 x3,.bool x4,.int .i64 x5,.int .i64 x6,.slice fa fn fc,.slice ta tn tc]) 4).run Tryz.prog w=.ok (.slice fa fn fc) w:=by kernel_rfl
theorem state_good {w0 w:World}{p d:Nat}{r:Int}{G:Gs}{X c:Nat}{B:List Nat}(h:StoI w0 p d r G X c B w) :
 Calls Tryz.prog 20 #[.pointer (some ⟨p,0,none⟩)] w fun e w'=>∃(x1 x2 x3:Int) (x4:Bool) (x5 x6:Int) (fa:Option Addr) (fc:Nat) (ta:Option Addr) (tn tc:Nat),e=.returned (.agg #[.int .i64 x1,.int .i64 x2,.int .i64 x3,.bool x4,.int .i64 x5,.int .i64 x6,.slice fa G.length fc,.slice ta tn tc])∧Ext w w':=by
 obtain ⟨s,S,B0,v,h1,h2,h3,h4,h5⟩:=h.at'
 have e0:s.fl.length=G.length:=h2.flLen
 have e1:s.ti.length=0:=by rw [h2.ti];rfl
 have hl:=h1.lens
 have hf:=h2.few
 refine (stoState_any h1 (by omega) (by omega)).mono ?_
 rintro e w' ⟨u,hu,_,rfl,ho⟩
 exact ⟨_,_,_,_,_,_,u.fa,u.fc,u.ta,u.tn,u.tc,by rw [hu,←hl.1,e0],ho.ext⟩
theorem list_good {w0 w:World}{p d:Nat}{r:Int}{G:Gs}{X c:Nat}{B:List Nat}(h:StoI w0 p d r G X c B w):∃S B0,zbu w d S B0∧S.Ok∧∃s,StI S s G X c:=by
 obtain ⟨s,S,B0,v,h1,h2,h3,h4,h5⟩:=h.at'
 exact ⟨S,B0,h1.disk,h2.inv.ok,s,h2⟩
end Go.Proofs.YtlmfhjipbjkcbaaGreatDoor
namespace Go.Proofs.YtlmfhjipbjkcbaaGreatDoor
open Go.RowKit Go.Sort Go.Lib
theorem same_of {G:Gs}{F:List PaM}(hG:OkG G) (hM:ModI G F) (f t:Int) (i:Nat):SameI F f t i (holdG G (nmL i)):=fun o1 o2 h1 h2 =>
 (hM.eqv (nmL i)).told (zdV hG _) (modH_rises hM.rises _) f t h1 h2
theorem like_true {w0 w:World}{p d mb:Nat}{r:Int}{G:Gs}{X c:Nat}{B:List Nat}(h:StoI w0 p d r G X c B w) {F:List PaM}{a:Option Addr}{n cc:Nat}(hm:MoAt w mb F a n cc) (hM:ModI G F) (f t:Int) :
 Calls Tryz.prog 21 #[.pointer (some ⟨p,0,none⟩),.pointer (some ⟨mb,0,none⟩),.agg #[.int .i64 f,.int .i64 t]] w fun e w'=>e=.returned (.bool true)∧Ext w w':=by
 obtain ⟨s,S,B0,v,h1,h2,h3,h4,h5⟩:=h.at'
 refine (lawLike_any h2.inv.ok h1 hm hM.rises f t (fun i=>holdG G (nmL i)) (fun i _=>⟨h2.holdP _,h2.holdFew _,hM.few2 _⟩) h.et').mono ?_
 rintro e w' ⟨b,rfl,hb,hx⟩
 have:b=true:=hb (fun i _=>same_of h.okG' hM f t i)
 subst this
 exact ⟨rfl,hx⟩
structure MoOff (mb:Nat) (a:Option Addr) (p:Nat) (B:List Nat):Prop where
 box:mb≠p∧mb∉B
 row:∀g,a.map (·.block)=some g→g≠p∧g∉B
theorem MoAt.chg {w w':World}{mb p:Nat}{F:List PaM}{a:Option Addr}{n c:Nat}{B:List Nat}(h:MoAt w mb F a n c) (ho:MoOff mb a p B) (hc:Chg (fun b=>b=p∨b∈B) w w') (hP:∀q∈F,q.n≠0→∀g,q.a.map (·.block)=some g→g≠p∧g∉B):MoAt w' mb F a n c:=by
 refine ⟨(hc.block mb (zab h.box) (fun e=>e.elim ho.box.1 ho.box.2)).trans h.box,h.row.chg hc (fun g hg e=>?_),fun q hq=>⟨⟨zbL (h.ok q hq).1.src hc (fun hn g hg e=>?_),(h.ok q hq).1.cap⟩,(h.ok q hq).2⟩,h.ne⟩
 ·rw [zau] at hg
  have:=ho.row g hg
  exact e.elim this.1 this.2
 ·have:=hP q hq hn g hg
  exact e.elim this.1 this.2
theorem MoOff.to {mb:Nat}{a:Option Addr}{p:Nat}{B B':List Nat}{w:World}(h:MoOff mb a p B) (hn:∀b∈B',b∈B∨w.heap.size≤b) (hmb:mb<w.heap.size) (ha:∀g,a.map (·.block)=some g→g<w.heap.size):MoOff mb a p B':=by
 refine ⟨⟨h.box.1,fun e=>?_⟩,fun g hg=>⟨(h.row g hg).1,fun e=>?_⟩⟩
 ·rcases hn _ e with e|e
  ·exact h.box.2 e
  ·omega
 ·rcases hn _ e with e|e
  ·exact (h.row g hg).2 e
  ·have:=ha g hg;omega
end Go.Proofs.YtlmfhjipbjkcbaaGreatDoor
namespace Go.Proofs.YtlmfhjipbjkcbaaGreatDoor
open Go.RowKit Go.Sort Go.Lib
theorem elem_mfl:ElemOk Tryz.prog 33 48 2 40 :=
 ⟨Tryz.underlying33,by
   obtain ⟨i0,hi,hz0,hz1,hz2⟩:=info_parts (show (Tryz.prog.info? 48).map (fun i=>(i.zero,i.size,i.bytes))=some (some (.agg #[.string ⟨#[]⟩,.slice none 0 0]),2,40) from by kernel_rfl)
   exact ⟨i0,_,hi,hz0,hz1,hz2,rfl⟩,by decide⟩
theorem mfl_slice_info:(Tryz.prog.info? 33).map (·.size)=some 1:=by kernel_rfl
def ownB (a:Option Addr) (b:Nat):Bool:=decide (a.map (·.block)=some b)
theorem src_pam {W:World}{b:Nat}{q:PaM}{t:TypeId}{fr:Nat×Nat}(h:W.heap[b]?=some (.cells #[.string q.nm,.slice q.a q.n q.c] t fr)):Src W 2 (.slice (some ⟨b,0,none⟩) 1 1) 1 (pams [q]):=by
 refine .inr ⟨_,_,rfl,rfl,fun j u hj=>?_,pams_one _⟩
 rw [Go.WideShapes.add_plain,Nat.zero_add,zaa h]
 simpa [pams,PaM.cells] using hj
theorem nmL_valid (c:Nat):zaU (bl (nmL c))=true:=by
 unfold nmL
 split
 ·decide
 ·split<;>decide
def AcM.part (p:AcM):PaM:=⟨nmL p.nm,p.pa,p.pn,p.pc,p.l⟩
theorem AcM.Ok.part {w:World}{p:AcM}(h:p.Ok w):p.part.Ok w:=⟨h.src,h.cap⟩
theorem pts_len3 (l:List Pt):(pts l).length=l.length*3:=by
 induction l with
 | nil=>rfl
 | cons p l ih=>simp [pts,Pt.cells] at ih ⊢;omega
theorem AcM.Ok.pn {w:World}{p:AcM}(h:p.Ok w):p.l.length=p.pn:=by
 rcases h.src with ⟨_,e1,e2⟩|⟨_,_,_,e2,_⟩
 ·have h1:=pts_len3 p.l;rw [e2] at h1;simp at h1;omega
 ·rw [pts_len3] at e2;omega
theorem AcM.Ok.blk {w:World}{p:AcM}(h:p.Ok w) (hn:p.pn≠0):∀g,p.pa.map (·.block)=some g→g<w.heap.size:=fun g hg=>by
 rcases h.src with ⟨_,e1,_⟩|⟨ad,_,e1,e2,e3,_⟩
 ·exact absurd e1 hn
 ·simp at e1
  rw [e1.1] at hg
  have hg':ad.block=g:=by simpa using hg
  have h0:0<(pts p.l).length:=by omega
  have:=e3 0 _ (List.getElem?_eq_getElem h0)
  have h2:=World.block_lt_of_cell? _ _ this
  rw [←hg'];exact h2
structure LawI (w0:World) (p d mb N j:Nat) (G:Gs) (F:List PaM) (X c:Nat) (B:List Nat) (ma:Option Addr) (mn mc:Nat) (w:World):Prop where
 sto:∃r,StoI w0 p d r G X c B w∧r≤(j:Int)
 mo:MoAt w mb F ma mn mc
 off:MoOff mb ma p B
 new:w0.heap.size≤mb∧∀g,ma.map (·.block)=some g→w0.heap.size≤g
 pts:∀q∈F,q.n≠0→∀g,q.a.map (·.block)=some g→g<w0.heap.size
 mod:ModI G F
 sum:(F.map fun q=>q.l.length).sum≤N∧totG G≤N
 len:F.length≤j∧G.length≤j∧X≤j∧c≤2000*j
theorem LawI.ext {w0 w w':World}{p d mb N j:Nat}{G:Gs}{F:List PaM}{X c:Nat}{B:List Nat}{ma:Option Addr}{mn mc:Nat}(h:LawI w0 p d mb N j G F X c B ma mn mc w) (hx:Ext w w'):LawI w0 p d mb N j G F X c B ma mn mc w':=by
 obtain ⟨r,h1,h2⟩:=h.sto
 exact ⟨⟨r,h1.next hx,h2⟩,h.mo.ext hx,h.off,h.new,h.pts,h.mod,h.sum,h.len⟩
theorem LawI.world {w0 w:World}{p d mb N j:Nat}{G:Gs}{F:List PaM}{X c:Nat}{B:List Nat}{ma:Option Addr}{mn mc:Nat}(h:LawI w0 p d mb N j G F X c B ma mn mc w):Ext w0 w:=by
 obtain ⟨r,h1,h2⟩:=h.sto
 exact h1.ext
theorem LawI.step {w0 w w':World}{p d mb N j:Nat}{G:Gs}{F:List PaM}{X c:Nat}{B:List Nat}{ma:Option Addr}{mn mc:Nat}(h:LawI w0 p d mb N j G F X c B ma mn mc w) {N' j' X' c':Nat}{G':Gs}{r':Int}(hs:StepTo w0 p d r' G' X' c' B w w') (hr:r'≤(j':Int)) (hM:ModI G' F) (hN:N≤N') (hT:totG G'≤N') (hj:j≤j') (hG:G'.length≤j') (hX:X'≤j') (hc:c'≤2000*j') :
 ∃B',LawI w0 p d mb N' j' G' F X' c' B' ma mn mc w':=by
 obtain ⟨B',k1,k2,k3⟩:=hs
 obtain ⟨r,h1,h2⟩:=h.sto
 have hl:=h.len
 have hs:=h.sum
 refine ⟨B',⟨r',k1,hr⟩,h.mo.chg h.off k2 (fun q hq hn g hg=>?_),h.off.to k3 (zab h.mo.box) (fun g hg=>h.mo.row.lt (by rw [zau];exact hg)),h.new,h.pts,hM,⟨by omega,hT⟩,⟨by omega,hG,hX,hc⟩⟩
 have h3:=h.pts q hq hn g hg
 exact ⟨fun e=>by have:=h1.pn;omega,fun e=>by have:=h1.own g e;omega⟩
theorem LawI.more {w0 w:World}{p d mb N N' j j':Nat}{G:Gs}{F:List PaM}{X c:Nat}{B:List Nat}{ma:Option Addr}{mn mc:Nat}(h:LawI w0 p d mb N j G F X c B ma mn mc w) (hN:N≤N') (hj:j≤j'):LawI w0 p d mb N' j' G F X c B ma mn mc w:=by
 obtain ⟨r,h1,h2⟩:=h.sto
 have hl:=h.len
 have hs:=h.sum
 exact ⟨⟨r,h1,by omega⟩,h.mo,h.off,h.new,h.pts,h.mod,⟨by omega,by omega⟩,⟨by omega,by omega,by omega,by omega⟩⟩
theorem LawI.mid {w0 w w':World}{p d mb N j:Nat}{G:Gs}{F:List PaM}{X c:Nat}{B:List Nat}{ma:Option Addr}{mn mc:Nat}(h:LawI w0 p d mb N j G F X c B ma mn mc w) {X' c':Nat}{G':Gs}{r':Int}(hs:StepTo w0 p d r' G' X' c' B w w'):MoAt w' mb F ma mn mc∧Ext w0 w':=by
 obtain ⟨B',k1,k2,k3⟩:=hs
 obtain ⟨r,h1,h2⟩:=h.sto
 refine ⟨h.mo.chg h.off k2 (fun q hq hn g hg=>?_),k1.ext⟩
 have h3:=h.pts q hq hn g hg
 exact ⟨fun e=>by have:=h1.pn;omega,fun e=>by have:=h1.own g e;omega⟩
theorem LawI.mn {w0 w:World}{p d mb N j:Nat}{G:Gs}{F:List PaM}{X c:Nat}{B:List Nat}{ma:Option Addr}{mn mc:Nat}(h:LawI w0 p d mb N j G F X c B ma mn mc w):F.length=mn:=zcI (h.mo.row.src (pams_one _))
def SameG (G:Gs) (F:List PaM):Prop:=G.map Prod.snd=F.map fun q=>[(q.nm,q.l)]
theorem SameG.len {G:Gs}{F:List PaM}(h:SameG G F):G.length=F.length:=by
 have:=congrArg List.length h
 simpa using this
theorem SameG.put {G:Gs}{F:List PaM}(h:SameG G F) (X:Nat) (q:PaM):SameG (G++[(X,[(q.nm,q.l)])]) (F++[q]):=by
 unfold SameG at *
 rw [List.map_append,List.map_append,h];rfl
theorem LawI.start {w0 w1:World}{p d mb:Nat}{B:List Nat}(h:StoI w0 p d 0 [] 0 0 B w1) (hmb:w1.heap.size=mb) {w2:World}(hx:Ext w1 w2) (hb:w2.heap[mb]?=some (.cells #[.slice none 0 0] 35 (0,0))) (hp:p<w1.heap.size):LawI w0 p d mb 0 0 [] [] 0 0 B none 0 0 w2:=by
 refine ⟨⟨0,h.next hx,by omega⟩,⟨hb,Row.nil _ _ _,by simp,by simp⟩,⟨⟨by omega,fun e=>by have:=h.lt mb e;omega⟩,by simp⟩,⟨by have:=h.ext.size;omega,by simp⟩,by simp,.start,⟨by simp,by simp [totG]⟩,by simp⟩
theorem LawI.put {w0 w w1 w2 W w4 w5:World}{p d mb N j:Nat}{G:Gs}{F:List PaM}{X c:Nat}{B:List Nat}{ma:Option Addr}{mn mc:Nat}(h:LawI w0 p d mb N j G F X c B ma mn mc w) (hx:Ext w w1) {q:PaM}(hcol:colV q.l=true)
 (hs:StepTo w0 p d (j:Int) (G++[(X,[(q.nm,q.l)])]) (X+1) (c+7) B w1 w2) (hF:F.length<25) (hN:N+q.l.length≤600) (hq:q.Ok w2) (hqn:q.n<4398046511104) (hq0:q.n≠0→∀g,q.a.map (·.block)=some g→g<w0.heap.size)
 (hW:Ext w2 W) {ma':Option Addr}{mc':Nat}(ha:Appended W 48 2 (.slice ma mn mc) (mn+1) (pams F++pams [q]) (.slice ma' (mn+1) mc') w4) (hc:Chg (·=mb) w4 w5) (hb:w5.heap[mb]?=some (.cells #[.slice ma' (mn+1) mc'] 35 (0,0))) :
 ∃B',LawI w0 p d mb (N+q.l.length) (j+1) (G++[(X,[(q.nm,q.l)])]) (F++[q]) (X+1) (c+7) B' ma' (mn+1) mc' w5:=by
 have hl:=h.len
 have hsum:=h.sum
 obtain ⟨r,h1,h2⟩:=h.sto
 have hM:=h.mod.add h1.okG' X (q:=q) hcol (by omega) (by omega)
 have hT:totG (G++[(X,[(q.nm,q.l)])])≤N+q.l.length:=by rw [totG_snoc];simp [manyP];omega
 obtain ⟨B',k1,k2,k3⟩:=hs
 have hmb:mb<w.heap.size:=zab h.mo.box
 have hmo2:MoAt w2 mb F ma mn mc:=(h.mo.ext hx).chg h.off k2 (fun q hq hn g hg=>by
  have h3:=h.pts q hq hn g hg
  exact ⟨fun e=>by have:=h1.pn;omega,fun e=>by have:=h1.own g e;omega⟩)
 have hoff2:MoOff mb ma p B':=h.off.to k3 (by have:=hx.size;omega) (fun g hg=>by have:=h.mo.row.lt (g:=g) (by rw [zau];exact hg);have:=hx.size;omega)
 have hsz2:w2.heap.size≤W.heap.size:=hW.size
 have hsz4:W.heap.size≤w4.heap.size:=ha.chg.size
 have hmb2:mb<w2.heap.size:=by have:=hx.size;have:=k2.size;omega
 have hma':∀g,ma'.map (·.block)=some g→ma.map (·.block)=some g∨g=W.heap.size:=fun g hg=>by
  have hl:=ha.loc
  rw [zau,zau,hg] at hl
  rcases hl with e|e
  ·exact .inl e.symm
  ·exact .inr (Option.some.inj e)
 have hne':ma'.map (·.block)≠some mb:=fun e=>by
  rcases hma' mb e with e|e
  ·exact hmo2.ne e
  ·omega
 have hcT:Chg (fun b=>b=mb∨ma.map (·.block)=some b) w2 w5:=(Chg.of_ext (S:=fun b=>b=mb∨ma.map (·.block)=some b) hW).trans ((ha.chg.mono (fun i _ e=>.inr (by rw [zau] at e;exact e))).trans (hc.mono (fun i _ e=>.inl e)) (fun _ _ e=>e)) (fun _ _ e=>e)
 have hT:totG (G++[(X,[(q.nm,q.l)])])≤N+q.l.length:=hT
 have hstoW:StoI w0 p d (j:Int) (G++[(X,[(q.nm,q.l)])]) (X+1) (c+7) B' w5:=k1.beside hcT (fun e=>e.elim (fun e=>hoff2.box.1 e.symm) (fun e=>(hoff2.row p e).1 rfl)) (fun b hb e=>e.elim (fun e=>hoff2.box.2 (e▸hb)) (fun e=>(hoff2.row b e).2 hb)) (fun b e=>e.elim (fun e=>by have:=h.new.1;omega) (fun e=>h.new.2 b e))
 have hPt:∀q∈F,∀(hn:q.n≠0) g,q.a.map (·.block)=some g→g≠mb∧ma.map (·.block)≠some g:=fun q hq hn g hg=>by
  have h3:=h.pts q hq hn g hg
  exact ⟨fun e=>by have:=h.new.1;omega,fun e=>by have:=h.new.2 g e;omega⟩
 refine ⟨B',⟨_,hstoW,by omega⟩,⟨hb,?_,fun x hx=>?_,hne'⟩,⟨hoff2.box,fun g hg=>?_⟩,⟨h.new.1,fun g hg=>?_⟩,fun x hx=>?_,hM,⟨by simp;omega,hT⟩,⟨by simp;omega,by simp;omega,by omega,by omega⟩⟩
 ·rw [pams_append]
  exact ha.row.chg hc (fun g hg e=>by rw [zau] at hg;subst e;exact hne' hg)
 ·rcases List.mem_append.1 hx with hx|hx
  ·have h3:=hmo2.ok x hx
   exact ⟨⟨zbL h3.1.src hcT (fun hn g hg e=>by have h4:=hPt x hx hn g hg;exact e.elim h4.1 h4.2),h3.1.cap⟩,h3.2⟩
  ·rw [List.mem_singleton.1 hx]
   exact ⟨⟨zbL hq.src hcT (fun hn g hg e=>by
    have h3:=hq0 hn g hg
    exact e.elim (fun e=>by have:=h.new.1;omega) (fun e=>by have:=h.new.2 g e;omega)),hq.cap⟩,hqn⟩
 ·rcases hma' g hg with e|e
  ·exact hoff2.row g e
  ·have hp2:p<w2.heap.size:=by
    obtain ⟨s,S,B0,v,q1,_⟩:=k1.at'
    exact zab q1.box
   exact ⟨by omega,fun e'=>by have:=k1.lt g e';omega⟩
 ·rcases hma' g hg with e|e
  ·exact h.new.2 g e
  ·have:=k1.ext.size;omega
 ·rcases List.mem_append.1 hx with hx|hx
  ·exact h.pts x hx
  ·rw [List.mem_singleton.1 hx];exact hq0
theorem StI.list_one {S:DiskS}{s:Sta}{X Y c:Nat}{Q:List Prt}(h:StI S s [(Y,Q)] X c):(S.list ⟨#[]⟩).length=2:=by
 have hm:(aget S.files fM).isSome=true:=by
  rcases h.man with ⟨f,hf,_⟩|⟨_,hs⟩
  ·rw [hf];rfl
  ·have:=h.fl
   rw [hs] at this
   simp [ownSt,flsOf] at this
 have hp:(S.list ⟨#[]⟩).Perm [fM,nameS 115 Y]:=by
  refine (List.perm_ext_iff_of_nodup (list_nodupS h.inv.ok.names _) ?_).2 (fun f=>?_)
  ·rw [List.nodup_cons];exact ⟨fun e=>nameS_fM Y (List.mem_singleton.1 e).symm,by simp⟩
  ·rw [zdR]
   constructor
   ·rintro ⟨h1,_⟩
    rcases h.keys f h1 with e|⟨g,hg,e⟩
    ·simp [e]
    ·rw [List.mem_singleton.1 hg] at e;simp [e]
   ·intro hf
    refine ⟨?_,by simp [bl,Lib.hasPrefix]⟩
    rcases List.mem_cons.1 hf with e|e
    ·rw [e];exact hm
    ·rw [List.mem_singleton.1 e]
     obtain ⟨f,hf,_⟩:=h.file (Y,Q) (by simp)
     rw [hf];rfl
 rw [hp.length_eq];rfl
end Go.Proofs.YtlmfhjipbjkcbaaGreatDoor
namespace Go.Proofs.YtlmfhjipbjkcbaaGreatDoor
open Go.RowKit Go.Sort Go.Lib
theorem storeCompacts_any (w:World) (a:Option Addr) (n c:Nat) (P:List AcM) (hs:Src w 5 (.slice a n c) n (acms P)) (hok:∀p∈P,p.Ok w) (hn:n<4398046511104) (f t:Int) (hg:HasET w) :
 Calls Tryz.prog 4 #[.slice a n c,.agg #[.int .i64 f,.int .i64 t]] w fun e w'=>e=.returned (.bool true)∧Ext w w':=by
 have HS:=hid hs
 have HOK:=hid hok
 have HG:=hid hg
 have HPL:=hid (acms_src_len hs)
 clear hs hok hg
 go_enter Tryz.func4,Tryz.ntmps4
 go_upto_region 1 with fail
 generalize hW:World.alloc _ _=W
 obtain ⟨sb,hsb⟩:∃b,b=w.heap.size:=⟨_,rfl⟩
 rw [←hsb]
 have HXW:Hid (Ext w W):=hid (by rw [←hW];exact (Ext.refl w).alloc _)
 have HSB:Hid (W.heap[sb]?=some (.cells #[.int .i64 f,.int .i64 t] 61 (0,0))):=hid (by rw [←hW,hsb];exact heap_alloc_new w _)
 clear hW hsb
 go_wp2_with fail
 refine (lawFew_any W a n c P (HS.out.ext HXW.out) (fun p hp=>(HOK.out p hp).ext HXW.out) hn).mono ?_
 rintro e w1 ⟨rfl,rfl⟩
 by_cases hfew:n+manyA P<600
 case neg =>
  rw [decide_eq_false hfew]
  go_wp2_with fail
  go_ret
  exact ⟨rfl,HXW.out⟩
 rw [decide_eq_true hfew]
 have HFEW:=hid hfew
 have hn6:n<600:=by omega
 clear hfew
 go_wp2_with fail
 refine (disk_new (by omega) (by omega) W).mono ?_
 rintro e w2 ⟨rfl,hd,hx⟩
 obtain ⟨d,hde⟩:∃d,d=W.heap.size+1:=⟨_,rfl⟩
 have hB:∀b∈[W.heap.size+1,W.heap.size],W.heap.size≤b:=fun b hb=>by simp at hb;omega
 have HO:=hid (open_new hd hx hB (HG.out.ext HXW.out))
 rw [←hde] at HO ⊢
 clear hd hx hB hde
 go_wp2_with fail
 refine HO.out.mono ?_
 rintro e w3 ⟨p,B,rfl,hsto⟩
 have HSTO:=hid hsto
 clear hsto HO
 go_upto_region 10 with fail
 generalize hW:World.alloc _ _=w4
 obtain ⟨mb,hmb⟩:∃b,b=w3.heap.size:=⟨_,rfl⟩
 rw [←hmb]
 have hpl:p<w3.heap.size:=by
  obtain ⟨s,S,B0,v,q1,_⟩:=HSTO.out.at'
  exact zab q1.box
 have HL0:Hid (LawI W p d mb 0 0 [] [] 0 0 B none 0 0 w4):=hid (LawI.start HSTO.out hmb.symm (by rw [←hW];exact (Ext.refl w3).alloc _) (by rw [←hW,hmb];exact heap_alloc_new w3 _) hpl)
 clear hW hmb hpl HSTO
 go_upto_block 0 with fail
 go_cut [9] (fun s9 wc=>Hid (∃G F X cc B ma mn mc,LawI W p d mb 599 12 G F X cc B ma mn mc wc∧SameG G F))
 case first =>
  go_wp2_with fail
  go_loopw [9] (fun s9 wr=>∃j:Nat,s9=.int .i64 (j:Int)∧j≤n∧j≤12∧Hid (∃G F X cc B ma mn mc,LawI W p d mb (manyA (P.take j)) j G F X cc B ma mn mc wr∧SameG G F)) (fun z _=>12-(RowKit.intOf z).toNat)
  case atStart=>exact ⟨0,rfl,by omega,by omega,hid ⟨_,_,_,_,_,_,_,_,(show LawI W p d mb (manyA (P.take 0)) 0 [] [] 0 0 B none 0 0 w4 from by simpa [manyA] using HL0.out),rfl⟩⟩
  case round =>
   obtain ⟨j,rfl,hj,hj12,HI⟩:=hrel
   by_cases hlt:j<n
   ·by_cases h12:j<12
    ·obtain ⟨G,F,X,cc,B,ma,mn,mc,hL,hsm⟩:=HI.out
     have HSM:=hid hsm
     have HL:=hid hL
     obtain ⟨b,off,q,rfl,hq,c0,d1,d2,c3,c4⟩:=acms_src (HS.out.ext HXW.out) hlt
     have c1:=zcl hL.world d1
     have c2:=zcl hL.world d2
     have HC1:=hid d1
     have HC2:=hid d2
     have hbl:b<W.heap.size:=World.block_lt_of_cell? _ _ d1
     have HQ:=hid (((HOK.out q (List.mem_of_getElem? hq)).ext HXW.out))
     have HMA:=hid (manyA_take hq)
     have HML:=hid (manyA_le P (j+1))
     obtain ⟨r,hst,hrj⟩:=hL.sto
     have hlen:=hL.len
     have hsum:=hL.sum
     have HFB:∀(W2:World) (Ws:World) (bk:Nat),Ext wr W2→Ext W2 Ws→Ws.heap[bk]?=some (.cells #[.string (nmL q.nm),.slice q.pa q.pn q.pc] 43 (0,0))→Calls Tryz.prog 11 #[.pointer (some ⟨p,0,none⟩),.slice (some ⟨bk,0,none⟩) 1 1,.int .i64 (j:Int),.int .i64 (j:Int),.agg #[.bool false,.int .i64 0,.int .i64 5]] Ws fun e w'=>(colV q.l=true∧e=.returned (.int .i64 0)∧StepTo W p d (j:Int) (G++[(X,[(nmL q.nm,q.l)])]) (X+1) (cc+7) B Ws w')∨(colV q.l=false∧e=.returned (.int .i64 2)∧StepTo W p d r G X cc B Ws w'):=by
      intro W2 Ws bk hx1 hx2 hb
      have hx:=(HXW.out.trans hL.world).trans (hx1.trans hx2)
      have hqo:=(HOK.out q (List.mem_of_getElem? hq)).ext hx
      have hle:q.l.length≤600:=by have:=hqo.pn;have:=HMA.out;have:=HML.out;have:=HFEW.out;omega
      have hT:totG G+q.l.length≤600:=by have:=hqo.pn;have:=HMA.out;have:=HML.out;have:=HFEW.out;omega
      by_cases hc:colV q.l=true
      ·exact (flush_good (hst.next (hx1.trans hx2)) j hrj (by omega) (by omega) (by omega) (by omega) (some ⟨bk,0,none⟩) 1 q.part (src_pam hb) hqo.part (nmL_valid _) hc hqo.v hT).mono (fun e w' h=>.inl ⟨hc,h⟩)
      ·have hc':colV q.l=false:=by simpa using hc
       exact (flush_bad (hst.next (hx1.trans hx2)) j hrj (by omega) (by omega) (by omega) (by omega) (some ⟨bk,0,none⟩) 1 q.part (src_pam hb) hqo.part (nmL_valid _) hc' (by have:=hqo.pn;show q.pn≤1024;omega)).mono (fun e w' h=>.inr ⟨hc',h⟩)
     have HFL:=hid HFB
     have HRJ:=hid hrj
     have HQM:=hid (List.mem_of_getElem? hq)
     clear hL hsm hq HI c0 c3 c4 d1 d2 hst hrj hlen hsum HFB
     have y1:=zaf (T:=fun _=>false) c1 rfl
     have y2:=zaf (T:=fun _=>false) c2 rfl
     clear c1 c2
     go_upto_region 13 with fail
     refine zao 17 (fun w'=>∃z:Turned,w'=turned wr (fun _=>false) z.d z.f z.os) (.reads [0,1,2,3,4,5,7,8,9,10,11,14,15,16] (.one 6 (.one 12 (.one 13 (.one 17 (.one 18 .done)))))) (by kernel_rfl) (by kernel_rfl) (fun _ _ dd _ _ hh=>by cases dd<;>exact hh) ?_ ?_
     ·exact zad (Ext.drewN wr 1)
     refine zaj ?_
     simp only [zac,List.getElem?_cons_succ,List.getElem?_cons_zero]
     repeat (go_big_quiet_step (fail))
     refine wpQuiet_nil ?_
     clear y1 y2
     change zaz _ _ _ _ _ _ _ _ (wr.drewN 1)
     have HXd:Hid (Ext wr (wr.drewN 1)):=hid (Ext.drewN wr 1)
     generalize wr.drewN 1=Wd at HXd ⊢
     refine zae ?_
     simp only [zac,List.getElem?_cons_succ,List.getElem?_cons_zero]
     go_wp2_with fail
     refine (zdT Wd q.nm HQ.out.nm).mono ?_
     rintro e w5 ⟨rfl,hx5⟩
     have HX5:=hid (HXd.out.trans hx5)
     clear hx5 HXd
     go_wp2_with fail
     refine zak (zad HX5.out) (zae ?_)
     simp only [zac,List.getElem?_cons_succ,List.getElem?_cons_zero]
     go_wp2_with fail
     refine zak (zad HX5.out) (zae ?_)
     simp only [zac,List.getElem?_cons_succ,List.getElem?_cons_zero]
     go_wp2_with fail
     generalize hW6:World.alloc _ _=w6
     obtain ⟨bk,hbk⟩:∃k,k=w5.heap.size:=⟨_,rfl⟩
     rw [←hbk]
     have HX6:Hid (Ext w5 w6):=hid (by rw [←hW6];exact (Ext.refl w5).alloc _)
     have HBK:Hid (w6.heap[bk]?=some (.cells #[.string (nmL q.nm),.slice q.pa q.pn q.pc] 43 (0,0))):=hid (by rw [←hW6,hbk];exact heap_alloc_new w5 _)
     clear hW6 hbk
     refine zak (zad (HX5.out.trans HX6.out)) (zae ?_)
     simp only [zac,List.getElem?_cons_succ,List.getElem?_cons_zero]
     go_wp2_with fail
     refine (HFL.out w5 w6 bk HX5.out HX6.out HBK.out).mono ?_
     rintro e w7 (⟨hcv,rfl,hst⟩|⟨hcv,rfl,hst⟩)
     ·have HST:=hid hst
      have HCV:=hid hcv
      clear hst hcv HFL HBK
      go_wp2_with fail
      refine zas (zae ?_)
      simp only [zac,List.getElem?_cons_succ,List.getElem?_cons_zero]
      go_wp2_with fail
      refine zas (zav ?_)
      have HL6:=hid (HL.out.ext (HX5.out.trans HX6.out))
      obtain ⟨hmo,hx7⟩:=HL6.out.mid HST.out
      have HMO:=hid hmo
      have HX7:=hid hx7
      have hmn:mn≤12:=by have:=HL.out.mn;have:=HL.out.len;omega
      have hnewb:ownB ma b=false:=decide_eq_false (fun e=>by have:=HL.out.new.2 b e;omega)
      have m0:=zaf (T:=ownB ma) (by have:=zaa hmo.box 0;simpa using this:w7.cell? ⟨mb,0,none⟩=some (.slice ma mn mc)) (decide_eq_false hmo.ne)
      have y1:=zaf (T:=ownB ma) (zcl hx7 HC1.out) hnewb
      have y2:=zaf (T:=ownB ma) (zcl hx7 HC2.out) hnewb
      have HX5a:=HX5
      have HX6a:=HX6
      clear hmo hx7 hnewb HX5 HX6
      go_upto_region 14 with fail
      refine zao 21 (fun w'=>∃z:Turned,w'=turned w7 (ownB ma) z.d z.f z.os) (.reads [0,1,2,3,4,5,6,7,8,9,11,12,13,14,15] (.one 10 (.one 16 (.one 17 (.one 18 (.one 19 (.one 20 (.one 21 .done)))))))) (by kernel_rfl) (by kernel_rfl) (fun _ _ dd _ _ hh=>by cases dd<;>exact hh) ?_ ?_
      ·exact zad (Ext.drewN w7 1)
      refine zaj ?_
      simp only [zac,List.getElem?_cons_succ,List.getElem?_cons_zero]
      repeat (go_big_quiet_step (fail))
      refine wpQuiet_nil ?_
      clear y1 y2 m0
      change zaz _ _ _ _ _ _ _ _ (w7.drewN 1)
      have HXd:Hid (Ext w7 (w7.drewN 1)):=hid (Ext.drewN w7 1)
      generalize w7.drewN 1=Wd at HXd ⊢
      refine zae ?_
      simp only [zac,List.getElem?_cons_succ,List.getElem?_cons_zero]
      go_wp2_with fail
      refine (zdT Wd q.nm HQ.out.nm).mono ?_
      rintro e w8 ⟨rfl,hx8⟩
      have HX8:=hid (HXd.out.trans hx8)
      clear hx8 HXd
      go_wp2_with fail
      refine zak (zad HX8.out) (zae ?_)
      simp only [zac,List.getElem?_cons_succ,List.getElem?_cons_zero]
      go_wp2_with fail
      refine zak (zad HX8.out) (zae ?_)
      simp only [zac,List.getElem?_cons_succ,List.getElem?_cons_zero]
      go_wp2_with fail
      generalize hW9:World.alloc _ _=w9
      obtain ⟨fk,hfk⟩:∃k,k=w8.heap.size:=⟨_,rfl⟩
      rw [←hfk]
      have HX9:Hid (Ext w7 w9):=hid (HX8.out.trans (by rw [←hW9];exact (Ext.refl w8).alloc _))
      have HFK:Hid (w9.heap[fk]?=some (.cells #[.string q.part.nm,.slice q.part.a q.part.n q.part.c] 48 (0,0))):=hid (by rw [←hW9,hfk];exact heap_alloc_new w8 _)
      clear hW9 hfk
      refine zak (zad HX9.out) (zae ?_)
      simp only [zac,List.getElem?_cons_succ,List.getElem?_cons_zero]
      have HMO9:=hid (HMO.out.ext HX9.out)
      go_wp2_with (at_builtin;go_must (refine zah (n:=mn) (m:=1) (v:=.slice ma mn mc) elem_mfl rfl _ _ rfl rfl rfl HMO9.out.row (src_pam (q:=q.part) HFK.out) (by unfold maxLen;omega) (by omega) ?_;intro v4 w10 happ);obtain ⟨va',vc',rfl⟩:=happ.row.shape;have HA:=hid happ;clear happ)
      have HMB:Hid (w10.heap[mb]?=some (.cells #[.slice ma mn mc] 35 (0,0))):=hid ((HA.out.chg.block mb (zab HMO9.out.box) (fun e=>HMO9.out.ne (by rw [zau] at e;exact e))).trans HMO9.out.box)
      have HCH:Hid (Chg (fun k=>ownB ma k=true) w7 w10):=hid ((Chg.of_ext (S:=fun k=>ownB ma k=true) HX9.out).trans (HA.out.chg.mono (fun i _ e=>by rw [zau] at e;exact decide_eq_true e)) (fun _ _ e=>e))
      refine zak (zaq HCH.out) (zae ?_)
      simp only [zac,List.getElem?_cons_succ,List.getElem?_cons_zero]
      go_wp2_with fail
      refine zak (zaq HCH.out) (zae ?_)
      simp only [zac,List.getElem?_cons_succ,List.getElem?_cons_zero]
      go_wp2_with fail
      refine zak (zaq HCH.out) (zae ?_)
      simp only [zac,List.getElem?_cons_succ,List.getElem?_cons_zero]
      go_wp2_with (refine zan rfl _ _ _ rfl mb 0 _ #[.slice va' (mn+1) vc'] _ _ rfl rfl rfl rfl HMB.out (by simp) rfl mfl_slice_info ?_;rintro w11 hbV hcV _he;have HBV:=hid hbV;have HCV2:=hid hcV;clear hbV hcV _he)
      refine zas (zav ?_)
      go_wp2_with fail
      go_roundw
      case rel =>
       refine ⟨j+1,by go_num,by omega,by omega,hid ?_⟩
       have hqo:=HQ.out.ext HX7.out
       have hlen:=HL.out.len
       obtain ⟨B2,h2⟩:=HL.out.put (HX5a.out.trans HX6a.out) (q:=q.part) HCV.out HST.out (by omega) (by have:=hqo.pn;have:=HMA.out;have:=HML.out;have:=HFEW.out;show _+q.l.length≤600;omega) hqo.part (by have:=hqo.pn;have:=HMA.out;have:=HML.out;have:=HFEW.out;show q.pn<_;omega) (fun hn g hg=>HQ.out.blk hn g hg) HX9.out HA.out HCV2.out HBV.out
       have e:manyA (P.take (j+1))=manyA (P.take j)+q.part.l.length:=by rw [HMA.out];have:=HQ.out.pn;show _=_+q.l.length;omega
       rw [←e] at h2
       exact ⟨_,_,_,_,_,_,_,_,h2,HSM.out.put X q.part⟩
      case measure=>simp [RowKit.intOf];omega
     ·have HST:=hid hst
      have HCV:=hid hcv
      clear hst hcv HFL HBK
      go_wp2_with fail
      refine zas (zae ?_)
      simp only [zac,List.getElem?_cons_succ,List.getElem?_cons_zero]
      go_wp2_with fail
      refine zas (zav ?_)
      go_wp2_with fail
      go_roundw
      case rel =>
       refine ⟨j+1,by go_num,by omega,by omega,hid ?_⟩
       have hl:=HL.out.len
       have hsum:=HL.out.sum
       have hrj0:=HRJ.out
       obtain ⟨B2,h2⟩:=(HL.out.ext (HX5.out.trans HX6.out)).step HST.out (N':=manyA (P.take (j+1))) (j':=j+1) (by omega) HL.out.mod (by rw [HMA.out];omega) (by rw [HMA.out];omega) (by omega) (by omega) (by omega) (by omega)
       exact ⟨_,_,_,_,_,_,_,_,h2,HSM.out⟩
      case measure=>simp [RowKit.intOf];omega
    ·obtain rfl:j=12:=by omega
     obtain ⟨G,F,X,cc,B,ma,mn,mc,hL,hsm⟩:=HI.out
     have HD:Hid (∃G F X cc B ma mn mc,LawI W p d mb 599 12 G F X cc B ma mn mc wr∧SameG G F):=hid ⟨_,_,_,_,_,_,_,_,hL.more (by have:=manyA_le P 12;have:=HFEW.out;omega) (by omega),hsm⟩
     clear hL hsm HI
     go_wp2_with fail
     go_meet
     exact HD
   ·obtain rfl:j=n:=by omega
    obtain ⟨G,F,X,cc,B,ma,mn,mc,hL,hsm⟩:=HI.out
    have HD:Hid (∃G F X cc B ma mn mc,LawI W p d mb 599 12 G F X cc B ma mn mc wr∧SameG G F):=hid ⟨_,_,_,_,_,_,_,_,hL.more (by have:=manyA_le P j;have:=HFEW.out;omega) (by omega),hsm⟩
    clear hL hsm HI
    go_wp2_with fail
    go_meet
    exact HD
 case rest =>
  obtain ⟨G,F,X,cc,B,ma,mn,mc,hL,hsm⟩:=hcut.out
  have HL:=hid hL
  have HSM:=hid hsm
  have hmn:mn≤12:=by have:=hL.mn;have:=hL.len;omega
  have hGF:=hsm.len
  have hFm:=hL.mn
  obtain ⟨r,hst,hrj⟩:=hL.sto
  have HST:=hid hst
  clear hL hsm hcut hst
  by_cases h2:mn<2
  ·have m0:=zaa HL.out.mo.box 0
   simp at m0
   go_wp2_with fail
   refine (compact_none HST.out (by omega)).mono ?_
   rintro e w5 ⟨rfl,rfl⟩
   go_upto_region 17 with fail
   have y0:=zaf (T:=fun _=>false) m0 rfl
   clear m0
   refine zao 14 (fun w'=>∃z:Turned,w'=turned wc (fun _=>false) z.d z.f z.os) (.reads [0,1,2,3,7,8,9,10,11] (.one 4 (.one 5 (.one 6 (.one 12 (.one 13 (.one 14 .done))))))) (by kernel_rfl) (by kernel_rfl) (fun _ _ dd _ _ hh=>by cases dd<;>exact hh) ?_ ?_
   ·exact zad (Ext.drewN wc 1)
   refine zaj ?_
   simp only [zac,List.getElem?_cons_succ,List.getElem?_cons_zero]
   repeat (go_big_quiet_step (fail))
   refine wpQuiet_nil ?_
   clear y0
   change zaz _ _ _ _ _ _ _ _ (wc.drewN 1)
   have HXd:Hid (Ext wc (wc.drewN 1)):=hid (Ext.drewN wc 1)
   generalize wc.drewN 1=Wd at HXd ⊢
   refine zae ?_
   simp only [zac,List.getElem?_cons_succ,List.getElem?_cons_zero]
   go_wp2_with fail
   refine (state_good (HST.out.next HXd.out)).mono ?_
   rintro e w8 ⟨x1,x2,x3,x4,x5,x6,sfa,sfc,sta,stn,stc,rfl,hx8⟩
   have HX8:=hid (HXd.out.trans hx8)
   have hGm:G.length=mn:=by omega
   rw [hGm]
   have hfd:=field_files x1 x2 x3 x4 x5 x6 sfa mn sfc sta stn stc
   clear hx8 HXd
   go_wp2_with fail
   refine zak (zad HX8.out) (zae ?_)
   simp only [zac,List.getElem?_cons_succ,List.getElem?_cons_zero]
   go_wp2_with fail
   refine zak (zad HX8.out) (zae ?_)
   simp only [zac,List.getElem?_cons_succ,List.getElem?_cons_zero]
   go_wp2_with fail
   refine zak (zad HX8.out) (zae ?_)
   simp only [zac,List.getElem?_cons_succ,List.getElem?_cons_zero]
   go_wp2_with fail
   refine zak (zad HX8.out) (zae ?_)
   simp only [zac,List.getElem?_cons_succ,List.getElem?_cons_zero]
   go_wp2_with fail
   refine zak (zad HX8.out) (zae ?_)
   simp only [zac,List.getElem?_cons_succ,List.getElem?_cons_zero]
   go_wp2_with fail
   refine zas (zav ?_)
   go_wp2_with fail
   go_ret
   exact ⟨rfl,(HXW.out.trans HL.out.world).trans HX8.out⟩
  ·have hl:=HL.out.len
   have hsum:=HL.out.sum
   have HOKG:=hid HST.out.okG'
   go_wp2_with fail
   refine (compact_good HST.out (by omega) (by omega) (by omega)).mono ?_
   rintro e w5 ⟨rfl,Q,hQ,hstep⟩
   obtain ⟨B2,hL2⟩:=HL.out.step hstep (N':=599) (j':=13) (by omega) (HL.out.mod.compact HOKG.out hQ X) (by omega) (by have:=hQ.many;simp [totG];omega) (by omega) (by simp) (by omega) (by omega)
   have HL2:=hid hL2
   obtain ⟨r2,hst2,_⟩:=hL2.sto
   have HST2:=hid hst2
   have HSB2:=hid ((hL2.world.block (zab HSB.out)).trans HSB.out)
   have m0:=zaa hL2.mo.box 0
   simp at m0
   clear hQ hstep hL2 hst2 HST HL HOKG
   go_wp2_with fail
   clear m0
   refine (open_again HST2.out (by omega)).mono ?_
   rintro e w6 ⟨p2,B3,rfl,ha,hb,hc3,hn3⟩
   obtain ⟨B4,hL4⟩:=HL2.out.step (r':=r2) (N':=599) (j':=13) ⟨B3,ha,hc3.mono (fun i _ e=>.inr e),hn3⟩ (by omega) HL2.out.mod (by omega) (by have:=HL2.out.sum;omega) (by omega) (by simp) (by have:=HL2.out.len;omega) (by have:=HL2.out.len;omega)
   have HA:=hid ha
   have HB:=hid hb
   have HMO:=hid hL4.mo
   have HMD:=hid hL4.mod
   have HX6:=hid hL4.world
   have hone:([(X,Q)]:Gs).length=1:=rfl
   clear ha hb hc3 hn3 hL4 HST2 HL2
   go_wp2_with fail
   refine (state_good HA.out).mono ?_
   rintro e w7 ⟨x1,x2,x3,x4,x5,x6,sfa,sfc,sta,stn,stc,rfl,hx7⟩
   rw [hone]
   have HX7:=hid hx7
   obtain ⟨S,B0,hda,hSok,sI,hI⟩:=list_good (HA.out.next hx7)
   have HDA:=hid (disk_list hSok hda ⟨#[]⟩)
   have hl2:(S.list ⟨#[]⟩).length=2:=hI.list_one
   have hfd:=field_files x1 x2 x3 x4 x5 x6 sfa 1 sfc sta stn stc
   clear hx7 hda hSok hI hone
   go_wp2_with fail
   refine HDA.out.mono ?_
   rintro e w8 ⟨vl,rfl,hsl⟩
   obtain ⟨la,lc,rfl⟩:=hsl.row.shape
   rw [hl2]
   have HX8:=hid (HX7.out.trans hsl.ext)
   clear hsl hl2 HDA
   have HSB8:=hid (((HX6.out.trans HX8.out).block (zab HSB.out)).trans HSB.out)
   have z0:=zaa HSB8.out 0
   have z1:=zaa HSB8.out 1
   simp at z0 z1
   go_wp2_with fail
   clear z0 z1
   refine (like_true (HA.out.next HX8.out) (HMO.out.ext HX8.out) HMD.out f t).mono ?_
   rintro e w9 ⟨rfl,hx9⟩
   have HX9:=hid (HX8.out.trans hx9)
   clear hx9
   go_wp2_with fail
   refine (like_true (HA.out.next HX9.out) (HMO.out.ext HX9.out) HMD.out _ _).mono ?_
   rintro e wa ⟨rfl,hxa⟩
   have HXA:=hid (HX9.out.trans hxa)
   clear hxa
   have HSBA:=hid (((HX6.out.trans HXA.out).block (zab HSB.out)).trans HSB.out)
   have z0:=zaa HSBA.out 0
   have z1:=zaa HSBA.out 1
   simp at z0 z1
   go_wp2_with fail
   clear z0 z1
   refine (like_true (HB.out.next HXA.out) (HMO.out.ext HXA.out) HMD.out f t).mono ?_
   rintro e wb ⟨rfl,hxb⟩
   have HXB:=hid (HXA.out.trans hxb)
   clear hxb
   go_wp2_with fail
   go_ret
   exact ⟨rfl,(HXW.out.trans HX6.out).trans HXB.out⟩
end Go.Proofs.YtlmfhjipbjkcbaaGreatDoor
