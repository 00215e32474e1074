/- x -/
import Derived.Test.YtlmfhjipbjkcbaaGreatDoorSta
import Derived.Test.YtlmfhjipbjkcbaaGreatDoorMg5
set_option maxHeartbeats 8000000
set_option maxRecDepth 100000
set_option linter.unusedSimpArgs false
set_option linter.unusedVariables false
namespace Go.Proofs.YtlmfhjipbjkcbaaGreatDoor
section
open Go.RowKit Go.Sort Go.Lib
structure GoodI (x:SegI) (l:List Pt):Prop where
 b:x.blk=zaO l
 lo:x.lo=loT l
 hi:x.hi=hiT l
 n:x.n=l.length
 col:colV l=true
 v:∀p∈l,-9223372036854775808≤p.v∧p.v≤9223372036854775807
def HasP (L:List SegI) (s:ByteArray) (l:List Pt):Prop:=(s∉zay L∧l=[])∨∃(i:Nat) (x:SegI),L[i]?=some x∧x.name=s∧GoodI x l
theorem cut_out {l:List Pt}(hc:colV l=true) {f t:Int}(h:t≤f∨hiT l<f∨t≤loT l):cutL f t l=[]:=by
 obtain ⟨_,_,_,hs⟩:=span_colV hc
 unfold cutL
 rw [List.filter_eq_nil_iff]
 intro p hp
 have:=hs p hp
 simp
 omega
theorem HasP.rises {L:List SegI}{s:ByteArray}{l:List Pt}(h:HasP L s l):Rises l:=by
 rcases h with ⟨_,rfl⟩|⟨_,_,_,_,g⟩
 ·exact Rises.nil
 ·exact zdH g.col
theorem segPts_any {w:World}{q:Nat}{L:List SegI}(h:SegAt w q L) (hok:SegOk L) (s:ByteArray) (l:List Pt) (hl:HasP L s l) (f t:Int) (hg:HasET w) :
 Calls Tryz.prog 44 #[.pointer (some ⟨q,0,none⟩),.string s,.int .i64 f,.int .i64 t] w fun e w'=>∃v,e=.returned (.tuple #[v,.int .i64 0])∧CutTo w (cutL f t l) v w':=by
 have hbl:(bodyL L).length≤1048576:=by have:=hok.size;omega
 rcases hl with ⟨hs,rfl⟩|⟨i,x,hx,rfl,g⟩
 ·refine (segPoints_none h hok.nodup s f t hs).mono ?_
  rintro e w' ⟨rfl,rfl⟩
  exact ⟨_,rfl,by simpa [cutL] using CutTo.nil w⟩
 ·by_cases ho:t≤f∨x.hi<f∨t≤x.lo
  ·refine (segPoints_out h hok.nodup f t hx ho).mono ?_
   rintro e w' ⟨rfl,hx'⟩
   rw [g.lo,g.hi] at ho
   rw [cut_out g.col ho]
   exact ⟨_,rfl,(CutTo.nil w).next hx'⟩
  ·exact segPoints_in h hok.nodup f t hx l (by omega) g.b g.lo g.hi g.n g.col g.v hg hbl
theorem cut_skip {L:List SegI}{s:ByteArray}{l:List Pt}(h:HasP L s l) {f t:Int}(ho:hiS L<f∨t≤loS L):cutL f t l=[]:=by
 rcases h with ⟨_,rfl⟩|⟨i,x,hx,_,g⟩
 ·rfl
 ·have hm:=minOf_fold L
  have h1:=hm.l1 x (yag hx) trivial
  have h2:=hm.h1 x (yag hx) trivial
  rw [g.lo] at h1
  rw [g.hi] at h2
  exact cut_out g.col (by omega)
theorem elem_lsl:ElemOk Tryz.prog 119 38 1 24 :=
 ⟨Tryz.underlying119,by
   obtain ⟨i0,hi,hz0,hz1,hz2⟩:=info_parts (show (Tryz.prog.info? 38).map (fun i=>(i.zero,i.size,i.bytes))=some (some (.slice none 0 0),1,24) from by kernel_rfl)
   exact ⟨i0,_,hi,hz0,hz1,hz2,rfl⟩,by decide⟩
theorem src_lsl {W:World}{b:Nat}{x:Sl}{t:TypeId}{fr:Nat×Nat}(h:W.heap[b]?=some (.cells #[x.v] t fr)):Src W 1 (.slice (some ⟨b,0,none⟩) 1 1) 1 ([x].map Sl.v):=by
 refine .inr ⟨_,_,rfl,rfl,fun j u hj=>?_,fun u hu=>by simp at hu;subst hu;rfl⟩
 rw [yak,Nat.zero_add,zaa h]
 simpa using hj
def HoldP (S:DiskS) (fl:List Fl) (s:ByteArray) (H:List (List Pt)):Prop:=H.length=fl.length∧∀(k:Nat) (F:Fl) (l:List Pt),fl[k]?=some F→H[k]?=some l→∃L,OnDisk S F L∧HasP L s l
structure PtsI (w:World) (f t:Int) (H:List (List Pt)) (k:Nat) (ls:List Sl) (va:Option Addr) (vn vc:Nat) (wr:World):Prop where
 row:Row wr 38 1 (.slice va vn vc) vn (ls.map Sl.v)
 ok:∀x∈ls,x.Ok wr
 off:∀x∈ls,∀g,x.a.map (·.block)=some g→va.map (·.block)≠some g
 lt:∀x∈ls,∀g,x.a.map (·.block)=some g→w.heap.size≤g∧g<wr.heap.size
 own:∀g,va.map (·.block)=some g→w.heap.size≤g
 ext:Ext w wr
 eq:(ls.map Sl.l).filter neL=((H.take k).map (cutL f t)).filter neL
 len:vn=ls.length∧vn≤k
 tot:totS ls≤((H.take k).map List.length).sum
theorem PtsI.skip {w wr w2:World}{f t:Int}{H:List (List Pt)}{k vn vc:Nat}{ls:List Sl}{va:Option Addr}{l:List Pt}(h:PtsI w f t H k ls va vn vc wr) (hl:H[k]?=some l) (hc:cutL f t l=[]) (hx:Ext wr w2):PtsI w f t H (k+1) ls va vn vc w2:=by
 have e:H.take (k+1)=H.take k++[l]:=by rw [yao,hl];rfl
 refine ⟨h.row.ext hx,fun x hm=>(h.ok x hm).ext hx,h.off,fun x hm g hg=>⟨(h.lt x hm g hg).1,yan (h.lt x hm g hg).2 hx.size⟩,h.own,h.ext.trans hx,?_,⟨h.len.1,by have:=h.len.2;omega⟩,?_⟩
 ·rw [e,yav,yaW,←h.eq]
  simp [hc,neL]
 ·rw [e,yav,List.sum_append]
  have:=h.tot
  omega
theorem PtsI.add {w wr w2 w3 W w4:World}{f t:Int}{H:List (List Pt)}{k vn vc vc' c:Nat}{ls:List Sl}{va va' a:Option Addr}{l:List Pt}(h:PtsI w f t H k ls va vn vc wr) (hl:H[k]?=some l) (hx:Ext wr w2)
 (hc:CutTo w2 (cutL f t l) (.slice a (cutL f t l).length c) w3) (hnc:(cutL f t l).length≤c) (hW:Ext w3 W) (ha:Appended W 38 1 (.slice va vn vc) (vn+1) (ls.map Sl.v++[(⟨a,(cutL f t l).length,c,cutL f t l⟩:Sl)].map Sl.v) (.slice va' (vn+1) vc') w4):PtsI w f t H (k+1) (ls++[⟨a,(cutL f t l).length,c,cutL f t l⟩]) va' (vn+1) vc' w4:=by
 have e:H.take (k+1)=H.take k++[l]:=by rw [yao,hl];rfl
 have hxW:Ext wr W:=(hx.trans hc.ext).trans hW
 have hwW:Ext w W:=h.ext.trans hxW
 have hloc:∀g,va'.map (·.block)=some g→va.map (·.block)=some g∨g=W.heap.size:=fun g hg=>by
  have hl:=ha.loc
  rw [zar,zar,hg] at hl
  rcases hl with e|e
  ·exact .inl e.symm
  ·exact .inr (yaG e)
 have hcg:∀g,a.map (·.block)=some g→w2.heap.size≤g∧g<w3.heap.size:=fun g hg=>⟨hc.own g (by rw [zar];exact hg),hc.row.lt (by rw [zar];exact hg)⟩
 have hvl:∀g,va.map (·.block)=some g→g<wr.heap.size:=fun g hg=>h.row.lt (by rw [zar];exact hg)
 have hs2:=hx.size
 have hs3:=hW.size
 have hsw:=h.ext.size
 have hok:∀x:Sl,x.Ok W→(∀g,x.a.map (·.block)=some g→va.map (·.block)≠some g)→x.Ok w4:=fun x hx hne =>
  ⟨zbN hx.1 ha.chg (fun b hb e=>by rw [zar] at e;exact hne b hb e),hx.2⟩
 refine ⟨by rw [yav];exact ha.row,fun x hm=>?_,fun x hm g hg=>?_,fun x hm g hg=>?_,fun g hg=>?_,?_,?_,⟨by rw [yae,←h.len.1];rfl,by have:=h.len.2;omega⟩,?_⟩
 ·rcases yah.1 hm with hm|hm
  ·exact hok x ((h.ok x hm).ext hxW) (h.off x hm)
  ·obtain rfl:=yal.1 hm
   exact hok _ ⟨(hc.row.src (zck _)).ext hW,hnc⟩ (fun g hg e=>by have:=hcg g hg;have:=hvl g e;omega)
 ·intro e2
  rcases yah.1 hm with hm|hm
  ·rcases hloc g e2 with e3|e3
   ·exact h.off x hm g hg e3
   ·have:=h.lt x hm g hg
    have:=hxW.size
    omega
  ·obtain rfl:=yal.1 hm
   have:=hcg g hg
   rcases hloc g e2 with e3|e3
   ·have:=hvl g e3;omega
   ·omega
 ·have hs4:=ha.chg.size
  rcases yah.1 hm with hm|hm
  ·have:=h.lt x hm g hg
   have:=hxW.size
   omega
  ·obtain rfl:=yal.1 hm
   have:=hcg g hg;omega
 ·rcases hloc g hg with e3|e3
  ·exact h.own g e3
  ·have:=hwW.size;omega
 ·exact ((Chg.of_ext (S:=fun b=>va.map (·.block)=some b) hwW).trans ha.chg (fun i _ e=>by rw [zar] at e;exact e)).ext (fun i hi e=>by have:=h.own i e;omega)
 ·rw [e,yav,yav,yaW,yaW,←h.eq];rfl
 ·rw [e,yav,List.sum_append]
  have h1:=h.tot
  have h2:=cutL_len f t l
  have h3:totS (ls++[(⟨a,(cutL f t l).length,c,cutL f t l⟩:Sl)])=totS ls+(cutL f t l).length:=by simp [totS]
  rw [h3]
  simp only [yaJ,List.map_nil,yaI,List.sum_nil]
  omega
def PtsTo (w:World) (f t:Int) (H:List (List Pt)) (e:Ending) (w':World):Prop :=
 ∃v out,e=.returned (.tuple #[v,.int .i64 0])∧CutTo w out v w'∧IsMerge ((H.map (cutL f t)).filter neL) out
theorem stoPoints_any {w:World}{p d:Nat}{s:Sta}{S:DiskS}{B:List Nat}{v:StoV}(ok:S.Ok) (h:StoAt w p d s S B v) (nm:ByteArray) (H:List (List Pt)) (hH:HoldP S s.fl nm H) (f t:Int) (hN:H.length+(H.map List.length).sum<4000) (hg:HasET w) :
 Calls Tryz.prog 16 #[.pointer (some ⟨p,0,none⟩),.string nm,.int .i64 f,.int .i64 t] w (PtsTo w f t H):=by
 obtain ⟨fa,fn,fc,ta,tn,tc⟩:=v
 have HH:=hid h
 have HG:=hid hg
 have HHP:=hid hH
 have HN:=hid hN
 have HOK:=hid ok
 have hfl:s.fl.length=fn:=zbA h.st.fl
 have hHl:H.length=fn:=by rw [hH.1,hfl]
 have HHL:=hid hHl
 have hvn:fn<4000:=by omega
 have HFS:Hid (Src w 4 (.slice fa fn fc) fn (fls s.fl)):=hid h.st.fl
 have c7:w.cell? ⟨p,7,none⟩=some (.slice fa fn fc):=by have:=zaa h.box 7;simpa using this
 clear h hg hH hN ok hfl hHl
 go_enter Tryz.func16,Tryz.ntmps16
 go_wp2_with fail
 refine (zcz HH.out).mono ?_
 rintro e w1 ⟨rfl,rfl⟩
 go_wp2_with fail
 clear c7
 go_loopw [8,9,10,24] (fun s8 s9 s10 s24 wr=>∃(k vn vc:Nat) (va:Option Addr),s8=.slice none 0 0∧s9=.int .i64 0∧s10=.slice va vn vc∧s24=.int .i64 (k:Int)∧k≤fn∧vn≤k∧Hid (∃ls,PtsI w f t H k ls va vn vc wr)) (fun _ _ _ z _=>fn-(RowKit.intOf z).toNat)
 case atStart=>exact ⟨0,0,0,none,rfl,rfl,rfl,rfl,by omega,by omega,hid ⟨[],⟨Row.nil _ _ _,by simp,by simp,by simp,by simp,Ext.refl _,rfl,⟨rfl,by omega⟩,by simp [totS]⟩⟩⟩
 case round =>
  obtain ⟨k,vn,vc,va,rfl,rfl,rfl,rfl,hk,hvk,HI⟩:=hrel
  by_cases hlt:k<fn
  ·obtain ⟨ls,hI⟩:=HI.out
   have HPI:=hid hI
   obtain ⟨fb,fo,F,rfl,hF,f0,f1,f2,f3⟩:=fls_src (HFS.out.ext hI.ext) hlt
   obtain ⟨l,hl⟩:∃l,H[k]?=some l:=⟨_,yac (by have:=HHL.out;omega)⟩
   obtain ⟨L,hod,hhp⟩:=HHP.out.2 k F l hF hl
   have HOD:=hid hod
   have HHAS:=hid hhp
   have HLK:=hid hl
   have HRI:Hid ((H.take (k+1)).length≤fn):=hid (by rw [yaB];have:=HHL.out;omega)
   obtain ⟨fnm,ga,gb,gk⟩:=F
   simp only at f0 f1 f2 f3
   clear hF hl hod hhp hI
   go_upto_region 7 with fail
   generalize hW:World.alloc _ _=W
   obtain ⟨bx,hbx⟩:∃bx,bx=wr.heap.size:=⟨_,rfl⟩
   have HXW:Hid (Ext wr W):=hid (by rw [←hW];exact (Ext.refl wr).alloc _)
   have HB:Hid (W.heap[bx]?=some (.cells #[.string fnm,.int .i64 ga,.int .i64 gb,.int .i64 gk] 110 (0,0))):=hid (by rw [←hW,hbx];exact heap_alloc_new wr _)
   rw [←hbx]
   clear hW hbx f0 f1 f2 f3
   have y1:=zaa HB.out 1
   have y2:=zaa HB.out 2
   simp at y1 y2
   by_cases h1:gb<f
   ·have HSK:Hid (cutL f t l=[]):=hid (cut_skip HHAS.out (.inl (by have:=HOD.out.b;simp only at this;omega)))
    go_wp2_with fail
    go_roundw
    case rel=>exact ⟨k+1,vn,vc,va,rfl,rfl,rfl,by go_num,by omega,by omega,hid ⟨ls,HPI.out.skip HLK.out HSK.out HXW.out⟩⟩
    case measure=>simp [RowKit.intOf];omega
   ·by_cases h2:t≤ga
    ·have HSK:Hid (cutL f t l=[]):=hid (cut_skip HHAS.out (.inr (by have:=HOD.out.a;simp only at this;omega)))
     go_wp2_with fail
     go_roundw
     case rel=>exact ⟨k+1,vn,vc,va,rfl,rfl,rfl,by go_num,by omega,by omega,hid ⟨ls,HPI.out.skip HLK.out HSK.out HXW.out⟩⟩
     case measure=>simp [RowKit.intOf];omega
    ·go_wp2_with (refine zat rfl _ _ rfl _ _ _ _ _ rfl HB.out Tryz.underlying110 rfl zed ?_)
     refine (stoRead_any HOK.out (HH.out.ext (HPI.out.ext.trans HXW.out)) ⟨fnm,ga,gb,gk⟩ L HOD.out (HG.out.ext (HPI.out.ext.trans HXW.out))).mono ?_
     rintro e w2 ⟨q,rfl,hsg,hx2⟩
     have HSG:=hid hsg
     have HX2:=hid (HXW.out.trans hx2)
     clear hsg hx2 y1 y2
     go_wp2_with fail
     refine (segPts_any HSG.out HOD.out.ok nm l HHAS.out f t (HG.out.ext (HPI.out.ext.trans HX2.out))).mono ?_
     rintro e w3 ⟨v3,rfl,hc⟩
     obtain ⟨ca,cc,rfl⟩:=hc.row.shape
     have HC:=hid hc
     have HNC:=hid (zcj hc.row)
     obtain ⟨cn,hcn⟩:∃cn,cn=(cutL f t l).length:=⟨_,rfl⟩
     rw [←hcn]
     have HCN:=hid hcn
     clear hc hcn
     have HROW:=hid (HPI.out.row.ext (HX2.out.trans HC.out.ext))
     go_wp2_with (at_builtin;go_must (refine zah (n:=vn) (m:=1) (v:=.slice va vn vc) elem_lsl rfl _ _ rfl rfl rfl (HROW.out.alloc _) (src_lsl (x:=⟨ca,cn,cc,cutL f t l⟩) (heap_alloc_new _ _)) (by unfold maxLen;omega) (by omega) ?_;intro v4 w4 happ);obtain ⟨va',vc',rfl⟩:=happ.row.shape;have HA:=hid happ;clear happ)
     go_roundw
     case rel=>exact ⟨k+1,vn+1,vc',va',rfl,rfl,rfl,by go_num,by omega,by omega,hid ⟨_,HPI.out.add HLK.out HX2.out HC.out HNC.out ((Ext.refl w3).alloc _) (by have h:=HA.out;rw [HCN.out] at h;exact h)⟩⟩
     case measure=>simp [RowKit.intOf];omega
  ·obtain rfl:k=fn:=by omega
   obtain ⟨ls,hI⟩:=HI.out
   have HPI:=hid hI
   have HTK:Hid (H.take k=H):=hid (yai (by rw [HHL.out];exact Nat.le_refl _))
   have hto:=hI.tot
   rw [HTK.out] at hto
   have HMG:=hid (merge_any wr va vn vc ls (hI.row.src (fun u hu=>by obtain ⟨x,_,rfl⟩:=yap.1 hu;rfl)) hI.ok (by have:=HN.out;have:=HHL.out;omega))
   clear hI hto
   go_wp2_with fail
   refine HMG.out.mono ?_
   rintro e w2 ⟨hx2,hm⟩
   rcases hm with ⟨_,v2,out,rfl,hrow,hown,him,_⟩|⟨hn,_⟩
   ·have HR:=hid (And.intro hrow (And.intro hown him))
    have HX2:=hid hx2
    clear hrow hown him hx2
    obtain ⟨oa,oc,rfl⟩:=HR.out.1.shape
    go_wp2_with fail
    go_ret2
    refine ⟨_,out,rfl,⟨HR.out.1,fun g hg=>by have h1:=HR.out.2.1 g hg;have:=HPI.out.ext.size;omega,HPI.out.ext.trans HX2.out⟩,?_⟩
    have h1:=HR.out.2.2.ne
    rw [HPI.out.eq,HTK.out] at h1
    exact h1
   ·exfalso
    apply hn
    intro l hl
    obtain ⟨x,hx,rfl⟩:=yap.1 hl
    by_cases hne:neL x.l=true
    ·have h1:x.l∈((H.take k).map (cutL f t)).filter neL:=by
      rw [←HPI.out.eq]
      exact yay.2 ⟨yax hx,hne⟩
     obtain ⟨h2,_⟩:=yay.1 h1
     obtain ⟨m,hm,e⟩:=yap.1 h2
     rw [←e]
     refine Rises.cut ?_ f t
     rw [HTK.out] at hm
     obtain ⟨i,hi,e2⟩:=yaH.1 hm
     have hfi:i<s.fl.length:=by rw [←HHP.out.1];exact hi
     obtain ⟨L,_,hp⟩:=HHP.out.2 i s.fl[i] m (yac hfi) (by rw [yac hi,e2])
     exact hp.rises
    ·have:x.l=[]:=by
      cases hxl:x.l with
      | nil=>rfl
      | cons a b=>rw [hxl] at hne;simp [neL] at hne
     rw [this];exact Rises.nil
structure MoAt (w:World) (mb:Nat) (F:List PaM) (a:Option Addr) (n c:Nat):Prop where
 box:w.heap[mb]?=some (.cells #[.slice a n c] 35 (0,0))
 row:Row w 48 2 (.slice a n c) n (pams F)
 ok:∀q∈F,q.Ok w∧q.n<4398046511104
 ne:a.map (·.block)≠some mb
theorem MoAt.ext {w w':World}{mb:Nat}{F:List PaM}{a:Option Addr}{n c:Nat}(h:MoAt w mb F a n c) (hx:Ext w w'):MoAt w' mb F a n c :=
 ⟨(hx.block (zab h.box)).trans h.box,h.row.ext hx,fun q hq=>⟨(h.ok q hq).1.ext hx,(h.ok q hq).2⟩,h.ne⟩
def modH (F:List PaM) (nm:ByteArray):List (List Pt):=F.map fun q=>if q.nm=nm then q.l else []
def ModTo (w:World) (f t:Int) (H:List (List Pt)) (e:Ending) (w':World):Prop:=∃v out,e=.returned v∧CutTo w out v w'∧IsMerge ((H.map (cutL f t)).filter neL) out
theorem modelPts_any {w:World}{mb:Nat}{F:List PaM}{a:Option Addr}{n c:Nat}(h:MoAt w mb F a n c) (nm:ByteArray) (f t:Int) (hN:F.length+((modH F nm).map List.length).sum<4000) (hr:∀q∈F,Rises q.l) :
 Calls Tryz.prog 18 #[.pointer (some ⟨mb,0,none⟩),.string nm,.int .i64 f,.int .i64 t] w (ModTo w f t (modH F nm)):=by
 have HM:=hid h
 have HN:=hid hN
 have HR:=hid hr
 have hfl:F.length=n:=zcO (h.row.src (zdY _))
 have HFL:=hid hfl
 have hn4:n<4000:=by omega
 obtain ⟨H,hH⟩:∃H,H=modH F nm:=⟨_,rfl⟩
 have HH:=hid hH
 rw [←hH] at HN ⊢
 clear h hN hr hfl hH
 go_enter Tryz.func18,Tryz.ntmps18
 go_wp2_with fail
 go_loopw [9,10] (fun s9 s10 wr=>∃(k vn vc:Nat) (va:Option Addr),s9=.slice va vn vc∧s10=.int .i64 (k:Int)∧k≤n∧vn≤k∧Hid (∃ls,PtsI w f t H k ls va vn vc wr)) (fun _ z _=>n-(RowKit.intOf z).toNat)
 case atStart=>exact ⟨0,0,0,none,rfl,rfl,by omega,by omega,hid ⟨[],⟨Row.nil _ _ _,by simp,by simp,by simp,by simp,Ext.refl _,rfl,⟨rfl,by omega⟩,by simp [totS]⟩⟩⟩
 case round =>
  obtain ⟨k,vn,vc,va,rfl,rfl,hk,hvk,HI⟩:=hrel
  obtain ⟨ls,hI⟩:=HI.out
  have HPI:=hid hI
  have HMR:=hid (HM.out.ext hI.ext)
  have m0:wr.cell? ⟨mb,0,none⟩=some (.slice a n c):=by have:=zaa HMR.out.box 0;simpa using this
  clear hI HI
  by_cases hlt:k<n
  ·obtain ⟨fb,fo,q,rfl,hq,f0,f1⟩:=pams_src (HMR.out.row.src (zdY _)) hlt
   have hqm:=yag hq
   have HQ:=hid (HMR.out.ok q hqm)
   have HHK:Hid (H[k]?=some (if q.nm=nm then q.l else [])):=hid (by rw [HH.out];unfold modH;rw [yar,hq];rfl)
   clear hqm hq
   by_cases hnm:q.nm=nm
   ·have HHL:Hid (H[k]?=some q.l):=hid (by have h:=HHK.out;rw [if_pos hnm] at h;exact h)
    have hb:(q.nm.toList==nm.toList)=true:=by rw [hnm];exact beq_self_eq_true _
    clear HHK
    go_wp2_with fail
    refine (refCut_any wr q.a q.n q.c f t q.l HQ.out.1.src HQ.out.2).mono ?_
    rintro e w3 ⟨v3,rfl,hc⟩
    obtain ⟨ca,cc,rfl⟩:=hc.row.shape
    have HC:=hid hc
    have HNC:=hid (zcj hc.row)
    obtain ⟨cn,hcn⟩:∃cn,cn=(cutL f t q.l).length:=⟨_,rfl⟩
    rw [←hcn]
    have HCN:=hid hcn
    clear hc hcn
    have HROW:=hid (HPI.out.row.ext HC.out.ext)
    go_wp2_with (at_builtin;go_must (refine zah (n:=vn) (m:=1) (v:=.slice va vn vc) elem_lsl rfl _ _ rfl rfl rfl (HROW.out.alloc _) (src_lsl (x:=⟨ca,cn,cc,cutL f t q.l⟩) (heap_alloc_new _ _)) (by unfold maxLen;omega) (by omega) ?_;intro v4 w4 happ);obtain ⟨va',vc',rfl⟩:=happ.row.shape;have HA:=hid happ;clear happ)
    go_roundw
    case rel=>exact ⟨k+1,vn+1,vc',va',rfl,by go_num,by omega,by omega,hid ⟨_,HPI.out.add HHL.out (Ext.refl _) HC.out HNC.out ((Ext.refl w3).alloc _) (by have h:=HA.out;rw [HCN.out] at h;exact h)⟩⟩
    case measure=>simp [RowKit.intOf];omega
   ·have HHL:Hid (H[k]?=some []):=hid (by have h:=HHK.out;rw [if_neg hnm] at h;exact h)
    have hb:(q.nm.toList==nm.toList)=false:=yam.2 (fun e=>hnm (bl_inj (by simpa [bl,ByteArray.toList_eq] using e)))
    clear HHK
    go_wp2_with fail
    go_roundw
    case rel=>exact ⟨k+1,vn,vc,va,rfl,by go_num,by omega,by omega,hid ⟨ls,HPI.out.skip HHL.out rfl (Ext.refl _)⟩⟩
    case measure=>simp [RowKit.intOf];omega
  ·obtain rfl:k=n:=by omega
   have HTK:Hid (H.take k=H):=hid (yai (by rw [HH.out];unfold modH;rw [yaw,HFL.out];exact Nat.le_refl _))
   have hto:=HPI.out.tot
   rw [HTK.out] at hto
   have HMG:=hid (refMerge_any wr va vn vc ls (HPI.out.row.src (fun u hu=>by obtain ⟨x,_,rfl⟩:=yap.1 hu;rfl)) HPI.out.ok (by have:=HN.out;have:=HFL.out;omega))
   clear hto
   go_wp2_with fail
   refine HMG.out.mono ?_
   rintro e w2 ⟨hx2,hm⟩
   rcases hm with ⟨_,v2,vc2,out,rfl,hc,him,_⟩|⟨hn,_⟩
   ·have HC:=hid hc
    have HIM:=hid him
    clear hc him hx2
    go_wp2_with fail
    go_ret
    refine ⟨_,out,rfl,⟨HC.out.row,fun g hg=>by have h1:=HC.out.own g hg;have:=HPI.out.ext.size;omega,HPI.out.ext.trans HC.out.ext⟩,?_⟩
    have h1:=HIM.out.ne
    rw [HPI.out.eq,HTK.out] at h1
    exact h1
   ·exfalso
    apply hn
    intro l hl
    obtain ⟨x,hx,rfl⟩:=yap.1 hl
    by_cases hne:neL x.l=true
    ·have h1:x.l∈((H.take k).map (cutL f t)).filter neL:=by
      rw [←HPI.out.eq]
      exact yay.2 ⟨yax hx,hne⟩
     obtain ⟨h2,_⟩:=yay.1 h1
     obtain ⟨m,hm,e⟩:=yap.1 h2
     rw [←e]
     refine Rises.cut ?_ f t
     rw [HTK.out,HH.out] at hm
     obtain ⟨q,hq,rfl⟩:=yap.1 hm
     split
     ·exact HR.out q hq
     ·exact Rises.nil
    ·have:x.l=[]:=by
      cases hxl:x.l with
      | nil=>rfl
      | cons a b=>rw [hxl] at hne;simp [neL] at hne
     rw [this];exact Rises.nil
end
section
open Go.RowKit Go.Sort Go.Lib
structure LikeI (S:DiskS) (fl:List Fl) (F:List PaM) (i:Nat) (H:List (List Pt)):Prop where
 hold:HoldP S fl (nmL i) H
 few:H.length+(H.map List.length).sum<4000
 few2:F.length+((modH F (nmL i)).map List.length).sum<4000
def SameI (F:List PaM) (f t:Int) (i:Nat) (H:List (List Pt)):Prop:=∀o1 o2,IsMerge ((H.map (cutL f t)).filter neL) o1→IsMerge (((modH F (nmL i)).map (cutL f t)).filter neL) o2→o1=o2
def LikeTo (w:World) (F:List PaM) (f t:Int) (H:Nat→List (List Pt)) (e:Ending) (w':World):Prop:=∃b:Bool,e=.returned (.bool b)∧((∀i,i<3→SameI F f t i (H i))→b=true)∧Ext w w'
theorem lawLike_any {w:World}{p d mb:Nat}{s:Sta}{S:DiskS}{B:List Nat}{v:StoV}(ok:S.Ok) (h:StoAt w p d s S B v) {F:List PaM}{a:Option Addr}{n c:Nat}(hm:MoAt w mb F a n c) (hr:∀q∈F,Rises q.l) (f t:Int) (H:Nat→List (List Pt)) (hl:∀i,i<3→LikeI S s.fl F i (H i)) (hg:HasET w) :
 Calls Tryz.prog 21 #[.pointer (some ⟨p,0,none⟩),.pointer (some ⟨mb,0,none⟩),.agg #[.int .i64 f,.int .i64 t]] w (LikeTo w F f t H):=by
 have HH:=hid h
 have HM:=hid hm
 have HG:=hid hg
 have HL:=hid hl
 have HR:=hid hr
 have HOK:=hid ok
 clear h hm hr hl hg ok
 go_enter Tryz.func21,Tryz.ntmps21
 go_upto_region 1 with fail
 generalize hW:World.alloc _ _=W
 obtain ⟨sb,hsb⟩:∃b,b=w.heap.size:=⟨_,rfl⟩
 rw [←hsb]
 have HXW:Hid (Ext w W):=hid (by rw [←hW];exact (Ext.refl w).alloc _)
 have HSB:Hid (W.heap[sb]?=some (.cells #[.int .i64 f,.int .i64 t] 61 (0,0))):=hid (by rw [←hW,hsb];exact heap_alloc_new w _)
 clear hW hsb
 go_wp2_with fail
 go_loopw [7] (fun s7 wr=>∃j:Nat,s7=.int .i64 (j:Int)∧j≤3∧Hid (Ext W wr)) (fun z _=>3-(RowKit.intOf z).toNat)
 case atStart=>exact ⟨0,rfl,by omega,hid (Ext.refl _)⟩
 case round =>
  obtain ⟨j,rfl,hj,HI⟩:=hrel
  have HXR:=hid (HXW.out.trans HI.out)
  have hsb2:=(HI.out.block (zab HSB.out)).trans HSB.out
  by_cases hlt:j<3
  ·have y0:=zaf (T:=fun _=>false) (by have:=zaa hsb2 0;simpa using this:wr.cell? ⟨sb,0,none⟩=some (.int .i64 f)) rfl
   have y1:=zaf (T:=fun _=>false) (by have:=zaa hsb2 1;simpa using this:wr.cell? ⟨sb,1,none⟩=some (.int .i64 t)) rfl
   have HLJ:=hid (HL.out j hlt)
   clear hsb2
   go_upto_region 4 with fail
   refine zda 99 (fun w'=>∃z:Turned,w'=turned wr (fun _=>false) z.d z.f z.os) (.reads [0,1,2,4,5,6,7] (.one 3 (.one 8 (.reads [9,10,11] (.one 12 (.one 13 .done)))))) (by kernel_rfl) (by kernel_rfl) (fun _ _ dd _ _ hh=>by cases dd<;>exact hh) ?_ ?_
   ·exact zad (Ext.drewN wr 1)
   refine zak ?_
   simp only [zac,yab,yaa]
   repeat (go_big_quiet_step (fail))
   refine yaF ?_
   clear y0 y1
   change zaA _ _ _ _ _ _ _ _ (wr.drewN 1)
   have HXd:Hid (Ext wr (wr.drewN 1)):=hid (Ext.drewN wr 1)
   generalize wr.drewN 1=Wd at HXd ⊢
   refine zae ?_
   simp only [zac,yab,yaa]
   go_wp2_with fail
   refine (zdg Wd j (by omega)).mono ?_
   rintro e w1 ⟨rfl,hx1⟩
   have HX1:=hid (HXd.out.trans hx1)
   clear hx1
   go_wp2_with fail
   refine zal (zad HX1.out) (zae ?_)
   simp only [zac,yab,yaa]
   go_wp2_with fail
   refine (stoPoints_any HOK.out (HH.out.ext (HXR.out.trans HX1.out)) (nmL j) (H j) HLJ.out.hold f t HLJ.out.few (HG.out.ext (HXR.out.trans HX1.out))).mono ?_
   rintro e w2 ⟨v2,o1,rfl,hc1,hm1⟩
   obtain ⟨a1,c1,rfl⟩:=hc1.row.shape
   obtain ⟨n1,hn1⟩:∃n1,n1=o1.length:=⟨_,rfl⟩
   have hs1:=hc1.row.src (zck _)
   rw [←hn1] at hs1 ⊢
   have HS1:=hid hs1
   have HM1:=hid hm1
   have HX2:=hid (HX1.out.trans hc1.ext)
   have HN1:=hid hn1
   clear hc1 hs1 hm1 hn1
   go_wp2_with fail
   refine zal (zad HX2.out) (zak ?_)
   simp only [zac,yab,yaa]
   repeat (go_big_quiet_step (fail))
   refine yaF ?_
   change zaA _ _ _ _ _ _ _ _ w2
   refine zae ?_
   simp only [zac,yab,yaa]
   go_wp2_with fail
   refine zal (zad HX2.out) (zae ?_)
   simp only [zac,yab,yaa]
   go_wp2_with fail
   refine zal (zad HX2.out) (zav ?_)
   have hsb3:=(HX2.out.block (yan (zab HSB.out) HI.out.size)).trans ((HI.out.block (zab HSB.out)).trans HSB.out)
   have y0:=zaf (T:=fun _=>false) (by have:=zaa hsb3 0;simpa using this:w2.cell? ⟨sb,0,none⟩=some (.int .i64 f)) rfl
   have y1:=zaf (T:=fun _=>false) (by have:=zaa hsb3 1;simpa using this:w2.cell? ⟨sb,1,none⟩=some (.int .i64 t)) rfl
   have HXR2:=hid (HXR.out.trans HX2.out)
   have HI2:=hid (HI.out.trans HX2.out)
   clear hsb3 HX2 HX1 HXd HI HXR
   go_upto_region 5 with fail
   refine zda 99 (fun w'=>∃z:Turned,w'=turned w2 (fun _=>false) z.d z.f z.os) (.reads [0,1,2,3,4,5,6,8,9,10,11] (.one 7 (.one 12 (.one 13 (.one 14 (.one 15 .done)))))) (by kernel_rfl) (by kernel_rfl) (fun _ _ dd _ _ hh=>by cases dd<;>exact hh) ?_ ?_
   ·exact zad (Ext.drewN w2 1)
   refine zak ?_
   simp only [zac,yab,yaa]
   repeat (go_big_quiet_step (fail))
   refine yaF ?_
   clear y0 y1
   change zaA _ _ _ _ _ _ _ _ (w2.drewN 1)
   have HXd:Hid (Ext w2 (w2.drewN 1)):=hid (Ext.drewN w2 1)
   generalize w2.drewN 1=Wd at HXd ⊢
   refine zae ?_
   simp only [zac,yab,yaa]
   go_wp2_with fail
   refine (zdg Wd j (by omega)).mono ?_
   rintro e w3 ⟨rfl,hx3⟩
   have HX3:=hid (HXd.out.trans hx3)
   clear hx3
   go_wp2_with fail
   refine zal (zad HX3.out) (zae ?_)
   simp only [zac,yab,yaa]
   go_wp2_with fail
   refine (modelPts_any (HM.out.ext (HXR2.out.trans HX3.out)) (nmL j) f t HLJ.out.few2 HR.out).mono ?_
   rintro e w4 ⟨v4,o2,rfl,hc2,hm2⟩
   obtain ⟨a2,c2,rfl⟩:=hc2.row.shape
   obtain ⟨n2,hn2⟩:∃n2,n2=o2.length:=⟨_,rfl⟩
   have hs2:=hc2.row.src (zck _)
   rw [←hn2] at hs2 ⊢
   have HS2:=hid hs2
   have HM2:=hid hm2
   have HX4:=hid (HX3.out.trans hc2.ext)
   have HN2:=hid hn2
   clear hc2 hs2 hm2 hn2
   go_wp2_with fail
   refine zal (zad HX4.out) (zae ?_)
   simp only [zac,yab,yaa]
   go_wp2_with fail
   have hl1:n1<4611686018427387904:=by have h1:=merged_le HM1.out;have h2:=HLJ.out.few;have h3:=HN1.out;omega
   have hl2:n2<4611686018427387904:=by have h1:=merged_le HM2.out;have h2:=HLJ.out.few2;have h3:=HN2.out;omega
   refine (same_any w4 a1 a2 n1 c1 n2 c2 o1 o2 (HS1.out.ext HX4.out) HS2.out hl1 hl2).mono ?_
   rintro e w5 ⟨rfl,hx5⟩
   have HX5:=hid (HX4.out.trans hx5)
   clear hx5 hl1 hl2
   obtain ⟨q,hq⟩:∃q,q=decide (o1=o2):=⟨_,rfl⟩
   have HQ:=hid hq
   rw [←hq]
   clear hq
   go_wp2_with fail
   refine zal (zad HX5.out) (zae ?_)
   simp only [zac,yab,yaa]
   go_wp2_with fail
   refine zal (zad HX5.out) (zae ?_)
   simp only [zac,yab,yaa]
   go_wp2_with fail
   refine zal (zad HX5.out) (zav ?_)
   cases q with
   | true =>
    go_wp2_with fail
    go_roundw
    case rel=>exact ⟨j+1,by go_num,by omega,hid (HI2.out.trans HX5.out)⟩
    case measure=>simp [RowKit.intOf];omega
   | false =>
    have HNE:Hid (o1≠o2):=hid (of_decide_eq_false HQ.out.symm)
    go_wp2_with fail
    go_ret
    exact ⟨false,rfl,fun hall=>absurd (hall j hlt o1 o2 HM1.out HM2.out) HNE.out,HXR2.out.trans HX5.out⟩
  ·obtain rfl:j=3:=by omega
   go_wp2_with fail
   go_ret
   exact ⟨true,rfl,fun _=>rfl,HXR.out⟩
end
end Go.Proofs.YtlmfhjipbjkcbaaGreatDoor
