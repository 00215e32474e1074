/- x -/
import Derived.Test.YtlmfhjipbjkcbaaGreatDoorMrd
import Derived.Test.YtlmfhjipbjkcbaaGreatDoorXvw
set_option maxHeartbeats 16000000
set_option maxRecDepth 100000
set_option linter.unusedSimpArgs false
set_option linter.unusedVariables false
namespace Go.Proofs.YtlmfhjipbjkcbaaGreatDoor
section
open Go.RowKit Go.Sort Go.Lib
section
variable {α:Type}
def loopR (stp:α→Rd→α×Rd):Nat→α×Rd→α×Rd
 | 0,s=>s
 | k+1,s=>if (loopR stp k s).2.bad=true then loopR stp k s else stp (loopR stp k s).1 (loopR stp k s).2
theorem loopR_stay {stp:α→Rd→α×Rd}{s:α×Rd}{k m:Nat}(h:(loopR stp k s).2.bad=true) (hm:k≤m):loopR stp m s=loopR stp k s:=by
 induction m with
 | zero=>obtain rfl:k=0:=by omega
         rfl
 | succ m ih =>
  by_cases hk:k=m+1
  ·rw [hk]
  ·have:=ih (by omega)
   show (if (loopR stp m s).2.bad=true then loopR stp m s else _)=_
   rw [this,if_pos h]
def manyR (stp:α→Rd→α×Rd) (most:Nat) (s:α×Rd):α×Rd :=
 loopR stp (rdNum s.2).1.toNat (s.1,⟨(rdNum s.2).2.l,(rdNum s.2).2.bad || decide ((most:Int)<(rdNum s.2).1)⟩)
end
theorem rdNum_lo (r:Rd):0≤(rdNum r).1∧(rdNum r).1≤1152921504606846976:=by
 unfold rdNum
 simp only
 split
 ·omega
 ·rename_i h
  simp at h
  omega
theorem many_any {α:Type}(stp:α→Rd→α×Rd) (most K:Nat) (caps:Array Value) (hcf:∀W,(callFunc K caps).run Tryz.prog W=.ok (.enter K caps) W) (w0:World) (p rp:Nat) (hm:most<1000) (A:Nat→α×Rd→World→Prop)
 (hA:∀k s w,A k s w→RdAt 210 w0 p s.2 w∧w.cell? ⟨rp,0,none⟩=some (.pointer (some ⟨p,0,none⟩)))
 (hN:∀k s r' w w',A k s w→RdAt 210 w0 p r' w'→Chg (·=p) w w'→A k (s.1,r') w')
 (hS:∀k s w,k≤most→A k s w→Calls Tryz.prog K caps w fun e w'=>e=.returned (.tuple #[])∧A (k+1) (stp s.1 s.2) w')
 (s:α×Rd) (w:World) (h:A 0 s w) :
 Calls Tryz.prog 105 #[.int .i64 (most:Int),.func (.func K) #[] caps,.pointer (some ⟨rp,0,none⟩)] w fun e w'=>e=.returned (.tuple #[])∧∃k,k≤most∧A k (manyR stp most s) w':=by
 have H:=hid h
 have HA:=hid hA
 have HN:=hid hN
 have HS:=hid hS
 have c0:=(hA _ _ _ h).2
 clear h hA hN hS
 go_enter Tryz.func105,Tryz.ntmps105
 go_wp2_with fail
 refine (zdD w0 w p s.2 (HA.out _ _ _ H.out).1).mono ?_
 rintro e w1 ⟨rfl,hr,hc⟩
 have H1:=hid (HN.out _ _ _ _ _ H.out hr hc)
 have HF:Hid (manyR stp most s=loopR stp (rdNum s.2).1.toNat (s.1,⟨(rdNum s.2).2.l,(rdNum s.2).2.bad || decide ((most:Int)<(rdNum s.2).1)⟩)):=hid rfl
 have HLO:=hid (rdNum_lo s.2)
 obtain ⟨⟨N,r1⟩,hN⟩:∃x,x=rdNum s.2:=⟨_,rfl⟩
 rw [←hN] at HF H1 HLO hr ⊢
 simp only at HF H1 HLO hr
 clear hN hc c0 H
 obtain ⟨N,rfl⟩:∃n:Nat,N=(n:Int):=⟨N.toNat,by have:=HLO.out;omega⟩
 have HN60:Hid (N≤1152921504606846976):=hid (by have:=HLO.out;omega)
 rw [Int.toNat_natCast] at HF
 obtain ⟨B,hB⟩:∃B,B=(r1.bad || decide ((most:Int)<(N:Int))):=⟨_,rfl⟩
 have HBM:Hid (B=false→N≤most):=hid (fun h=>by rw [hB] at h;simp at h;omega)
 have HMID:Hid (∀w2,w2=(w1.setCell ⟨p,1,none⟩ (.bool B)).drew→A 0 (s.1,⟨r1.l,B⟩) w2):=hid (by
  rintro w2 rfl
  have hx:=Ext.drewN (w1.setCell ⟨p,1,none⟩ (.bool B)) 1
  exact HN.out 0 (s.1,r1) ⟨r1.l,B⟩ w1 _ H1.out ((RdAt.over hr B).ext' hx) ((zaj w1 p 1 (.bool B)).trans (Chg.of_ext (S:=(·=p)) hx) (fun _ _ e=>e)))
 obtain ⟨l1,b1⟩:=r1
 rw [←hB] at HF
 obtain ⟨a,n,c,hb,-⟩:=hr.blk
 have q0:=zaf (T:=fun _=>false) (HA.out _ _ _ H1.out).2 rfl
 have q1:=zaf (T:=fun _=>false) (zaa hb 1) rfl
 have z1:=zan hb 1
 have d1:=zaa hb 1
 clear hb hr HLO
 have HSTAY:Hid (B=true→∀k,loopR stp k (s.1,⟨l1,B⟩)=(s.1,⟨l1,B⟩)):=hid (fun h k=>loopR_stay (k:=0) (m:=k) (s:=(s.1,⟨l1,B⟩)) h (Nat.zero_le _))
 clear H1
 cases b1
 ·have HBV:Hid (B=decide (most<N)):=hid (by rw [hB];simp)
  clear hB
  go_wp2_with fail
  refine zao 12 (fun w'=>∃p:Turned,w'=turned w1 (fun _=>false) p.d p.f p.os) (.reads [0,1,2,3,4,5,6,7,8,9,10,11] (.one 12 .done)) (by kernel_rfl) (by kernel_rfl) (fun _ _ dd _ _ hh=>by cases dd<;>exact hh) ?_ ?_
  ·exact zad (Ext.drewN w1 1)
  refine zak ?_
  simp only [zac,yab,yaa]
  repeat (go_big_quiet_step (fail))
  refine yaF ?_
  refine zae ?_
  simp only [zac,yab,yaa]
  clear q0 q1
  go_wp2_with fail
  refine zau (zav ?_)
  go_wp2_with fail
  generalize hw2:World.drew _=w2
  have HI:=hid (HMID.out w2 (by rw [←hw2,HBV.out]))
  clear hw2 d1 z1 HMID HBV
  go_loopw [6] (fun i wr=>∃k:Nat,k≤N∧k≤most∧i=.int .i64 k∧Hid (A k (loopR stp k (s.1,⟨l1,B⟩)) wr)) (fun i _=>N-(RowKit.intOf i).toNat)
  case atStart=>exact ⟨0,by omega,by omega,rfl,HI⟩
  case round =>
   obtain ⟨k,hk,hkm,rfl,HI2⟩:=hrel
   obtain ⟨hrd,r0⟩:=HA.out _ _ _ HI2.out
   obtain ⟨⟨x,⟨lk,bk⟩⟩,hst⟩:∃t,t=loopR stp k (s.1,⟨l1,B⟩):=⟨_,rfl⟩
   rw [←hst] at hrd HI2
   obtain ⟨a2,n2,c2,hb2,-⟩:=hrd.blk
   have r1:=zaa hb2 1
   have HST:=hid hst
   clear hst hb2 hrd
   by_cases hlt:k<N
   ·cases bk
    ·have hNm:N≤most:=HBM.out (by
      cases hB:B with
      | false=>rfl
      | true =>
       have h1:=HSTAY.out hB k
       rw [←HST.out] at h1
       rw [hB] at h1
       simp at h1)
     have hlti:(k:Int)<(N:Int):=by omega
     have HCC:=hid (HS.out k _ _ hkm HI2.out)
     go_wp2_with fail
     refine HCC.out.mono ?_
     rintro e w5 ⟨rfl,hI⟩
     have HI3:Hid (A (k+1) (loopR stp (k+1) (s.1,⟨l1,B⟩)) w5):=hid (by
      show A (k+1) (if (loopR stp k (s.1,⟨l1,B⟩)).2.bad=true then _ else _) w5
      rw [←HST.out]
      exact hI)
     clear hI HCC
     go_wp2_with fail
     go_roundw
     case rel=>exact ⟨k+1,by omega,by omega,by go_num,HI3⟩
     case measure=>simp [RowKit.intOf];omega
    ·have hlti:(k:Int)<(N:Int):=by omega
     have HI3:Hid (A k (manyR stp most s) wr):=hid (by
      rw [HF.out,loopR_stay (k:=k) (m:=N) (by rw [←HST.out]) hk,←HST.out]
      exact HI2.out)
     go_wp2_with fail
     go_end0
     exact ⟨rfl,k,hkm,HI3.out⟩
   ·obtain rfl:k=N:=by omega
    have hlti:¬(k:Int)<(k:Int):=by omega
    have HI3:Hid (A k (manyR stp most s) wr):=hid (by
     rw [HF.out,←HST.out]
     exact HI2.out)
    go_wp2_with fail
    go_end0
    exact ⟨rfl,k,hkm,HI3.out⟩
 ·have HBV:Hid (B=true):=hid (by rw [hB];rfl)
  clear hB
  go_wp2_with fail
  refine zao 12 (fun w'=>∃p:Turned,w'=turned w1 (fun _=>false) p.d p.f p.os) (.reads [0,1,2,3,4,5,6,7,8,9,10,11] (.one 12 .done)) (by kernel_rfl) (by kernel_rfl) (fun _ _ dd _ _ hh=>by cases dd<;>exact hh) ?_ ?_
  ·exact zad (Ext.drewN w1 1)
  refine zak ?_
  simp only [zac,yab,yaa]
  repeat (go_big_quiet_step (fail))
  refine yaF ?_
  refine zae ?_
  simp only [zac,yab,yaa]
  clear q0 q1
  go_wp2_with fail
  refine zau (zav ?_)
  go_wp2_with fail
  generalize hw2:World.drew _=w2
  have HI:=hid (HMID.out w2 (by rw [←hw2,HBV.out]))
  clear hw2 d1 z1 HMID HBV
  go_loopw [6] (fun i wr=>∃k:Nat,k≤N∧k≤most∧i=.int .i64 k∧Hid (A k (loopR stp k (s.1,⟨l1,B⟩)) wr)) (fun i _=>N-(RowKit.intOf i).toNat)
  case atStart=>exact ⟨0,by omega,by omega,rfl,HI⟩
  case round =>
   obtain ⟨k,hk,hkm,rfl,HI2⟩:=hrel
   obtain ⟨hrd,r0⟩:=HA.out _ _ _ HI2.out
   obtain ⟨⟨x,⟨lk,bk⟩⟩,hst⟩:∃t,t=loopR stp k (s.1,⟨l1,B⟩):=⟨_,rfl⟩
   rw [←hst] at hrd HI2
   obtain ⟨a2,n2,c2,hb2,-⟩:=hrd.blk
   have r1:=zaa hb2 1
   have HST:=hid hst
   clear hst hb2 hrd
   by_cases hlt:k<N
   ·cases bk
    ·have hNm:N≤most:=HBM.out (by
      cases hB:B with
      | false=>rfl
      | true =>
       have h1:=HSTAY.out hB k
       rw [←HST.out] at h1
       rw [hB] at h1
       simp at h1)
     have hlti:(k:Int)<(N:Int):=by omega
     have HCC:=hid (HS.out k _ _ hkm HI2.out)
     go_wp2_with fail
     refine HCC.out.mono ?_
     rintro e w5 ⟨rfl,hI⟩
     have HI3:Hid (A (k+1) (loopR stp (k+1) (s.1,⟨l1,B⟩)) w5):=hid (by
      show A (k+1) (if (loopR stp k (s.1,⟨l1,B⟩)).2.bad=true then _ else _) w5
      rw [←HST.out]
      exact hI)
     clear hI HCC
     go_wp2_with fail
     go_roundw
     case rel=>exact ⟨k+1,by omega,by omega,by go_num,HI3⟩
     case measure=>simp [RowKit.intOf];omega
    ·have hlti:(k:Int)<(N:Int):=by omega
     have HI3:Hid (A k (manyR stp most s) wr):=hid (by
      rw [HF.out,loopR_stay (k:=k) (m:=N) (by rw [←HST.out]) hk,←HST.out]
      exact HI2.out)
     go_wp2_with fail
     go_end0
     exact ⟨rfl,k,hkm,HI3.out⟩
   ·obtain rfl:k=N:=by omega
    have hlti:¬(k:Int)<(k:Int):=by omega
    have HI3:Hid (A k (manyR stp most s) wr):=hid (by
     rw [HF.out,←HST.out]
     exact HI2.out)
    go_wp2_with fail
    go_end0
    exact ⟨rfl,k,hkm,HI3.out⟩
end
section
open Go.RowKit Go.Sort Go.Lib
theorem elem_mfile:ElemOk Tryz.prog 63 110 4 40 :=
 ⟨Tryz.underlying63,by
   obtain ⟨i0,hi,hz0,hz1,hz2⟩:=info_parts (show (Tryz.prog.info? 110).map (fun i=>(i.zero,i.size,i.bytes))=some (some (.agg #[.string ByteArray.empty,.int .i64 0,.int .i64 0,.int .i64 0]),4,40) from by kernel_rfl)
   exact ⟨i0,_,hi,hz0,hz1,hz2,rfl⟩,by decide⟩
theorem elem_tier:ElemOk Tryz.prog 64 90 5 48 :=
 ⟨Tryz.underlying64,by
   obtain ⟨i0,hi,hz0,hz1,hz2⟩:=info_parts (show (Tryz.prog.info? 90).map (fun i=>(i.zero,i.size,i.bytes))=some (some (.agg #[.int .i64 0,.int .i64 0,.int .i64 0,.bool false,.string ByteArray.empty]),5,48) from by kernel_rfl)
   exact ⟨i0,_,hi,hz0,hz1,hz2,rfl⟩,by decide⟩
structure StG (ws w0:World) (q p:Nat) (tr ts te:TypeId) (i size:Nat) (base:Array Value) (n:Nat) (xs:List Value) (r:Rd) (w:World):Prop where
 blk:∃a c,w.heap[q]?=some (.cells (base.setIfInBounds i (.slice a n c)) ts (0,0))∧Row w te size (.slice a n c) n xs∧∀g,(Value.slice a n c).ownBlock=some g→ws.heap.size≤g
 rd:RdAt tr w0 p r w
 chg:Chg (fun k=>k=p∨k=q) ws w
 ql:q<ws.heap.size
 pl:p<ws.heap.size
 qp:q≠p
 qw:w0.heap.size≤q
section
variable {ws w0 w w1 w2 w3:World} {q p:Nat} {tr ts te:TypeId} {i size n:Nat} {base:Array Value} {xs:List Value} {r r':Rd}
theorem StG.read (h:StG ws w0 q p tr ts te i size base n xs r w) (hr:RdAt tr w0 p r' w1) (hc:Chg (·=p) w w1):StG ws w0 q p tr ts te i size base n xs r' w1:=by
 obtain ⟨a,c,hb,hrow,ho⟩:=h.blk
 exact ⟨⟨a,c,(hc.block q (zab hb) h.qp).trans hb,hrow.chg hc (fun g hg e=>by have:=ho g hg;have:=h.pl;omega),ho⟩,hr,h.chg.trans hc (fun _ _ e=>.inl e),h.ql,h.pl,h.qp,h.qw⟩
theorem StG.ext' (h:StG ws w0 q p tr ts te i size base n xs r w) (hx:Ext w w1):StG ws w0 q p tr ts te i size base n xs r w1:=by
 obtain ⟨a,c,hb,hrow,ho⟩:=h.blk
 exact ⟨⟨a,c,hx.keep hb,hrow.ext hx,ho⟩,h.rd.ext' hx,h.chg.trans (Chg.of_ext (S:=fun _=>False) hx) (fun _ _ e=>e.elim),h.ql,h.pl,h.qp,h.qw⟩
theorem StG.add {a:Option Addr}{c m:Nat}{ys:List Value}{v':Value}(h:StG ws w0 q p tr ts te i size base n xs r w)
 (hb:w.heap[q]?=some (.cells (base.setIfInBounds i (.slice a n c)) ts (0,0))) (ho:∀g,(Value.slice a n c).ownBlock=some g→ws.heap.size≤g)
 (happ:Appended w te size (.slice a n c) m ys v' w1):w1.heap[q]?=some (.cells (base.setIfInBounds i (.slice a n c)) ts (0,0))∧StG ws w0 q p tr ts te i size base m ys r (w1.setCell ⟨q,i,none⟩ v'):=by
 have hq1:w1.heap[q]?=some (.cells (base.setIfInBounds i (.slice a n c)) ts (0,0)):=(happ.chg.block q (zab hb) (fun e=>by have:=ho q e;have:=h.ql;omega)).trans hb
 obtain ⟨a',c',rfl⟩:=happ.row.shape
 have hs:=zaj w1 q i (.slice a' m c')
 have ho':∀g,(Value.slice a' m c').ownBlock=some g→ws.heap.size≤g:=fun g hg=>by
  rcases happ.loc with e|e
  ·exact ho g (by rw [←e];exact hg)
  ·rw [e] at hg;simp at hg;have:=h.chg.size;omega
 have hc:Chg (fun k=>k=p∨k=q) ws (w1.setCell ⟨q,i,none⟩ (.slice a' m c')):=(h.chg.trans happ.chg (fun k hk e=>by have:=ho k e;omega)).trans hs (fun _ _ e=>.inr e)
 refine ⟨hq1,⟨a',c',?_,happ.row.chg hs (fun g hg e=>by have:=ho' g hg;have:=h.ql;omega),ho'⟩,?_,hc,h.ql,h.pl,h.qp,h.qw⟩
 ·have:=zaq hq1 (i:=i) (.slice a' m c')
  rw [this]
  simp [Array.setIfInBounds_setIfInBounds]
 ·have h1:=h.rd.chg happ.chg (fun e=>by have:=ho p e;have:=h.pl;omega) (fun g hg=>by have:=ho g hg;have:=h.ql;have:=h.qw;omega)
  exact h1.chg hs (fun e=>h.qp e.symm) (fun g hg=>by have:=h.qw;omega)
end
theorem src_fl {W:World}{b:Nat}{p:Fl}{t:TypeId}{fr:Nat×Nat}(h:W.heap[b]?=some (.cells #[.string p.nm,.int .i64 p.a,.int .i64 p.b,.int .i64 p.k] t fr)):Src W 4 (.slice (some ⟨b,0,none⟩) 1 1) 1 (fls [p]):=by
 refine .inr ⟨_,_,rfl,by simp [fls,Fl.cells],fun j u hj=>?_,fls_one _⟩
 rw [yak,Nat.zero_add,zaa h]
 simpa [fls,Fl.cells] using hj
theorem src_tr {W:World}{b:Nat}{p:Tr}{t:TypeId}{fr:Nat×Nat}(h:W.heap[b]?=some (.cells #[.int .i64 p.w,.int .i64 p.o,.int .i64 p.u,.bool p.m,.string p.f] t fr)):Src W 5 (.slice (some ⟨b,0,none⟩) 1 1) 1 (trs [p]):=by
 refine .inr ⟨_,_,rfl,by simp [trs,Tr.cells],fun j u hj=>?_,trs_one _⟩
 rw [yak,Nat.zero_add,zaa h]
 simpa [trs,Tr.cells] using hj
theorem readF_any (ws w0 w:World) (q p rp n:Nat) (b0 b1 b2 b3 b4 b5 b6 b7:Value) (l:List Fl) (r:Rd) (hn:n≤600)
 (h:StG ws w0 q p 210 66 110 6 4 #[b0,b1,b2,b3,b4,b5,b6,b7] n (fls l) r w)
 (hr:w.cell? ⟨rp,0,none⟩=some (.pointer (some ⟨p,0,none⟩))) :
 Calls Tryz.prog 106 #[.pointer (some ⟨q,0,none⟩),.pointer (some ⟨rp,0,none⟩)] w fun e w'=>e=.returned (.tuple #[]) ∧
  StG ws w0 q p 210 66 110 6 4 #[b0,b1,b2,b3,b4,b5,b6,b7] (n+1) (fls (l++[(rdFl r).1])) (rdFl r).2 w':=by
 obtain ⟨a,c,hb,-,ho⟩:=h.blk
 have H:=hid h
 have HO:=hid ho
 have HBQ:=hid hb
 have hT:(fun k=>k==p) q=false:=by have:=h.qp;simpa using this
 have hRP:(fun k=>k==p) rp=false:=by
  obtain ⟨_,_,_,hbp,_⟩:=h.rd.blk
  have h0:=zaa hbp 0
  simp only [yam,ne_eq]
  rintro rfl
  rw [hr] at h0
  simp at h0
 have f0:=zaf (T:=fun k=>k==p) (a:=⟨q,6,none⟩) (v:=.slice a n c) (by rw [zaa hb 6];rfl) hT
 have f1:=zaf (T:=fun k=>k==p) (a:=⟨rp,0,none⟩) hr hRP
 clear h hb hr ho hT hRP
 go_enter Tryz.func106,Tryz.ntmps106
 go_wp2_with fail
 refine zao 5 (fun w'=>∃z:Turned,w'=turned w (fun k=>k==p) z.d z.f z.os) (.reads [0,1,2] (.one 3 (.one 4 (.one 5 (.one 6 (.one 7 .done)))))) (by kernel_rfl) (by kernel_rfl) (fun _ _ dd _ _ hh=>by cases dd<;>exact hh) ?_ ?_
 ·exact zad (Ext.drewN w 1)
 refine zak ?_
 simp only [zac,yab,yaa]
 repeat (go_big_quiet_step (fail))
 refine yaF ?_
 clear f0 f1
 refine zae ?_
 simp only [zac,yab,yaa]
 go_wp2_with fail
 refine (rdFl_any w0 _ p r (H.out.rd.ext' (Ext.drewN w 1))).mono ?_
 rintro e w1 ⟨rfl,hr,hc⟩
 have hc':=(Chg.of_ext (S:=(·=p)) (Ext.drewN w 1)).trans hc (fun _ _ e=>e)
 have H1:=hid (H.out.read hr hc')
 have HC:=hid hc'
 have HBQ1:=hid ((hc'.block q (zab HBQ.out) H.out.qp).trans HBQ.out)
 have HTU:Hid (∀w',Ext w1 w'→∃z:Turned,w'=turned w (fun k=>k==p) z.d z.f z.os):=hid (fun w' hx=>zas ((HC.out.trans (Chg.of_ext (S:=(·=p)) hx) (fun _ _ e=>e)).mono (fun _ _ e=>by simpa using e)))
 clear hr hc hc' H HBQ
 generalize hy:(rdFl r).1=y at *
 generalize hr1:(rdFl r).2=r1 at *
 have HY:=hid hy
 have HR1:=hid hr1
 clear hy hr1
 go_wp2_with fail
 refine zal (HTU.out w1 (Ext.refl _)) (zae ?_)
 simp only [zac,yab,yaa]
 go_wp2_with fail
 generalize hw2:w1.alloc _=w2
 have hx2:Ext w1 w2:=by rw [←hw2];exact (Ext.refl w1).alloc _
 have hsrc:Src w2 4 (.slice (some ⟨w1.heap.size,0,none⟩) 1 1) 1 (fls [y]):=src_fl (p:=y) (by rw [←hw2];exact heap_alloc_new w1 _)
 have HSRC:=hid hsrc
 have HBQ2:=hid (hx2.keep HBQ1.out)
 have H2:=hid (H1.out.ext' hx2)
 have hrow:Row w2 110 4 (.slice a n c) n (fls l):=by
  obtain ⟨a2,c2,hb2,hrow,-⟩:=H2.out.blk
  have:=hb2.symm.trans HBQ2.out
  simp at this
  obtain ⟨rfl,rfl⟩:=this
  exact hrow
 have HROW:=hid hrow
 have HTU2:=hid (HTU.out w2 hx2)
 clear hw2 hx2 hsrc hrow HTU H1 HBQ1
 refine zal HTU2.out (zae ?_)
 simp only [zac,yab,yaa]
 refine zah (n:=n) (m:=1) elem_mfile rfl _ _ rfl (v:=.slice a n c) rfl rfl HROW.out HSRC.out (by unfold maxLen;omega) (by omega) ?_
 intro v3 w3 happ
 rw [←fls_append] at happ
 obtain ⟨hq3,hfin⟩:=H2.out.add HBQ2.out HO.out happ
 have HFIN:=hid hfin
 have d0:w3.cell? ⟨q,6,none⟩=some (.slice a n c):=by rw [zaa hq3 6];rfl
 have z0:=zan hq3 6
 obtain ⟨a3,c3,rfl⟩:=happ.row.shape
 clear happ hq3 hfin
 go_wp2_with fail
 refine zau (zae ?_)
 simp only [zac,yab,yaa]
 go_wp2_with fail
 refine zau (zae ?_)
 simp only [zac,yab,yaa]
 go_wp2_with fail
 refine zau (zav ?_)
 go_wp2_with fail
 go_end0
 rw [HY.out,HR1.out]
 exact ⟨rfl,HFIN.out⟩
theorem readT_any (ws w0 w:World) (q p rp n:Nat) (b0 b1 b2 b3 b4 b5 b6 b7:Value) (l:List Tr) (r:Rd) (hn:n≤600)
 (h:StG ws w0 q p 210 66 90 7 5 #[b0,b1,b2,b3,b4,b5,b6,b7] n (trs l) r w)
 (hr:w.cell? ⟨rp,0,none⟩=some (.pointer (some ⟨p,0,none⟩))) :
 Calls Tryz.prog 108 #[.pointer (some ⟨q,0,none⟩),.pointer (some ⟨rp,0,none⟩)] w fun e w'=>e=.returned (.tuple #[]) ∧
  StG ws w0 q p 210 66 90 7 5 #[b0,b1,b2,b3,b4,b5,b6,b7] (n+1) (trs (l++[(rdTr r).1])) (rdTr r).2 w':=by
 obtain ⟨a,c,hb,-,ho⟩:=h.blk
 have H:=hid h
 have HO:=hid ho
 have HBQ:=hid hb
 have hT:(fun k=>k==p) q=false:=by have:=h.qp;simpa using this
 have hRP:(fun k=>k==p) rp=false:=by
  obtain ⟨_,_,_,hbp,_⟩:=h.rd.blk
  have h0:=zaa hbp 0
  simp only [yam,ne_eq]
  rintro rfl
  rw [hr] at h0
  simp at h0
 have f0:=zaf (T:=fun k=>k==p) (a:=⟨q,7,none⟩) (v:=.slice a n c) (by rw [zaa hb 7];rfl) hT
 have f1:=zaf (T:=fun k=>k==p) (a:=⟨rp,0,none⟩) hr hRP
 clear h hb hr ho hT hRP
 go_enter Tryz.func108,Tryz.ntmps108
 go_wp2_with fail
 refine zao 5 (fun w'=>∃z:Turned,w'=turned w (fun k=>k==p) z.d z.f z.os) (.reads [0,1,2] (.one 3 (.one 4 (.one 5 (.one 6 (.one 7 .done)))))) (by kernel_rfl) (by kernel_rfl) (fun _ _ dd _ _ hh=>by cases dd<;>exact hh) ?_ ?_
 ·exact zad (Ext.drewN w 1)
 refine zak ?_
 simp only [zac,yab,yaa]
 repeat (go_big_quiet_step (fail))
 refine yaF ?_
 clear f0 f1
 refine zae ?_
 simp only [zac,yab,yaa]
 go_wp2_with fail
 refine (rdTr_any w0 _ p r (H.out.rd.ext' (Ext.drewN w 1))).mono ?_
 rintro e w1 ⟨rfl,hr,hc⟩
 have hc':=(Chg.of_ext (S:=(·=p)) (Ext.drewN w 1)).trans hc (fun _ _ e=>e)
 have H1:=hid (H.out.read hr hc')
 have HC:=hid hc'
 have HBQ1:=hid ((hc'.block q (zab HBQ.out) H.out.qp).trans HBQ.out)
 have HTU:Hid (∀w',Ext w1 w'→∃z:Turned,w'=turned w (fun k=>k==p) z.d z.f z.os):=hid (fun w' hx=>zas ((HC.out.trans (Chg.of_ext (S:=(·=p)) hx) (fun _ _ e=>e)).mono (fun _ _ e=>by simpa using e)))
 clear hr hc hc' H HBQ
 generalize hy:(rdTr r).1=y at *
 generalize hr1:(rdTr r).2=r1 at *
 have HY:=hid hy
 have HR1:=hid hr1
 clear hy hr1
 go_wp2_with fail
 refine zal (HTU.out w1 (Ext.refl _)) (zae ?_)
 simp only [zac,yab,yaa]
 go_wp2_with fail
 generalize hw2:w1.alloc _=w2
 have hx2:Ext w1 w2:=by rw [←hw2];exact (Ext.refl w1).alloc _
 have hsrc:Src w2 5 (.slice (some ⟨w1.heap.size,0,none⟩) 1 1) 1 (trs [y]):=src_tr (p:=y) (by rw [←hw2];exact heap_alloc_new w1 _)
 have HSRC:=hid hsrc
 have HBQ2:=hid (hx2.keep HBQ1.out)
 have H2:=hid (H1.out.ext' hx2)
 have hrow:Row w2 90 5 (.slice a n c) n (trs l):=by
  obtain ⟨a2,c2,hb2,hrow,-⟩:=H2.out.blk
  have:=hb2.symm.trans HBQ2.out
  simp at this
  obtain ⟨rfl,rfl⟩:=this
  exact hrow
 have HROW:=hid hrow
 have HTU2:=hid (HTU.out w2 hx2)
 clear hw2 hx2 hsrc hrow HTU H1 HBQ1
 refine zal HTU2.out (zae ?_)
 simp only [zac,yab,yaa]
 refine zah (n:=n) (m:=1) elem_tier rfl _ _ rfl (v:=.slice a n c) rfl rfl HROW.out HSRC.out (by unfold maxLen;omega) (by omega) ?_
 intro v3 w3 happ
 rw [←trs_append] at happ
 obtain ⟨hq3,hfin⟩:=H2.out.add HBQ2.out HO.out happ
 have HFIN:=hid hfin
 have d0:w3.cell? ⟨q,7,none⟩=some (.slice a n c):=by rw [zaa hq3 7];rfl
 have z0:=zan hq3 7
 obtain ⟨a3,c3,rfl⟩:=happ.row.shape
 clear happ hq3 hfin
 go_wp2_with fail
 refine zau (zae ?_)
 simp only [zac,yab,yaa]
 go_wp2_with fail
 refine zau (zae ?_)
 simp only [zac,yab,yaa]
 go_wp2_with fail
 refine zau (zav ?_)
 go_wp2_with fail
 go_end0
 rw [HY.out,HR1.out]
 exact ⟨rfl,HFIN.out⟩
end
section
open Go.RowKit Go.Sort Go.Lib
def flStp (L:List Fl) (r:Rd):List Fl×Rd:=(L++[(rdFl r).1],(rdFl r).2)
def trStp (L:List Tr) (r:Rd):List Tr×Rd:=(L++[(rdTr r).1],(rdTr r).2)
def staTail (x y z:Int) (m:Mk) (r:Rd):Sta×Rd :=
 (⟨x,y,z,m,(manyR flStp 512 ([],r)).1,(manyR trStp 4 ([],(manyR flStp 512 ([],r)).2)).1⟩,(manyR trStp 4 ([],(manyR flStp 512 ([],r)).2)).2)
def staFrom (r:Rd):Sta×Rd :=
 staTail (rdNum r).1 (rdNum (rdNum r).2).1 (rdNum (rdNum (rdNum r).2).2).1 (zdE (rdNum (rdNum (rdNum r).2).2).2).1 (zdE (rdNum (rdNum (rdNum r).2).2).2).2
def staOk (t:Sta×Rd):Option Sta:=if t.2.bad=true∨t.2.l≠[]∨staR t.1=false then none else some t.1
def staRd (l:List UInt8):Option Sta:=if (openR l).2.2≠0∨(openR l).1≠7 then none else staOk (staFrom ⟨(openR l).2.1,false⟩)
def staZ:Sta:=⟨0,0,0,⟨false,0,0⟩,[],[]⟩
theorem markR_ok (l:List UInt8):(markR l).1.ok:=by
 have hz:∀l,-9223372036854775808≤zag (varR l).1∧zag (varR l).1≤9223372036854775807:=fun l=>by
  have:=(zaT l).1
  unfold zag
  split<;>omega
 have hi:∀u,-9223372036854775808≤i64n u∧i64n u≤9223372036854775807:=fun u=>by
  unfold i64n wrap64
  omega
 have h0:Mk.zero.ok:=⟨by decide,by decide,by decide,by decide⟩
 have hE:∀x,(markE x).1.ok:=fun x=>h0
 have hF:∀m k,m.ok→(zcf m k).1.ok:=fun m k hm=>by
  unfold zcf
  split
  ·exact hm
  ·exact hE _
 unfold markR
 split
 ·exact hE _
 unfold markC
 split
 ·exact hE _
 split
 ·exact hF _ _ ⟨by simp,by simp,(hi _).1,(hi _).2⟩
 split
 ·unfold markD
  split
  ·exact hE _
  ·exact hF _ _ ⟨(hz _).1,(hz _).2,(hi _).1,(hi _).2⟩
 ·exact hE _
theorem zbx:(Tryz.prog.info? 66).map (·.size)=some 8:=by kernel_rfl
structure RH (w5 w0:World) (p:Nat) (tr ts:TypeId) (r:Rd) (qo:Option Nat) (w:World):Prop where
 rd:RdAt tr w0 p r w
 chg:Chg (·=p) w5 w
 box:∀q,qo=some q→w5.heap.size≤q∧w.heap[q]?=some (.cells #[.int .i64 0,.int .i64 0,.int .i64 0,.bool false,.int .i64 0,.int .i64 0,.slice none 0 0,.slice none 0 0] ts (0,0))
 lt:p<w5.heap.size
section
variable {w5 w0 w w1:World} {p:Nat} {tr ts:TypeId} {r r':Rd} {qo:Option Nat}
theorem RH.read (h:RH w5 w0 p tr ts r qo w) (hr:RdAt tr w0 p r' w1) (hc:Chg (·=p) w w1):RH w5 w0 p tr ts r' qo w1 :=
 ⟨hr,h.chg.trans hc (fun _ _ e=>e),fun q e=>⟨(h.box q e).1,(hc.block q (zab (h.box q e).2) (fun e2=>by have:=(h.box q e).1;have:=h.lt;omega)).trans (h.box q e).2⟩,h.lt⟩
theorem RH.alloc (h:RH w5 w0 p tr ts r none w):RH w5 w0 p tr ts r (some w.heap.size) (w.alloc (.cells #[.int .i64 0,.int .i64 0,.int .i64 0,.bool false,.int .i64 0,.int .i64 0,.slice none 0 0,.slice none 0 0] ts (0,0))) :=
 ⟨h.rd.ext' ((Ext.refl w).alloc _),h.chg.alloc _,fun q e=>by
   simp at e
   subst e
   exact ⟨h.chg.size,heap_alloc_new w _⟩,h.lt⟩
end
theorem RH.turned {w5 w0 w:World}{p:Nat}{tr ts:TypeId}{r:Rd}{qo:Option Nat}(h:RH w5 w0 p tr ts r qo w):∃z:Turned,w=turned w5 (fun k=>k==p) z.d z.f z.os :=
 zas (h.chg.mono (fun _ _ e=>by simpa using e))
end
section
open Go.RowKit Go.Sort Go.Lib
theorem zbV {z:Int}(h0:0≤z) (h1:z≤1152921504606846976) (rest:List UInt8):rdNum ⟨varP (u64n z)++rest,false⟩=(z,⟨rest,false⟩):=by
 have e:=u64n_pos h0 (by omega)
 have hv:=zbu (zbF z) rest
 have hd:decide (1152921504606846976<u64n z)=false:=by simp only [decide_eq_false_iff_not];omega
 unfold rdNum
 simp only [hv,hd,List.drop_left]
 simp only [bne_self_eq_false,Bool.or_self,Bool.false_eq_true,if_false]
 rw [e,Int.toNat_of_nonneg h0]
theorem rdInt_put {z:Int}(h0:-9223372036854775808≤z) (h1:z≤9223372036854775807) (rest:List UInt8):rdInt ⟨varP (zig z)++rest,false⟩=(z,⟨rest,false⟩):=by
 have hv:=zbu (zeb h0 h1) rest
 unfold rdInt
 simp only [hv,List.drop_left,zag_zig]
 simp
theorem txtR_back {s:ByteArray}(hs:s.size≤64) (rest:List UInt8):txtR (txtP s++rest) 64=(s.data.toList,(txtP s).length,0):=by
 have hv:varR (txtP s++rest)=(s.size,(varP s.size).length,0):=by
  unfold txtP
  rw [yaj]
  exact zbu (by omega) _
 have hn:s.data.toList.length=s.size:=by simp
 unfold txtR
 rw [hv]
 simp only
 rw [if_neg (by simp),if_neg (by omega),if_neg (by simp [txtP])]
 unfold txtP
 rw [yaj,List.drop_left,←hn,List.take_left]
 simp
theorem rdText_put {s:ByteArray}(hs:s.size≤64) (rest:List UInt8):zds ⟨txtP s++rest,false⟩=(s,⟨rest,false⟩):=by
 unfold zds
 simp only [txtR_back hs rest,List.drop_left]
 simp
theorem rdMark_put {m:Mk}(hm:m.ok) (hr:mkR m=true) (rest:List UInt8):zdE ⟨markP m++rest,false⟩=(m,⟨rest,false⟩):=by
 have key:markR (markP m++rest)=(m,(markP m).length,0):=by
  obtain ⟨s,t,g⟩:=m
  have hg:=i64n_u64n hm.g0 hm.g1
  have hz:=zeb hm.t0 hm.t1
  simp only at hg hz
  cases s
  ·have e1:markR (markP ⟨false,t,g⟩++rest)=zcf ⟨false,0,g⟩ ((varP (u64n g)).length+(varP 0).length):=by
    unfold markR markP
    simp only [Bool.false_eq_true,if_false,yaj]
    rw [zbu (zbF g)]
    simp only [ne_eq,not_true,if_false,hg]
    unfold markC
    simp only [List.drop_left']
    rw [zbu (by decide)]
    simp
   have ht:t=0:=by simp [mkR] at hr;exact hr.2
   subst ht
   rw [e1]
   unfold zcf
   rw [if_pos hr]
   simp [markP]
  ·have e1:markR (markP ⟨true,t,g⟩++rest)=zcf ⟨true,t,g⟩ ((varP (u64n g)).length+(varP 1).length+(varP (zig t)).length):=by
    unfold markR markP
    simp only [if_true,yaj]
    rw [zbu (zbF g)]
    simp only [ne_eq,not_true,if_false,hg]
    unfold markC
    simp only [List.drop_left']
    rw [zbu (by decide)]
    simp only [ne_eq,not_true,if_false,if_true,Nat.one_ne_zero]
    unfold markD
    rw [←yaj,List.drop_left' (by rw [yae]),zbu hz]
    simp only [ne_eq,not_true,if_false,zag_zig]
   rw [e1]
   unfold zcf
   rw [if_pos hr]
   simp [markP]
   omega
 unfold zdE
 simp only [key,List.drop_left]
 simp
theorem rdFl_put {p:Fl}(h:flR p=true) (rest:List UInt8):rdFl ⟨filP p++rest,false⟩=(p,⟨rest,false⟩):=by
 obtain ⟨h1,⟨h2,h3⟩,⟨h4,h5⟩,h6,h7⟩:=flR_parts h
 obtain ⟨nm,a,b,k⟩:=p
 simp only at h1 h2 h3 h4 h5 h6 h7
 unfold filP rdFl
 simp only [yaj]
 rw [rdText_put h1,rdInt_put (by omega) (by omega),rdInt_put (by omega) (by omega),zbV (by omega) (by omega)]
theorem trR_zero {p:Tr}(h:trR p=true) (hm:p.m=false):p.u=0∧p.f=⟨#[]⟩:=by
 obtain ⟨d,q,u,m,f⟩:=p
 simp only at hm
 subst hm
 simp [trR] at h
 have hf:f=⟨#[]⟩:=by
  apply ByteArray.ext
  have:f.data.size=0:=by simp_all
  exact Array.eq_empty_of_size_eq_zero this
 exact ⟨h.2.1,hf⟩
theorem rdTr_put {p:Tr}(h:trR p=true) (rest:List UInt8):rdTr ⟨tirP p++rest,false⟩=(p,⟨rest,false⟩):=by
 obtain ⟨h1,h2,h3,h4,h5⟩:=trR_parts h
 have hz:=trR_zero h
 obtain ⟨d,q,u,m,f⟩:=p
 simp only at h1 h2 h3 h4 h5 hz
 unfold tirP rdTr
 simp only [yaj]
 rw [zbV (by omega) (by omega),zbV (by omega) (by omega)]
 cases m
 ·obtain ⟨rfl,rfl⟩:=hz rfl
  simp only [Bool.false_eq_true,if_false]
  rw [zbV (by omega) (by omega)]
  simp [rdTrM,rdOver]
 ·obtain ⟨h6,h7,h8⟩:=h5 rfl
  simp only [if_true,yaj]
  rw [zbV (by omega) (by omega)]
  simp only [rdTrM,rdOver,if_true]
  rw [show (false || decide ((1:Int)<1))=false by decide,rdInt_put (by omega) (by omega),rdText_put h6]
theorem loopF_put (L:List Fl) (hL:∀p∈L,flR p=true) (rest:List UInt8):∀k,k≤L.length→loopR flStp k ([],⟨L.flatMap filP++rest,false⟩)=(L.take k,⟨(L.drop k).flatMap filP++rest,false⟩)
 | 0,_=>by simp [loopR]
 | k+1,hk=>by
  have ih:=loopF_put L hL rest k (by omega)
  have hk':k<L.length:=by omega
  show (if _ then _ else _)=_
  rw [ih,if_neg (by simp)]
  simp only [flStp]
  rw [yaA hk',List.flatMap_cons,yaj,rdFl_put (hL _ (yaM hk')),yao,yac hk']
  rfl
theorem loopT_put (L:List Tr) (hL:∀p∈L,trR p=true) (rest:List UInt8):∀k,k≤L.length→loopR trStp k ([],⟨L.flatMap tirP++rest,false⟩)=(L.take k,⟨(L.drop k).flatMap tirP++rest,false⟩)
 | 0,_=>by simp [loopR]
 | k+1,hk=>by
  have ih:=loopT_put L hL rest k (by omega)
  have hk':k<L.length:=by omega
  show (if _ then _ else _)=_
  rw [ih,if_neg (by simp)]
  simp only [trStp]
  rw [yaA hk',List.flatMap_cons,yaj,rdTr_put (hL _ (yaM hk')),yao,yac hk']
  rfl
theorem manyF_put (L:List Fl) (hL:∀p∈L,flR p=true) (hn:L.length≤512) (rest:List UInt8):manyR flStp 512 ([],⟨varP (u64n (L.length:Int))++(L.flatMap filP++rest),false⟩)=(L,⟨rest,false⟩):=by
 unfold manyR
 simp only
 rw [zbV (by omega) (by omega)]
 simp only
 rw [show (false || decide (((512:Nat):Int)<(L.length:Int)))=false by simp;omega,Int.toNat_natCast,loopF_put L hL rest L.length (Nat.le_refl _)]
 simp
theorem manyT_put (L:List Tr) (hL:∀p∈L,trR p=true) (hn:L.length≤4) (rest:List UInt8):manyR trStp 4 ([],⟨varP (u64n (L.length:Int))++(L.flatMap tirP++rest),false⟩)=(L,⟨rest,false⟩):=by
 unfold manyR
 simp only
 rw [zbV (by omega) (by omega)]
 simp only
 rw [show (false || decide (((4:Nat):Int)<(L.length:Int)))=false by simp;omega,Int.toNat_natCast,loopT_put L hL rest L.length (Nat.le_refl _)]
 simp
theorem staFrom_put {s:Sta}(h:staR s=true) (hm:s.km.ok):staFrom ⟨staP s,false⟩=(s,⟨[],false⟩):=by
 have hp:=staR_parts h
 have hb:mkR s.km=true∧(0≤s.x∧s.x≤1152921504606846976)∧(0≤s.r∧s.r≤1152921504606846976)∧(0≤s.q∧s.q≤1152921504606846976):=by
  simp only [staR,staB,yaK] at h
  have h1:=h.1.1.1.1
  simp only [z60,inB,yaK,yaL] at h1
  exact ⟨h1.1,h1.2.1,h1.2.2.1,h1.2.2.2⟩
 obtain ⟨x,r,q,km,fl,ti⟩:=s
 obtain ⟨hk,hx,hr,hq⟩:=hb
 obtain ⟨hf,ht,hfl,hti⟩:=hp
 simp only at *
 unfold staFrom staP
 simp only [yaj]
 rw [zbV hx.1 hx.2,zbV hr.1 hr.2,zbV hq.1 hq.2,rdMark_put hm hk]
 unfold staTail
 simp only
 rw [manyF_put fl hfl hf]
 simp only
 have:=manyT_put ti hti ht []
 rw [List.append_nil] at this
 rw [this]
theorem staRd_seal {s:Sta}(h:staR s=true) (hm:s.km.ok) (hl:(staP s).length≤1048576):staRd (sealL 7 (staP s))=some s:=by
 unfold staRd
 rw [openR_seal 7 _ hl]
 simp only [ne_eq,not_true,or_self,if_false]
 rw [staFrom_put h hm]
 simp [staOk,h]
theorem zdV {s:Sta}(h:staR s=true) (hm:s.km.ok):(staP s).length≤60000:=by
 obtain ⟨hf,ht,hfl,hti⟩:=staR_parts h
 have hF:∀(L:List Fl),(∀p∈L,flR p=true)→(L.flatMap filP).length≤104*L.length:=by
  intro L
  induction L with
  | nil=>simp
  | cons p L ih =>
   intro h
   have h1:=filP_len (h p (by simp))
   have h2:=ih (fun q hq=>h q (by simp [hq]))
   simp only [List.flatMap_cons,yae,List.length_cons]
   omega
 have hT:∀(L:List Tr),(∀p∈L,trR p=true)→(L.flatMap tirP).length≤114*L.length:=by
  intro L
  induction L with
  | nil=>simp
  | cons p L ih =>
   intro h
   have h1:=tirP_len (h p (by simp))
   have h2:=ih (fun q hq=>h q (by simp [hq]))
   simp only [List.flatMap_cons,yae,List.length_cons]
   omega
 have h1:=hF s.fl hfl
 have h2:=hT s.ti hti
 have h3:=zaQ (zbF s.x)
 have h4:=zaQ (zbF s.r)
 have h5:=zaQ (zbF s.q)
 have h6:=markP_len hm
 have h7:=zaQ (zbF (s.fl.length:Int))
 have h8:=zaQ (zbF (s.ti.length:Int))
 unfold staP
 simp only [yae]
 omega
theorem neq_win (a b:Int) (W:World):(binOp .neq 337 (.agg #[.int .i64 a,.int .i64 b]) (.agg #[.int .i64 (-1),.int .i64 (-1)])).run Tryz.prog W=.ok (.bool (!(a==-1&&b==-1))) W:=by
 have hp:Tryz.prog.stoodInHeld 337=false:=by kernel_rfl
 have hu:=Tryz.underlying337
 simp [go_sem,hp,hu]
 repeat' split
 all_goals simp_all
theorem xhas_no (x y:Int) (w:World):Calls Tryz.prog 227 #[.agg #[.int .i64 (-1),.int .i64 (-1)],.agg #[.int .i64 x,.int .i64 y]] w fun e w'=>e=.returned (.bool false)∧Ext w w':=by
 have hne:=neq_win (-1) (-1)
 simp only [beq_self_eq_true,Bool.and_self,Bool.not_true] at hne
 obtain ⟨p,hp⟩:∃p:Int,p=-1:=⟨_,rfl⟩
 obtain ⟨q,hq⟩:∃q:Int,q=-1:=⟨_,rfl⟩
 have hne':∀W,(binOp .neq 337 (.agg #[.int .i64 p,.int .i64 q]) (.agg #[.int .i64 (-1),.int .i64 (-1)])).run Tryz.prog W=.ok (.bool false) W:=by rw [hp,hq];exact hne
 have HPQ:=hid (And.intro hp hq)
 clear hne
 suffices h:Calls Tryz.prog 227 #[.agg #[.int .i64 p,.int .i64 q],.agg #[.int .i64 x,.int .i64 y]] w fun e w'=>e=.returned (.bool false)∧Ext w w' by rw [hp,hq] at h;exact h
 clear hp hq HPQ
 (
   have hg:Tryz.prog.eqGuardType Tryz.prog.depth 337=false:=by kernel_rfl
   go_enter Tryz.func227,Tryz.ntmps227
   obtain ⟨W,hW⟩:∃W,W=(w.alloc (.cells #[.int .i64 p,.int .i64 q] 337 (0,0))).alloc (.cells #[.int .i64 x,.int .i64 y] 337 (0,0)):=⟨_,rfl⟩
   have HX:Hid (Ext w W):=hid (by rw [hW];exact ((Ext.refl w).alloc _).alloc _)
   have HP:Hid (W.heap[w.heap.size]?=some (.cells #[.int .i64 p,.int .i64 q] 337 (0,0))):=hid (by
    rw [hW]
    have h0:=heap_alloc_new w (.cells #[.int .i64 p,.int .i64 q] 337 (0,0))
    exact (((Ext.refl _).alloc _).block (zab h0)).trans h0)
   have HQ:Hid (W.heap[w.heap.size+1]?=some (.cells #[.int .i64 x,.int .i64 y] 337 (0,0))):=hid (by rw [hW];exact zaF w _ _)
   go_upto_region 1 with fail
   rw [←hW]
   clear hW
   have f0:=zaW (P:=Tryz.prog) (ty:=337) HP.out (T:=fun _=>false) rfl Tryz.underlying337 rfl zaS
   have x0:=zaf (T:=fun _=>false) (show W.cell? ⟨w.heap.size,0,none⟩=some (.int .i64 p) by have:=zaa HP.out 0;simpa using this) rfl
   have x1:=zaf (T:=fun _=>false) (show W.cell? ⟨w.heap.size,1,none⟩=some (.int .i64 q) by have:=zaa HP.out 1;simpa using this) rfl
   have y0:=zaf (T:=fun _=>false) (show W.cell? ⟨w.heap.size+1,0,none⟩=some (.int .i64 x) by have:=zaa HQ.out 0;simpa using this) rfl
   have y1:=zaf (T:=fun _=>false) (show W.cell? ⟨w.heap.size+1,1,none⟩=some (.int .i64 y) by have:=zaa HQ.out 1;simpa using this) rfl
   refine zao 17 (fun w'=>∃z:Turned,w'=turned W (fun _=>false) z.d z.f z.os) (.reads [0] (.one 1 (.reads [2,3,4,5,6,7,8,9,10,11,12,13,14,15,16] (.one 17 .done)))) (by kernel_rfl) (by kernel_rfl) (fun _ _ dd _ _ hh=>by cases dd<;>exact hh) ?_ ?_
   ·exact zad (Ext.drewN W 1)
   refine zak ?_
   simp only [zac,yab,yaa]
   repeat (first|(refine zbl rfl _ _ rfl _ _ rfl (fun w hw=>by obtain ⟨z,rfl⟩:=hw;exact f0 z.d z.f z.os) ?_)|(go_big_quiet_step (fail)))
   refine yaF ?_
   change zaA _ _ _ _ _ _ _ _ (W.drewN 1)
   have HXd:Hid (Ext W (W.drewN 1)):=hid (Ext.drewN W 1)
   generalize W.drewN 1=Wd at HXd ⊢
   refine zae ?_
   simp only [zac,yab,yaa]
   go_wp2_with fail
   refine (zcw _).mono ?_
   rintro e w5 ⟨rfl,hx5⟩
   have HX5:=hid (HXd.out.trans hx5)
   clear hx5 HXd f0
   go_wp2_with fail
   refine zal (zad HX5.out) (zak ?_)
   simp only [zac,yab,yaa]
   repeat (go_big_quiet_step (fail))
   refine yaF ?_
   refine zae ?_
   simp only [zac,yab,yaa]
   clear x0 x1 y0 y1
   go_wp2_with fail
   refine zau (zav ?_)
   go_wp2_with fail
   go_ret)
 exact ⟨rfl,HX.out.trans HX5.out⟩
theorem has_some (a b:Nat) (x y:Int) (w:World):Calls Tryz.prog 227 #[.agg #[.int .i64 (a:Int),.int .i64 (b:Int)],.agg #[.int .i64 x,.int .i64 y]] w fun e w'=>e=.returned (.bool (decide ((a:Int)≤x)&&decide ((b:Int)≤y)))∧Ext w w':=by
 obtain ⟨p,hp⟩:∃p:Int,p=a:=⟨_,rfl⟩
 obtain ⟨q,hq⟩:∃q:Int,q=b:=⟨_,rfl⟩
 have hne':∀W,(binOp .neq 337 (.agg #[.int .i64 p,.int .i64 q]) (.agg #[.int .i64 (-1),.int .i64 (-1)])).run Tryz.prog W=.ok (.bool true) W:=fun W=>by
  have:=neq_win p q W
  rw [show (p==-1)=false from yam.2 (by omega)] at this
  exact this
 rw [←hp,←hq]
 clear hp hq
 cases h1:decide (p≤x)
 ·rw [Bool.false_and]
  (
    have hg:Tryz.prog.eqGuardType Tryz.prog.depth 337=false:=by kernel_rfl
    go_enter Tryz.func227,Tryz.ntmps227
    obtain ⟨W,hW⟩:∃W,W=(w.alloc (.cells #[.int .i64 p,.int .i64 q] 337 (0,0))).alloc (.cells #[.int .i64 x,.int .i64 y] 337 (0,0)):=⟨_,rfl⟩
    have HX:Hid (Ext w W):=hid (by rw [hW];exact ((Ext.refl w).alloc _).alloc _)
    have HP:Hid (W.heap[w.heap.size]?=some (.cells #[.int .i64 p,.int .i64 q] 337 (0,0))):=hid (by
     rw [hW]
     have h0:=heap_alloc_new w (.cells #[.int .i64 p,.int .i64 q] 337 (0,0))
     exact (((Ext.refl _).alloc _).block (zab h0)).trans h0)
    have HQ:Hid (W.heap[w.heap.size+1]?=some (.cells #[.int .i64 x,.int .i64 y] 337 (0,0))):=hid (by rw [hW];exact zaF w _ _)
    go_upto_region 1 with fail
    rw [←hW]
    clear hW
    have f0:=zaW (P:=Tryz.prog) (ty:=337) HP.out (T:=fun _=>false) rfl Tryz.underlying337 rfl zaS
    have x0:=zaf (T:=fun _=>false) (show W.cell? ⟨w.heap.size,0,none⟩=some (.int .i64 p) by have:=zaa HP.out 0;simpa using this) rfl
    have x1:=zaf (T:=fun _=>false) (show W.cell? ⟨w.heap.size,1,none⟩=some (.int .i64 q) by have:=zaa HP.out 1;simpa using this) rfl
    have y0:=zaf (T:=fun _=>false) (show W.cell? ⟨w.heap.size+1,0,none⟩=some (.int .i64 x) by have:=zaa HQ.out 0;simpa using this) rfl
    have y1:=zaf (T:=fun _=>false) (show W.cell? ⟨w.heap.size+1,1,none⟩=some (.int .i64 y) by have:=zaa HQ.out 1;simpa using this) rfl
    refine zao 17 (fun w'=>∃z:Turned,w'=turned W (fun _=>false) z.d z.f z.os) (.reads [0] (.one 1 (.reads [2,3,4,5,6,7,8,9,10,11,12,13,14,15,16] (.one 17 .done)))) (by kernel_rfl) (by kernel_rfl) (fun _ _ dd _ _ hh=>by cases dd<;>exact hh) ?_ ?_
    ·exact zad (Ext.drewN W 1)
    refine zak ?_
    simp only [zac,yab,yaa]
    repeat (first|(refine zbl rfl _ _ rfl _ _ rfl (fun w hw=>by obtain ⟨z,rfl⟩:=hw;exact f0 z.d z.f z.os) ?_)|(go_big_quiet_step (fail)))
    refine yaF ?_
    change zaA _ _ _ _ _ _ _ _ (W.drewN 1)
    have HXd:Hid (Ext W (W.drewN 1)):=hid (Ext.drewN W 1)
    generalize W.drewN 1=Wd at HXd ⊢
    refine zae ?_
    simp only [zac,yab,yaa]
    go_wp2_with fail
    refine (zcw _).mono ?_
    rintro e w5 ⟨rfl,hx5⟩
    have HX5:=hid (HXd.out.trans hx5)
    clear hx5 HXd f0
    go_wp2_with fail
    refine zal (zad HX5.out) (zak ?_)
    simp only [zac,yab,yaa]
    repeat (go_big_quiet_step (fail))
    refine yaF ?_
    refine zae ?_
    simp only [zac,yab,yaa]
    clear x0 x1 y0 y1
    go_wp2_with fail
    refine zau (zav ?_)
    go_wp2_with fail
    go_ret)
  exact ⟨rfl,HX.out.trans HX5.out⟩
 ·rw [Bool.true_and]
  cases h2:decide (q≤y)
  ·(
     have hg:Tryz.prog.eqGuardType Tryz.prog.depth 337=false:=by kernel_rfl
     go_enter Tryz.func227,Tryz.ntmps227
     obtain ⟨W,hW⟩:∃W,W=(w.alloc (.cells #[.int .i64 p,.int .i64 q] 337 (0,0))).alloc (.cells #[.int .i64 x,.int .i64 y] 337 (0,0)):=⟨_,rfl⟩
     have HX:Hid (Ext w W):=hid (by rw [hW];exact ((Ext.refl w).alloc _).alloc _)
     have HP:Hid (W.heap[w.heap.size]?=some (.cells #[.int .i64 p,.int .i64 q] 337 (0,0))):=hid (by
      rw [hW]
      have h0:=heap_alloc_new w (.cells #[.int .i64 p,.int .i64 q] 337 (0,0))
      exact (((Ext.refl _).alloc _).block (zab h0)).trans h0)
     have HQ:Hid (W.heap[w.heap.size+1]?=some (.cells #[.int .i64 x,.int .i64 y] 337 (0,0))):=hid (by rw [hW];exact zaF w _ _)
     go_upto_region 1 with fail
     rw [←hW]
     clear hW
     have f0:=zaW (P:=Tryz.prog) (ty:=337) HP.out (T:=fun _=>false) rfl Tryz.underlying337 rfl zaS
     have x0:=zaf (T:=fun _=>false) (show W.cell? ⟨w.heap.size,0,none⟩=some (.int .i64 p) by have:=zaa HP.out 0;simpa using this) rfl
     have x1:=zaf (T:=fun _=>false) (show W.cell? ⟨w.heap.size,1,none⟩=some (.int .i64 q) by have:=zaa HP.out 1;simpa using this) rfl
     have y0:=zaf (T:=fun _=>false) (show W.cell? ⟨w.heap.size+1,0,none⟩=some (.int .i64 x) by have:=zaa HQ.out 0;simpa using this) rfl
     have y1:=zaf (T:=fun _=>false) (show W.cell? ⟨w.heap.size+1,1,none⟩=some (.int .i64 y) by have:=zaa HQ.out 1;simpa using this) rfl
     refine zao 17 (fun w'=>∃z:Turned,w'=turned W (fun _=>false) z.d z.f z.os) (.reads [0] (.one 1 (.reads [2,3,4,5,6,7,8,9,10,11,12,13,14,15,16] (.one 17 .done)))) (by kernel_rfl) (by kernel_rfl) (fun _ _ dd _ _ hh=>by cases dd<;>exact hh) ?_ ?_
     ·exact zad (Ext.drewN W 1)
     refine zak ?_
     simp only [zac,yab,yaa]
     repeat (first|(refine zbl rfl _ _ rfl _ _ rfl (fun w hw=>by obtain ⟨z,rfl⟩:=hw;exact f0 z.d z.f z.os) ?_)|(go_big_quiet_step (fail)))
     refine yaF ?_
     change zaA _ _ _ _ _ _ _ _ (W.drewN 1)
     have HXd:Hid (Ext W (W.drewN 1)):=hid (Ext.drewN W 1)
     generalize W.drewN 1=Wd at HXd ⊢
     refine zae ?_
     simp only [zac,yab,yaa]
     go_wp2_with fail
     refine (zcw _).mono ?_
     rintro e w5 ⟨rfl,hx5⟩
     have HX5:=hid (HXd.out.trans hx5)
     clear hx5 HXd f0
     go_wp2_with fail
     refine zal (zad HX5.out) (zak ?_)
     simp only [zac,yab,yaa]
     repeat (go_big_quiet_step (fail))
     refine yaF ?_
     refine zae ?_
     simp only [zac,yab,yaa]
     clear x0 x1 y0 y1
     go_wp2_with fail
     refine zau (zav ?_)
     go_wp2_with fail
     go_ret)
   exact ⟨rfl,HX.out.trans HX5.out⟩
  ·(
     have hg:Tryz.prog.eqGuardType Tryz.prog.depth 337=false:=by kernel_rfl
     go_enter Tryz.func227,Tryz.ntmps227
     obtain ⟨W,hW⟩:∃W,W=(w.alloc (.cells #[.int .i64 p,.int .i64 q] 337 (0,0))).alloc (.cells #[.int .i64 x,.int .i64 y] 337 (0,0)):=⟨_,rfl⟩
     have HX:Hid (Ext w W):=hid (by rw [hW];exact ((Ext.refl w).alloc _).alloc _)
     have HP:Hid (W.heap[w.heap.size]?=some (.cells #[.int .i64 p,.int .i64 q] 337 (0,0))):=hid (by
      rw [hW]
      have h0:=heap_alloc_new w (.cells #[.int .i64 p,.int .i64 q] 337 (0,0))
      exact (((Ext.refl _).alloc _).block (zab h0)).trans h0)
     have HQ:Hid (W.heap[w.heap.size+1]?=some (.cells #[.int .i64 x,.int .i64 y] 337 (0,0))):=hid (by rw [hW];exact zaF w _ _)
     go_upto_region 1 with fail
     rw [←hW]
     clear hW
     have f0:=zaW (P:=Tryz.prog) (ty:=337) HP.out (T:=fun _=>false) rfl Tryz.underlying337 rfl zaS
     have x0:=zaf (T:=fun _=>false) (show W.cell? ⟨w.heap.size,0,none⟩=some (.int .i64 p) by have:=zaa HP.out 0;simpa using this) rfl
     have x1:=zaf (T:=fun _=>false) (show W.cell? ⟨w.heap.size,1,none⟩=some (.int .i64 q) by have:=zaa HP.out 1;simpa using this) rfl
     have y0:=zaf (T:=fun _=>false) (show W.cell? ⟨w.heap.size+1,0,none⟩=some (.int .i64 x) by have:=zaa HQ.out 0;simpa using this) rfl
     have y1:=zaf (T:=fun _=>false) (show W.cell? ⟨w.heap.size+1,1,none⟩=some (.int .i64 y) by have:=zaa HQ.out 1;simpa using this) rfl
     refine zao 17 (fun w'=>∃z:Turned,w'=turned W (fun _=>false) z.d z.f z.os) (.reads [0] (.one 1 (.reads [2,3,4,5,6,7,8,9,10,11,12,13,14,15,16] (.one 17 .done)))) (by kernel_rfl) (by kernel_rfl) (fun _ _ dd _ _ hh=>by cases dd<;>exact hh) ?_ ?_
     ·exact zad (Ext.drewN W 1)
     refine zak ?_
     simp only [zac,yab,yaa]
     repeat (first|(refine zbl rfl _ _ rfl _ _ rfl (fun w hw=>by obtain ⟨z,rfl⟩:=hw;exact f0 z.d z.f z.os) ?_)|(go_big_quiet_step (fail)))
     refine yaF ?_
     change zaA _ _ _ _ _ _ _ _ (W.drewN 1)
     have HXd:Hid (Ext W (W.drewN 1)):=hid (Ext.drewN W 1)
     generalize W.drewN 1=Wd at HXd ⊢
     refine zae ?_
     simp only [zac,yab,yaa]
     go_wp2_with fail
     refine (zcw _).mono ?_
     rintro e w5 ⟨rfl,hx5⟩
     have HX5:=hid (HXd.out.trans hx5)
     clear hx5 HXd f0
     go_wp2_with fail
     refine zal (zad HX5.out) (zak ?_)
     simp only [zac,yab,yaa]
     repeat (go_big_quiet_step (fail))
     refine yaF ?_
     refine zae ?_
     simp only [zac,yab,yaa]
     clear x0 x1 y0 y1
     go_wp2_with fail
     refine zau (zav ?_)
     go_wp2_with fail
     go_ret)
   exact ⟨rfl,HX.out.trans HX5.out⟩
def u64s (l:List Nat):List Value:=l.map fun (c:Nat)=>.int .u64 (c:Int)
theorem u64s_one (l:List Nat):∀u∈u64s l,u.oneCell'=true:=by
 intro u hu
 obtain ⟨c,_,rfl⟩:=yap.1 hu
 rfl
theorem u64s_append (l k:List Nat):u64s (l++k)=u64s l++u64s k:=by simp [u64s]
theorem u64s_src {w:World}{a:Option Addr}{n c:Nat}{l:List Nat}(h:Src w 1 (.slice a n c) n (u64s l)) {k:Nat}(hk:k<n) :
 ∃b off z,a=some ⟨b,off,none⟩∧l[k]?=some z∧w.cell? ⟨b,off+k,none⟩=some (.int .u64 (z:Int)):=by
 rcases h with ⟨_,h,_⟩|⟨ad,c',h,hl,h2,_⟩
 ·omega
 ·simp at h
  obtain ⟨rfl,rfl⟩:=h
  have hl':l.length=n:=by simpa [u64s] using hl
  have hkl:k<l.length:=by omega
  have hcell:=h2 k (.int .u64 (l[k]:Int)) (by simp [u64s,yac hkl])
  have hcell0:=h2 0 (.int .u64 ((l[0]'(by omega)):Int)) (by simp [u64s,yac (show 0<l.length by omega)])
  obtain ⟨b,off,spot⟩:=ad
  have hspot:spot=none:=by simpa [Addr.add] using World.cell?_spot hcell0
  subst hspot
  refine ⟨b,off,l[k],rfl,yac hkl,?_⟩
  rw [←yak];exact hcell
theorem u64s_src_len {w:World}{v:Value}{n:Nat}{l:List Nat}(h:Src w 1 v n (u64s l)):l.length=n:=by
 rcases h with ⟨_,rfl,h⟩|⟨_,_,_,h,_⟩
 ·cases l with
  | nil=>rfl
  | cons c l=>simp [u64s] at h
 ·simpa [u64s] using h
structure XvAt (w:World) (b nb:Nat) (L:List Bool) (now:Option (Nat×Nat)) (wr:World):Prop where
 put:∃o,WAt b o L wr∧o≠some nb∧∀g,o=some g→w.heap.size≤g
 box:wr.heap[nb]?=some (.cells (winV now) 337 (0,0))
 ord:w.heap.size≤b∧w.heap.size≤nb∧b≠nb
 ext:Ext w wr
theorem XvAt.mono {w wr w1:World}{b nb:Nat}{L:List Bool}{now:Option (Nat×Nat)}(h:XvAt w b nb L now wr) (hx:Ext wr w1):XvAt w b nb L now w1:=by
 obtain ⟨o,h1,h2,h3⟩:=h.put
 exact ⟨⟨o,h1.ext hx,h2,h3⟩,(hx.block (zab h.box)).trans h.box,h.ord,h.ext.trans hx⟩
theorem XvAt.turn {w wr w1:World}{b nb:Nat}{L:List Bool}{now now':Option (Nat×Nat)}(h:XvAt w b nb L now wr) (hc:Chg (·=nb) wr w1) (hb:w1.heap[nb]?=some (.cells (winV now') 337 (0,0))):XvAt w b nb L now' w1:=by
 obtain ⟨o,⟨⟨a,n,c,B,k1,k2,k3,k4⟩,h1⟩,h2,h3⟩:=h.put
 have ho:=h.ord
 refine ⟨⟨o,⟨⟨a,n,c,B,(hc.block b (zab k1) ho.2.2).trans k1,k2.chg hc (fun g hg e=>h2 (by rw [←k4,hg,e])),k3,k4⟩,h1⟩,h2,h3⟩,hb,ho,((Chg.of_ext (S:=fun k=>w.heap.size≤k) h.ext).trans hc (fun k _ e=>by omega)).ext (fun k hk e=>by omega)⟩
theorem zdp {w wr:World}{b nb:Nat}{L:List Bool}{now:Option (Nat×Nat)}(h:XvAt w b nb L now wr) (v n:Nat) (hv:v<18446744073709551616) (hn:n≤64) (hlen:L.length+n≤8388608) :
 Calls Tryz.prog 221 #[.pointer (some ⟨b,0,none⟩),.int .u64 (v:Int),.int .i64 (n:Int)] wr fun e w'=>e=.returned (.int .i64 0)∧XvAt w b nb (L++hiL n v) now w':=by
 obtain ⟨o,h1,h2,h3⟩:=h.put
 refine (zbZ wr b o L v n h1 hv hn hlen).mono ?_
 rintro e w' ⟨rfl,o',k1,k2,k3⟩
 have ho:=h.ord
 have hs:=h.ext.size
 refine ⟨rfl,⟨o',k1,fun e=>?_,fun g hg=>?_⟩,(k3.block nb (zab h.box) (fun e=>by
  rcases e with e|e
  ·exact ho.2.2 e.symm
  ·exact h2 e)).trans h.box,ho,((Chg.of_ext (S:=fun k=>w.heap.size≤k) h.ext).trans k3 (fun k _ e=>by
  rcases e with e|e
  ·omega
  ·exact h3 k e)).ext (fun k hk e=>by omega)⟩
 ·rcases k2 with rfl|⟨k,hk,hk2⟩
  ·exact h2 e
  ·rw [e] at hk;cases hk;have:=zab h.box;omega
 ·rcases k2 with rfl|⟨k,hk,hk2⟩
  ·exact h3 g hg
  ·rw [hg] at hk;cases hk;omega
theorem xv_at_len (l:List Nat) (i:Nat):(xvS (l.take i)).bits.length≤78*i:=by
 have h:=xv_len (l.take i) ⟨[],none,none⟩
 have h2:=List.length_take_le i l
 simp at h
 unfold xvS
 have:78*(min i l.length)≤78*i:=Nat.mul_le_mul_left _ (by omega)
 omega
theorem has_any (now:Option (Nat×Nat)) (x y:Nat) (w:World):Calls Tryz.prog 227 #[.agg (winV now),.agg #[.int .i64 (x:Int),.int .i64 (y:Int)]] w fun e w'=>e=.returned (.bool (hasW now x y))∧Ext w w':=by
 cases now with
 | none=>exact xhas_no x y w
 | some p =>
  have:=has_some p.1 p.2 x y w
  unfold hasW
  rw [show decide ((p.1:Int)≤(x:Int))=decide (p.1≤x) by simp,show decide ((p.2:Int)≤(y:Int))=decide (p.2≤y) by simp] at this
  exact this
theorem xencode_any (w:World) (a:Option Addr) (n c:Nat) (l:List Nat) (hl:Src w 1 (.slice a n c) n (u64s l)) (hn:n≤4096) (hv:∀v∈l,v<18446744073709551616) :
 Calls Tryz.prog 184 #[.slice a n c] w fun e w'=>∃(a':Option Addr) (m c':Nat) (B:List UInt8),e=.returned (.tuple #[.slice a' m c',.int .i64 0])∧Bits B (zbL l)∧B.length=m∧MadeTo w 5 1 (.slice a' m c') m (u8s B) w':=by
 have HL:=hid hl
 have LN:=hid (u64s_src_len hl)
 have HVV:=hid hv
 have hn':¬4096<(n:Int):=by omega
 clear hl hv
 go_enter Tryz.func184,Tryz.ntmps184
 go_wp2_with fail
 go_step3
 go_wp2_with fail
 refine (newWriter_any w).mono ?_
 rintro e w1 ⟨rfl,hw1,hx1⟩
 have HW1:=hid hw1
 have HX1:=hid hx1
 obtain ⟨b,hb⟩:∃b,b=w.heap.size:=⟨_,rfl⟩
 rw [←hb] at HW1 ⊢
 have HB:Hid (w.heap.size≤b):=hid (by omega)
 clear hw1 hx1 hn' hb
 go_wp2_with fail
 refine (zcw w1).mono ?_
 rintro e w2 ⟨rfl,hx2⟩
 have HW2:=hid (HW1.out.ext hx2)
 have HX2:=hid (HX1.out.trans hx2)
 clear hx2 HW1 HX1
 obtain ⟨W,hW⟩:∃W,W=w2.alloc (.cells #[.int .i64 (-1),.int .i64 (-1)] 337 (0,0)):=⟨_,rfl⟩
 have HXV:Hid (XvAt w b w2.heap.size [] none W):=hid (by
  have hlt:=HW2.out.lt
  rw [hW]
  exact ⟨⟨none,HW2.out.ext ((Ext.refl _).alloc _),by simp,fun g hg=>by cases hg⟩,heap_alloc_new w2 _,⟨HB.out,HX2.out.size,by omega⟩,HX2.out.alloc _⟩)
 go_wp2_with fail
 go_step3
 go_wp2_with fail
 rw [←hW]
 generalize w2.heap.size=nb at HXV ⊢
 clear hW
 go_loopw [17] (fun s17 wr=>∃i:Nat,s17=.int .i64 (i:Int)∧i≤n∧Hid (XvAt w b nb (xvS (l.take i)).bits (xvS (l.take i)).now wr)) (fun t _=>n-(RowKit.intOf t).toNat)
 case atStart=>exact ⟨0,rfl,Nat.zero_le _,hid (by simpa [xvS] using HXV.out)⟩
 case round =>
  obtain ⟨i,rfl,hi,HI⟩:=hrel
  by_cases hlt:i<n
  ·obtain ⟨tb,tof,t,rfl,ht,t0⟩:=u64s_src (HL.out.ext HI.out.ext) hlt
   have HT0:=hid ht
   have hvt:=HVV.out t (yag ht)
   have HTL:=hid (xv_at_len l i)
   have HLA:=hid (xvS_last (l:=l) (i:=i) (by have:=LN.out;omega))
   have HNX:=hid (xvS_next ht)
   have HOKN:=hid (xvS_ok HVV.out i)
   clear ht
   by_cases h0:i=0
   ·have hb0:((i:Int)==0)=true:=beq_iff_eq.2 (by omega)
    have HPA:Hid (zbo (xvS (l.take i)) t=(hiL 64 t,(xvS (l.take i)).now)):=hid (by unfold zbo;rw [HLA.out,if_pos h0])
    clear h0
    go_wp2_with fail
    refine (zdp HI.out t 64 hvt (by decide) (by have:=HTL.out;omega)).mono ?_
    rintro e w3 ⟨rfl,hw3⟩
    have HW3:=hid hw3
    clear hw3
    go_wp2_with fail
    go_roundw
    case rel=>exact ⟨i+1,by go_num,by omega,hid (by rw [HNX.out];show XvAt w b nb ((xvS (l.take i)).bits++(zbo (xvS (l.take i)) t).1) (zbo (xvS (l.take i)) t).2 _;rw [HPA.out];exact HW3.out)⟩
    case measure=>simp [RowKit.intOf];omega
   ·obtain ⟨j,hj⟩:∃j,j=i-1:=⟨_,rfl⟩
    obtain ⟨pb,pof,q,hpa,hq,q0⟩:=u64s_src (HL.out.ext HI.out.ext) (show j<n by omega)
    simp only [Option.some.injEq,Addr.mk.injEq,and_true] at hpa
    obtain ⟨rfl,rfl⟩:=hpa
    have hvq:=HVV.out q (yag hq)
    have hij:(i:Int)-1=(j:Int):=by omega
    have hjn:j<n:=by omega
    have hb0:((i:Int)==0)=false:=yam.2 (by omega)
    obtain ⟨x,hx⟩:∃x,x=t ^^^ q:=⟨_,rfl⟩
    have hxor:bits .xor .u64 (t:Int) (q:Int)=(x:Int):=by rw [bits_xor_u64_nat _ _ hvt hvq,hx]
    have hx64:x<18446744073709551616:=by rw [hx];exact Nat.xor_lt_two_pow (n:=64) hvt hvq
    have HPO:Hid (zbo (xvS (l.take i)) t=zce (xvS (l.take i)).now x):=hid (by unfold zbo;rw [HLA.out,if_neg h0,←hj,hq,hx])
    clear hq hj hx h0 hvt hvq
    by_cases hx0:x=0
    ·have hbx:((x:Int)==0)=true:=beq_iff_eq.2 (by omega)
     have HPA:Hid (zbo (xvS (l.take i)) t=([false],(xvS (l.take i)).now)):=hid (by rw [HPO.out];unfold zce;rw [if_pos hx0])
     have HPT:Hid (∀W,XvAt w b nb (xvS (l.take i)).bits (xvS (l.take i)).now W→Calls Tryz.prog 221 #[.pointer (some ⟨b,0,none⟩),.int .u64 0,.int .i64 1] W fun e w'=>e=.returned (.int .i64 0)∧XvAt w b nb ((xvS (l.take i)).bits++[false]) (xvS (l.take i)).now w'):=hid (fun W h=>zdp h 0 1 (by decide) (by decide) (by have:=HTL.out;omega))
     clear hx0
     go_wp2_with fail
     refine (HPT.out _ HI.out).mono ?_
     rintro e w3 ⟨rfl,hw3⟩
     have HW3:=hid hw3
     clear hw3 hij hxor
     go_wp2_with fail
     go_roundw
     case rel=>exact ⟨i+1,by go_num,by omega,hid (by rw [HNX.out];show XvAt w b nb ((xvS (l.take i)).bits++(zbo (xvS (l.take i)) t).1) (zbo (xvS (l.take i)) t).2 _;rw [HPA.out];exact HW3.out)⟩
     case measure=>simp [RowKit.intOf];omega
    ·have hbx:((x:Int)==0)=false:=yam.2 (by omega)
     have HXL:=hid (And.intro (show 0<x by omega) hx64)
     have HOF:=hid (fun W=>xof_any x W hx64)
     obtain ⟨lx,hlx⟩:∃y,y=leadN x:=⟨_,rfl⟩
     obtain ⟨tx,htx⟩:∃y,y=zba x:=⟨_,rfl⟩
     have HLT:=hid (zcD HXL.out.1 hx64)
     rw [←hlx,←htx] at HLT HOF
     obtain ⟨now,hnow⟩:∃y,y=(xvS (l.take i)).now:=⟨_,rfl⟩
     rw [←hnow] at HI HPO HOKN
     have HHA:=hid (fun W=>has_any now lx tx W)
     have HLX:=hid (And.intro hlx htx)
     have HB5:=hid HI.out.box
     clear hx0 hx64 hlx htx hnow
     go_wp2_with fail
     refine (HOF.out _).mono ?_
     rintro e w3 ⟨rfl,hx3⟩
     have HX3:=hid hx3
     clear hx3 hij hxor q0 t0
     go_upto_region 13 with fail
     generalize hW4:World.alloc _ _=W4
     have HX4:Hid (Ext wr W4):=hid (by subst hW4;exact HX3.out.alloc _)
     have HB9:Hid (W4.heap[w3.heap.size]?=some (.cells #[.int .i64 (lx:Int),.int .i64 (tx:Int)] 337 (0,0))):=hid (by subst hW4;exact heap_alloc_new w3 _)
     have HT4:=hid (HI.out.mono HX4.out)
     have HB54:=hid HT4.out.box
     have HNE:Hid (w3.heap.size≠nb):=hid (by have:=zab HB5.out;have:=HX3.out.size;omega)
     clear hW4
     have HWI:Hid ((Tryz.prog.info? 337).map (·.size)=some (winV now).size):=hid (by cases now with|none=>exact zaS|some p=>exact zaS)
     cases hh:hasW now lx tx with
     | true =>
      rw [hh] at HHA
      obtain ⟨⟨na,nb'⟩,hna⟩:∃p,now=some p:=by cases now with|none=>cases hh|some p=>exact ⟨p,rfl⟩
      subst hna
      have HWO:Hid (na+nb'≤63):=hid (HOKN.out _ rfl)
      have HPA:Hid (zbo (xvS (l.take i)) t=([true,false]++hiL (64-na-nb') (x/2 ^ nb'),some (na,nb'))):=hid (by
       rw [HPO.out];unfold zce
       rw [if_neg (by have:=HXL.out.1;omega),←HLX.out.1,←HLX.out.2,if_pos hh]
       rfl)
      have HP2:Hid (∀W,XvAt w b nb (xvS (l.take i)).bits (some (na,nb')) W→Calls Tryz.prog 221 #[.pointer (some ⟨b,0,none⟩),.int .u64 2,.int .i64 2] W fun e w'=>e=.returned (.int .i64 0)∧XvAt w b nb ((xvS (l.take i)).bits++[true,false]) (some (na,nb')) w'):=hid (fun W h=>zdp h 2 2 (by decide) (by decide) (by have:=HTL.out;omega))
      clear hh
      go_wp2_with (first|(refine zat rfl _ _ rfl _ _ _ _ _ rfl HB54.out Tryz.underlying337 rfl HWI.out ?_)|(refine zat rfl _ _ rfl _ _ _ _ _ rfl HB9.out Tryz.underlying337 rfl zaS ?_))
      refine (HHA.out _).mono ?_
      rintro e w5 ⟨rfl,hx5⟩
      have HT5:=hid (HT4.out.mono hx5)
      clear hx5
      go_wp2_with fail
      refine (HP2.out _ HT5.out).mono ?_
      rintro e V ⟨rfl,hv⟩
      have HT:=hid hv
      clear hv
      go_upto_region 19 with fail
      (
        have HBX:Hid (V.heap[nb]?=some (.cells #[.int .i64 (na:Int),.int .i64 (nb':Int)] 337 (0,0))):=hid HT.out.box
        obtain ⟨ins,hins⟩:∃ins,ins=64-na-nb':=⟨_,rfl⟩
        obtain ⟨xs,hxs⟩:∃xs,xs=x/2 ^ nb':=⟨_,rfl⟩
        have HIN:=hid (fun W=>inside_any na nb' W (by have:=HWO.out;omega))
        rw [←hins] at HIN
        have HPT:=hid (fun W (hx:Ext V W)=>zdp (HT.out.mono hx) (x/2 ^ nb') (64-na-nb') (Nat.lt_of_le_of_lt (Nat.div_le_self _ _) HXL.out.2) (by omega) (by have:=HTL.out;simp only [yae,List.length_cons,List.length_nil,zaG];omega))
        rw [←hins,←hxs] at HPT
        have HIX:=hid (And.intro hins hxs)
        have f0:=zaW (P:=Tryz.prog) (ty:=337) HBX.out (T:=fun _=>false) rfl Tryz.underlying337 rfl zaS
        have x1:=zaf (T:=fun _=>false) (show V.cell? ⟨nb,1,none⟩=some (.int .i64 (nb':Int)) by have:=zaa HBX.out 1;simpa using this) rfl
        have hmn:min nb' 64=nb':=by have:=HWO.out;omega
        have hsh:(x:Int)/2 ^ nb'=(xs:Int):=by rw [hxs];push_cast;rfl
        clear hins hxs
        refine zao 7 (fun w'=>∃z:Turned,w'=turned V (fun _=>false) z.d z.f z.os) (.reads [0,1,2,3,4,5] (.one 6 (.one 7 .done))) (by kernel_rfl) (by kernel_rfl) (fun _ _ dd _ _ hh=>by cases dd<;>exact hh) ?_ ?_
        ·exact zad (Ext.drewN V 1)
        refine zak ?_
        simp only [zac,yab,yaa]
        repeat (first|(refine zbl rfl _ _ rfl _ _ rfl (fun w hw=>by obtain ⟨z,rfl⟩:=hw;exact f0 z.d z.f z.os) ?_)|(go_big_quiet_step (fail)))
        refine yaF ?_
        (try rw [hsh])
        clear f0 x1 hsh hmn
        change zaA _ _ _ _ _ _ _ _ (V.drewN 1)
        have HXd:Hid (Ext V (V.drewN 1)):=hid (Ext.drewN V 1)
        generalize V.drewN 1=Wd at HXd ⊢
        refine zae ?_
        simp only [zac,yab,yaa]
        go_wp2_with fail
        refine (HIN.out Wd).mono ?_
        rintro e w5 ⟨rfl,hx5⟩
        have HX5:=hid (HXd.out.trans hx5)
        clear hx5 HXd
        go_wp2_with fail
        refine zal (zad HX5.out) (zae ?_)
        simp only [zac,yab,yaa]
        go_wp2_with fail
        refine (HPT.out w5 HX5.out).mono ?_
        rintro e w6 ⟨rfl,hw6⟩
        have HW6:=hid hw6
        clear hw6
        go_wp2_with fail
        refine zau (zav ?_)
        go_wp2_with fail
        go_roundw
        case rel=>exact ⟨i+1,by go_num,by omega,hid (by rw [HNX.out];show XvAt w b nb ((xvS (l.take i)).bits++(zbo (xvS (l.take i)) t).1) (zbo (xvS (l.take i)) t).2 _;rw [HPA.out,←HIX.out.1,←HIX.out.2];have h6:=HW6.out;simp only [yaj] at h6 ⊢;exact h6)⟩
        case measure=>simp [RowKit.intOf];omega)
     | false =>
      rw [hh] at HHA
      obtain ⟨na,hna⟩:∃na,na=lx:=⟨_,rfl⟩
      obtain ⟨nb',hnb⟩:∃nb',nb'=tx:=⟨_,rfl⟩
      have HWO:Hid (na+nb'≤63):=hid (by have:=HLT.out;omega)
      have HPA:Hid (zbo (xvS (l.take i)) t=([true,true]++hiL 6 na++hiL 6 (63-na-nb')++hiL (64-na-nb') (x/2 ^ nb'),some (na,nb'))):=hid (by
       rw [HPO.out];unfold zce
       rw [if_neg (by have:=HXL.out.1;omega),←HLX.out.1,←HLX.out.2,hh,if_neg (by simp),hna,hnb,HLX.out.1,HLX.out.2]
       rfl)
      rw [←hna,←hnb] at HB9 HHA ⊢
      have hw6:IntKind.u64.wrap (na:Int)=(na:Int):=by rw [IntKind.wrap_u64];have:=HWO.out;omega
      obtain ⟨m0,hm0⟩:∃m0,m0=64-na-nb':=⟨_,rfl⟩
      obtain ⟨m1,hm1⟩:∃m1,m1=63-na-nb':=⟨_,rfl⟩
      have hm63:m1<18446744073709551616:=Nat.lt_of_le_of_lt (show m1≤63 by omega) (by decide)
      have hna63:na<18446744073709551616:=Nat.lt_of_le_of_lt (show na≤63 by have:=HWO.out;omega) (by decide)
      have hs1:(m0:Int)-1=(m1:Int):=by have:=HWO.out;omega
      have hw7:IntKind.u64.wrap (m1:Int)=(m1:Int):=by rw [IntKind.wrap_u64];have:=HWO.out;omega
      have hw8:wrap64 (m1:Int)=(m1:Int):=by have:=HWO.out;unfold wrap64;omega
      have HIN':=hid (fun W=>inside_any na nb' W (by have:=HWO.out;omega))
      rw [←hm0] at HIN'
      have HP2:Hid (∀W,XvAt w b nb (xvS (l.take i)).bits (some (na,nb')) W→Calls Tryz.prog 221 #[.pointer (some ⟨b,0,none⟩),.int .u64 3,.int .i64 2] W fun e w'=>e=.returned (.int .i64 0)∧XvAt w b nb ((xvS (l.take i)).bits++[true,true]) (some (na,nb')) w'):=hid (fun W h=>zdp h 3 2 (by decide) (by decide) (by have:=HTL.out;omega))
      have HP3:Hid (∀W,XvAt w b nb ((xvS (l.take i)).bits++[true,true]) (some (na,nb')) W→Calls Tryz.prog 221 #[.pointer (some ⟨b,0,none⟩),.int .u64 (na:Int),.int .i64 6] W fun e w'=>e=.returned (.int .i64 0)∧XvAt w b nb ((xvS (l.take i)).bits++[true,true]++hiL 6 na) (some (na,nb')) w'):=hid (fun W h=>zdp h na 6 hna63 (by decide) (by have:=HTL.out;simp only [yae,List.length_cons,List.length_nil];omega))
      have HP4:Hid (∀W,XvAt w b nb ((xvS (l.take i)).bits++[true,true]++hiL 6 na) (some (na,nb')) W→Calls Tryz.prog 221 #[.pointer (some ⟨b,0,none⟩),.int .u64 (m1:Int),.int .i64 6] W fun e w'=>e=.returned (.int .i64 0)∧XvAt w b nb ((xvS (l.take i)).bits++[true,true]++hiL 6 na++hiL 6 m1) (some (na,nb')) w'):=hid (fun W h=>zdp h m1 6 hm63 (by decide) (by have:=HTL.out;simp only [yae,List.length_cons,List.length_nil,zaG];omega))
      rw [←hm1] at HPA
      clear hh hna hnb hm0 hm1 hm63 hna63
      go_wp2_with (first|(refine zat rfl _ _ rfl _ _ _ _ _ rfl HB54.out Tryz.underlying337 rfl HWI.out ?_)|(refine zat rfl _ _ rfl _ _ _ _ _ rfl HB9.out Tryz.underlying337 rfl zaS ?_))
      refine (HHA.out _).mono ?_
      rintro e w5 ⟨rfl,hx5⟩
      have HT5:=hid (HT4.out.mono hx5)
      have HB95:=hid ((hx5.block (zab HB9.out)).trans HB9.out)
      have HB55:=hid HT5.out.box
      have HSZ:Hid ((winV now).size=2):=hid (by cases now with|none=>rfl|some p=>rfl)
      clear hx5
      go_wp2_with (first|(refine zat rfl _ _ rfl _ _ _ _ _ rfl HB95.out Tryz.underlying337 rfl zaS ?_)|(refine zai rfl _ _ _ rfl _ _ _ _ rfl rfl HB55.out HSZ.out zaS (by simp [Value.oneCell']) ?_;rintro w6 hb6 hc6;have HT6:=hid (HT5.out.turn (now':=some (na,nb')) hc6 hb6);have HB6:=hid hb6;clear hb6 hc6))
      refine (HP2.out _ HT6.out).mono ?_
      rintro e w7 ⟨rfl,hv7⟩
      have HT7:=hid hv7
      have HB7:Hid (w7.heap[nb]?=some (.cells #[.int .i64 (na:Int),.int .i64 (nb':Int)] 337 (0,0))):=hid HT7.out.box
      have z0:=zaa HB7.out 0
      simp at z0
      clear hv7
      go_wp2_with fail
      (try rw [hw6])
      refine (HP3.out _ HT7.out).mono ?_
      rintro e w8 ⟨rfl,hv8⟩
      have HT8:=hid hv8
      have HB8:Hid (w8.heap[nb]?=some (.cells #[.int .i64 (na:Int),.int .i64 (nb':Int)] 337 (0,0))):=hid HT8.out.box
      clear hv8 z0
      go_wp2_with (first|(refine zat rfl _ _ rfl _ _ _ _ _ rfl HB8.out Tryz.underlying337 rfl zaS ?_))
      refine (HIN'.out _).mono ?_
      rintro e w9 ⟨rfl,hx9⟩
      have HT9:=hid (HT8.out.mono hx9)
      clear hx9
      go_wp2_with fail
      (try rw [hw7])
      refine (HP4.out _ HT9.out).mono ?_
      rintro e V ⟨rfl,hv⟩
      have HT:=hid hv
      clear hv hw6 hw7 hw8 hs1
      go_upto_region 19 with fail
      (
        have HBX:Hid (V.heap[nb]?=some (.cells #[.int .i64 (na:Int),.int .i64 (nb':Int)] 337 (0,0))):=hid HT.out.box
        obtain ⟨ins,hins⟩:∃ins,ins=64-na-nb':=⟨_,rfl⟩
        obtain ⟨xs,hxs⟩:∃xs,xs=x/2 ^ nb':=⟨_,rfl⟩
        have HIN:=hid (fun W=>inside_any na nb' W (by have:=HWO.out;omega))
        rw [←hins] at HIN
        have HPT:=hid (fun W (hx:Ext V W)=>zdp (HT.out.mono hx) (x/2 ^ nb') (64-na-nb') (Nat.lt_of_le_of_lt (Nat.div_le_self _ _) HXL.out.2) (by omega) (by have:=HTL.out;simp only [yae,List.length_cons,List.length_nil,zaG];omega))
        rw [←hins,←hxs] at HPT
        have HIX:=hid (And.intro hins hxs)
        have f0:=zaW (P:=Tryz.prog) (ty:=337) HBX.out (T:=fun _=>false) rfl Tryz.underlying337 rfl zaS
        have x1:=zaf (T:=fun _=>false) (show V.cell? ⟨nb,1,none⟩=some (.int .i64 (nb':Int)) by have:=zaa HBX.out 1;simpa using this) rfl
        have hmn:min nb' 64=nb':=by have:=HWO.out;omega
        have hsh:(x:Int)/2 ^ nb'=(xs:Int):=by rw [hxs];push_cast;rfl
        clear hins hxs
        refine zao 7 (fun w'=>∃z:Turned,w'=turned V (fun _=>false) z.d z.f z.os) (.reads [0,1,2,3,4,5] (.one 6 (.one 7 .done))) (by kernel_rfl) (by kernel_rfl) (fun _ _ dd _ _ hh=>by cases dd<;>exact hh) ?_ ?_
        ·exact zad (Ext.drewN V 1)
        refine zak ?_
        simp only [zac,yab,yaa]
        repeat (first|(refine zbl rfl _ _ rfl _ _ rfl (fun w hw=>by obtain ⟨z,rfl⟩:=hw;exact f0 z.d z.f z.os) ?_)|(go_big_quiet_step (fail)))
        refine yaF ?_
        (try rw [hsh])
        clear f0 x1 hsh hmn
        change zaA _ _ _ _ _ _ _ _ (V.drewN 1)
        have HXd:Hid (Ext V (V.drewN 1)):=hid (Ext.drewN V 1)
        generalize V.drewN 1=Wd at HXd ⊢
        refine zae ?_
        simp only [zac,yab,yaa]
        go_wp2_with fail
        refine (HIN.out Wd).mono ?_
        rintro e w5 ⟨rfl,hx5⟩
        have HX5:=hid (HXd.out.trans hx5)
        clear hx5 HXd
        go_wp2_with fail
        refine zal (zad HX5.out) (zae ?_)
        simp only [zac,yab,yaa]
        go_wp2_with fail
        refine (HPT.out w5 HX5.out).mono ?_
        rintro e w6 ⟨rfl,hw6⟩
        have HW6:=hid hw6
        clear hw6
        go_wp2_with fail
        refine zau (zav ?_)
        go_wp2_with fail
        go_roundw
        case rel=>exact ⟨i+1,by go_num,by omega,hid (by rw [HNX.out];show XvAt w b nb ((xvS (l.take i)).bits++(zbo (xvS (l.take i)) t).1) (zbo (xvS (l.take i)) t).2 _;rw [HPA.out,←HIX.out.1,←HIX.out.2];have h6:=HW6.out;simp only [yaj] at h6 ⊢;exact h6)⟩
        case measure=>simp [RowKit.intOf];omega)
  ·have HE:Hid ((xvS (l.take i)).bits=zbL l):=hid (by rw [yai (by have:=LN.out;omega)];rfl)
   obtain ⟨o1,hwa,_,hog⟩:=HI.out.put
   rw [HE.out] at hwa
   have HWA:=hid hwa
   clear hwa hog
   go_wp2_with fail
   refine (wbytes_any wr b o1 (zbL l) HWA.out (by have:=zdP l;have:=LN.out;omega)).mono ?_
   rintro e w4 ⟨a4,m4,c4,B,rfl,hB,hBl,hm⟩
   have HBB:=hid (And.intro hB hBl)
   have HM:=hid (MadeTo.mk (w0:=w) hm.row (fun g hg=>Nat.le_trans HI.out.ext.size (hm.own g hg)) (HI.out.ext.trans hm.ext))
   clear hB hBl hm
   go_wp2_with fail
   rw [Exit.noGoto_ret]
   go_ret2
   exact ⟨_,_,_,B,rfl,HBB.out.1,HBB.out.2,HM.out⟩
def tkC (b:Nat) (now:Option (Nat×Nat)):Array Value:=match now with
 | none=>#[.pointer (some ⟨b,0,none⟩),.int .i64 (-1),.int .i64 (-1),.int .i64 0]
 | some (p,q)=>#[.pointer (some ⟨b,0,none⟩),.int .i64 (p:Int),.int .i64 (q:Int),.int .i64 0]
theorem tkC_0 (b:Nat) (now:Option (Nat×Nat)):(tkC b now)[0]?=some (.pointer (some ⟨b,0,none⟩)):=by cases now<;>rfl
theorem tkC_3 (b:Nat) (now:Option (Nat×Nat)):(tkC b now)[3]?=some (.int .i64 0):=by cases now<;>rfl
theorem tkC_size (b:Nat) (now:Option (Nat×Nat)):(tkC b now).size=4:=by cases now<;>rfl
structure XTkAt (tb b:Nat) (B:List UInt8) (i:Nat) (now:Option (Nat×Nat)) (w:World):Prop where
 box:w.heap[tb]?=some (.cells (tkC b now) 365 (0,0))
 rd:RAt b B i w
 lt:b<tb
theorem XTkAt.ext {tb b i:Nat}{B:List UInt8}{now:Option (Nat×Nat)}{w w':World}(h:XTkAt tb b B i now w) (hx:Ext w w'):XTkAt tb b B i now w' :=
 ⟨(hx.block (zab h.box)).trans h.box,h.rd.ext hx,h.lt⟩
theorem errno_info:(Tryz.prog.info? 26).map (·.size)=some 1:=by kernel_rfl
theorem tkC_put (b:Nat) (now:Option (Nat×Nat)):(tkC b now).toList.take 3++[.int .i64 0]++(tkC b now).toList.drop (3+1)=(tkC b now).toList:=by cases now<;>rfl
theorem zci (w:World) (tb b:Nat) (B:List UInt8) (i m:Nat) (now:Option (Nat×Nat)) (h:XTkAt tb b B i now w) (hm:m≤64) (hi:i+m≤8*B.length) (hBl:B.length≤1048576) :
 Calls Tryz.prog 237 #[.pointer (some ⟨tb,0,none⟩),.int .i64 (m:Int)] w fun e w'=>e=.returned (.int .u64 (numAt B i m:Int))∧XTkAt tb b B (i+m) now w'∧Chg (fun k=>k=b∨k=tb) w w':=by
 have HGT:=hid (get_any w b B i m h.rd hm hi hBl)
 have HB:=hid h.box
 have HLT:=hid h.lt
 have HPU:=hid (tkC_put b now)
 have HSZ:=hid (tkC_size b now)
 have c0:w.cell? ⟨tb,0,none⟩=some (.pointer (some ⟨b,0,none⟩)):=by rw [zaa h.box];exact tkC_0 b now
 have c3:w.cell? ⟨tb,3,none⟩=some (.int .i64 0):=by rw [zaa h.box];exact tkC_3 b now
 obtain ⟨C,hC⟩:∃C,C=tkC b now:=⟨_,rfl⟩
 have HC:=hid hC
 rw [←hC] at HB HPU HSZ
 obtain ⟨x,hx⟩:∃x,x=numAt B i m:=⟨_,rfl⟩
 rw [←hx] at HGT ⊢
 clear h hm hi hBl hC hx
 go_enter Tryz.func237,Tryz.ntmps237
 go_wp2_with fail
 refine HGT.out.mono ?_
 rintro e w1 ⟨rfl,hr1,hc1⟩
 have HR1:=hid hr1
 have HC1:=hid hc1
 have HB1:=hid ((hc1.block tb (zab HB.out) (fun e=>by have:=HLT.out;omega)).trans HB.out)
 clear hr1 hc1 c0 c3
 go_wp2_with (first|(refine zap rfl _ _ _ rfl tb 3 _ C _ _ rfl rfl rfl rfl HB1.out (by have:=HSZ.out;omega) HPU.out errno_info ?_;rintro V hbV hcV _he;have HBV:=hid hbV;have HCV:=hid hcV;clear hbV hcV _he))
 go_ret
 exact ⟨rfl,⟨by rw [HC.out] at HBV;exact HBV.out,HR1.out.above HCV.out (fun k e=>by have:=HLT.out;omega),HLT.out⟩,(HC1.out.mono (fun k _ e=>.inl e)).trans HCV.out (fun i _ e=>.inr e)⟩
theorem zdB (w:World) (tb:Nat):Calls Tryz.prog 240 #[.pointer (some ⟨tb,0,none⟩),.bool false] w fun e w'=>e=.returned (.tuple #[])∧w=w':=by
 go_enter Tryz.func240,Tryz.ntmps240
 go_wp2_with fail
 go_end0
 exact ⟨rfl,rfl⟩
theorem eq_win (a b c d:Int) (W:World):(binOp .eql 337 (.agg #[.int .i64 a,.int .i64 b]) (.agg #[.int .i64 c,.int .i64 d])).run Tryz.prog W=.ok (.bool (a==c&&b==d)) W:=by
 have hp:Tryz.prog.stoodInHeld 337=false:=by kernel_rfl
 have hu:=Tryz.underlying337
 simp [go_sem,hp,hu]
 repeat' split
 all_goals simp_all
theorem tnext_same (w:World) (tb b:Nat) (B:List UInt8) (L R:List Bool) (i:Nat) (now:Option (Nat×Nat)) (h:XTkAt tb b B i now w) (hB:Bits B L) (hd:L.drop i=[false]++R) (hBl:B.length≤1048576) :
 Calls Tryz.prog 238 #[.pointer (some ⟨tb,0,none⟩)] w fun e w'=>e=.returned (.int .u64 0)∧XTkAt tb b B (i+1) now w'∧Chg (fun k=>k=b∨k=tb) w w':=by
 have hroom:=zby hB hd (by simp)
 have HG:=hid (zci w tb b B i 1 now h (by decide) hroom hBl)
 rw [num_one hB hd] at HG
 clear h hB hd hBl hroom
 go_enter Tryz.func238,Tryz.ntmps238
 go_wp2_with fail
 refine HG.out.mono ?_
 rintro e w1 ⟨rfl,ht1,hc1⟩
 have HT:=hid (And.intro ht1 hc1)
 clear ht1 hc1
 go_wp2_with fail
 go_ret
 exact ⟨rfl,HT.out.1,HT.out.2⟩
theorem tnext_again (w:World) (tb b:Nat) (B:List UInt8) (L R:List Bool) (i na nb' x:Nat) (h:XTkAt tb b B i (some (na,nb')) w) (hB:Bits B L) (hd:L.drop i=againX (na,nb') x++R) (hx0:0<x) (hx:x<18446744073709551616) (ha:na≤leadN x) (hb:nb'≤zba x) (hBl:B.length≤1048576) :
 Calls Tryz.prog 238 #[.pointer (some ⟨tb,0,none⟩)] w fun e w'=>e=.returned (.int .u64 (x:Int))∧XTkAt tb b B (i+(againX (na,nb') x).length) (some (na,nb')) w'∧Chg (fun k=>k=b∨k=tb) w w':=by
 have hlt:=zcD hx0 hx
 obtain ⟨hw1,hw2⟩:=in_window hx0 hx ha hb
 have hdv:=trail_dvd hx0 hb
 obtain ⟨ins,hins⟩:∃ins,ins=64-na-nb':=⟨_,rfl⟩
 obtain ⟨xs,hxs⟩:∃xs,xs=x/2 ^ nb':=⟨_,rfl⟩
 rw [←hins,←hxs] at hw1
 rw [←hxs] at hw2 hdv
 have hag:againX (na,nb') x=[true]++([false]++hiL ins xs):=by unfold againX;rw [←hins,←hxs];rfl
 rw [hag] at hd
 have hd1:L.drop i=[true]++(([false]++hiL ins xs)++R):=by rw [hd,yaj]
 have hd2:L.drop (i+1)=[false]++(hiL ins xs++R):=by
  have:=zdj hd1
  rw [yaj] at this
  exact this
 have hd3:L.drop (i+1+1)=hiL ins xs++R:=zdj hd2
 have hn1:numAt B i 1=1:=num_one hB hd1
 have hn2:numAt B (i+1) 1=0:=num_one hB hd2
 have hn3:numAt B (i+1+1) ins=xs:=by
  have:=hB.num hd3
  rw [zaG,num_hiL,Nat.mod_eq_of_lt hw1] at this
  exact this
 have hr1:=zby hB hd1 (by simp)
 have hr2:=zby hB hd2 (by simp)
 have hins1:1≤ins:=by omega
 have hr3:=zby hB hd3 (by intro e;have:=congrArg List.length e;rw [zaG] at this;simp at this;omega)
 rw [zaG] at hr3
 have HLEN:Hid (i+(againX (na,nb') x).length=i+1+1+ins):=hid (by rw [hag];simp [zaG];omega)
 have HG1:=hid (zci w tb b B i 1 _ h (by decide) hr1 hBl)
 rw [hn1] at HG1
 have HG2:=hid (fun W (hT:XTkAt tb b B (i+1) (some (na,nb')) W)=>zci W tb b B (i+1) 1 _ hT (by decide) hr2 hBl)
 rw [hn2] at HG2
 have HG3:=hid (fun W (hT:XTkAt tb b B (i+1+1) (some (na,nb')) W)=>zci W tb b B (i+1+1) ins _ hT (by omega) hr3 hBl)
 rw [hn3] at HG3
 have HIN:=hid (fun W=>inside_any na nb' W (by omega))
 rw [←hins] at HIN
 have hmn:min nb' 64=nb':=by omega
 have hxs64:xs*2 ^ nb'=x:=hdv
 have hshl:IntKind.u64.wrap ((xs:Int)*2 ^ nb')=(x:Int):=by rw [show (xs:Int)*2 ^ nb'=((xs*2 ^ nb':Nat):Int) by push_cast;rfl,hxs64,IntKind.wrap_u64,Int.emod_eq_of_lt (by omega) (by omega)]
 have hbx:((xs:Int)==0)=false:=yam.2 (by omega)
 have hna:((na:Int)==-1)=false:=yam.2 (by omega)
 clear h hB hd hd1 hd2 hd3 hx hx0 ha hb hBl hlt hw1 hw2 hdv hins hxs hag hn1 hn2 hn3 hr1 hr2 hr3 hins1 hxs64
 go_enter Tryz.func238,Tryz.ntmps238
 go_wp2_with fail
 refine HG1.out.mono ?_
 rintro e w1 ⟨rfl,ht1,hc1⟩
 have HT1:=hid ht1
 have HC1:=hid hc1
 clear ht1 hc1
 go_wp2_with fail
 refine (HG2.out _ HT1.out).mono ?_
 rintro e w2 ⟨rfl,ht2,hc2⟩
 have HT2:=hid ht2
 have HC2:=hid (HC1.out.trans hc2 (fun _ _ e=>e))
 clear ht2 hc2
 go_upto_region 4 with fail
 have hcells:∀(k:Nat) (u:Value),[Value.int .i64 (na:Int),.int .i64 (nb':Int)][k]?=some u→w2.cell? ⟨tb,1+k,none⟩=some u:=fun k u hu=>by
  rw [zaa HT2.out.box]
  rcases k with _|_|k
  ·exact hu
  ·exact hu
  ·simp at hu
 have HCE:=hid hcells
 have g2:∀(d:Nat) (f:Nat→Obj) (os:Array Obj),(Instr.loadAt 337 (.pointer (some ⟨tb,1,none⟩))).run Tryz.prog (turned w2 (fun _=>false) d f os)=.ok (.agg #[.int .i64 (na:Int),.int .i64 (nb':Int)]) (turned w2 (fun _=>false) d f os):=fun d f os=>by
  have h1:=run_loadAt_mid (P:=Tryz.prog) (turned w2 (fun _=>false) d f os) tb 1 337 [.int .i64 (na:Int),.int .i64 (nb':Int)] _ (fun k u hu=>zaf (T:=fun _=>false) (HCE.out k u hu) rfl d f os) Tryz.underlying337 rfl zaS
  simpa using h1
 clear hcells
 refine zao 7 (fun w'=>∃z:Turned,w'=turned w2 (fun _=>false) z.d z.f z.os) (.reads [0,1,2,3,4] (.one 5 (.reads [6] (.one 7 .done)))) (by kernel_rfl) (by kernel_rfl) (fun _ _ dd _ _ hh=>by cases dd<;>exact hh) ?_ ?_
 ·exact zad (Ext.drewN w2 1)
 refine zak ?_
 simp only [zac,yab,yaa]
 repeat (go_big_quiet_step (fail))
 refine zbl rfl _ _ rfl _ _ rfl (fun w hw=>by obtain ⟨z,rfl⟩:=hw;exact g2 z.d z.f z.os) ?_
 refine yaF ?_
 clear g2
 change zaA _ _ _ _ _ _ _ _ (w2.drewN 1)
 have HXd:Hid (Ext w2 (w2.drewN 1)):=hid (Ext.drewN w2 1)
 generalize w2.drewN 1=Wd at HXd ⊢
 refine zae ?_
 simp only [zac,yab,yaa]
 go_wp2_with fail
 refine (zcw _).mono ?_
 rintro e w5 ⟨rfl,hx5⟩
 have HX5:=hid (HXd.out.trans hx5)
 clear hx5 HXd
 have heq:=fun W=>eq_win (na:Int) (nb':Int) (-1) (-1) W
 simp only [hna,Bool.false_and] at heq
 have hg:Tryz.prog.eqGuardType Tryz.prog.depth 337=false:=by kernel_rfl
 go_wp2_with fail
 refine zal (zad HX5.out) (zak ?_)
 simp only [zac,yab,yaa]
 repeat (go_big_quiet_step (fail))
 refine yaF ?_
 clear heq hg
 refine zae ?_
 simp only [zac,yab,yaa]
 go_wp2_with fail
 refine (zdB _ tb).mono ?_
 rintro e w6 ⟨rfl,rfl⟩
 go_wp2_with fail
 refine zau (zav ?_)
 have HT5:=hid (HT2.out.ext HX5.out)
 have HC5:=hid (HC2.out.trans (Chg.of_ext (S:=fun _=>False) HX5.out) (fun _ _ e=>e.elim))
 have c3:w5.cell? ⟨tb,3,none⟩=some (.int .i64 0):=by rw [zaa HT5.out.box];rfl
 have HRG:Hid (w5.rangeAt tb 1 [Value.int .i64 (na:Int),.int .i64 (nb':Int)]):=hid (fun k u hu=>by
  rw [zaa HT5.out.box]
  rcases k with _|_|k
  ·exact hu
  ·exact hu
  ·simp at hu)
 clear HX5 HCE
 go_wp2_with (first|(refine wpList_load_mid rfl _ _ rfl tb 1 rfl [Value.int .i64 (na:Int),.int .i64 (nb':Int)] _ HRG.out Tryz.underlying337 rfl zaS ?_))
 refine (HIN.out _).mono ?_
 rintro e w7 ⟨rfl,hx7⟩
 have HT7:=hid (HT5.out.ext hx7)
 have HC7:=hid (HC5.out.trans (Chg.of_ext (S:=fun _=>False) hx7) (fun _ _ e=>e.elim))
 clear hx7 c3
 go_wp2_with fail
 refine (HG3.out _ HT7.out).mono ?_
 rintro e w8 ⟨rfl,ht8,hc8⟩
 have HT8:=hid ht8
 have HC8:=hid (HC7.out.trans hc8 (fun _ _ e=>e))
 clear ht8 hc8
 go_wp2_with fail
 refine (zdB _ tb).mono ?_
 rintro e w9 ⟨rfl,rfl⟩
 have c2:w8.cell? ⟨tb,2,none⟩=some (.int .i64 (nb':Int)):=by rw [zaa HT8.out.box];rfl
 go_wp2_with fail
 go_ret
 exact ⟨rfl,by rw [HLEN.out];exact HT8.out,HC8.out⟩
def tkT (b tb k:Nat):Bool:=k==b || k==tb
theorem tkT_false {b tb k:Nat}(h1:k≠b) (h2:k≠tb):tkT b tb k=false:=by unfold tkT;simp [h1,h2]
theorem tkT_of {b tb:Nat}{w w':World}(h:Chg (fun k=>k=b∨k=tb) w w'):Chg (fun k=>tkT b tb k=true) w w':=h.mono (fun k _ e=>by unfold tkT;simpa using e)
theorem neq_same (a b:Int) (W:World):(binOp .neq 337 (.agg #[.int .i64 a,.int .i64 b]) (.agg #[.int .i64 a,.int .i64 b])).run Tryz.prog W=.ok (.bool false) W:=by
 have hp:Tryz.prog.stoodInHeld 337=false:=by kernel_rfl
 have hu:=Tryz.underlying337
 simp [go_sem,hp,hu]
theorem tkC_mid (b:Nat) (now:Option (Nat×Nat)) (k:Nat) (u:Value) (h:(winV now).toList[k]?=some u):(tkC b now)[1+k]?=some u:=by
 cases now with
 | none=>rcases k with _|_|k
         ·exact h
         ·exact h
         ·simp [winV] at h
 | some p=>rcases k with _|_|k
           ·exact h
           ·exact h
           ·simp [winV] at h
theorem winV_size (now:Option (Nat×Nat)):(winV now).size=2:=by cases now<;>rfl
theorem tkC_set (b:Nat) (now:Option (Nat×Nat)) (p q:Nat):(tkC b now).toList.take 1++(#[Value.int .i64 (p:Int),.int .i64 (q:Int)]:Array Value).toList++(tkC b now).toList.drop (1+2)=(tkC b (some (p,q))).toList:=by cases now<;>rfl
theorem anew_parts {L R:List Bool}{i x:Nat}(hd:L.drop i=anewX x++R) :
 L.drop i=[true]++([true]++(hiL 6 (leadN x)++(hiL 6 (63-leadN x-zba x)++(hiL (64-leadN x-zba x) (x/2 ^ zba x)++R)))):=by
 rw [hd];unfold anewX;simp
theorem shl_back (xs nt x:Nat) (h:xs*2 ^ nt=x) (hx:x<18446744073709551616):IntKind.u64.wrap ((xs:Int)*2 ^ nt)=(x:Int):=by
 rw [show (xs:Int)*2 ^ nt=((xs*2 ^ nt:Nat):Int) by push_cast;rfl,h,IntKind.wrap_u64,Int.emod_eq_of_lt (by omega) (by omega)]
theorem anew_nums (na nt mn m1:Nat) (hlt:na+nt≤63) (hmn:mn=64-na-nt) (hm1:m1=63-na-nt):min nt 64=nt∧wrap64 (na:Int)=(na:Int)∧wrap64 (m1:Int)=(m1:Int)∧(m1:Int)+1=(mn:Int)∧(¬(64:Int)<(na:Int)+(mn:Int))∧(64:Int)-(na:Int)-(mn:Int)=(nt:Int)∧na≤63∧mn≤64:=by
 unfold wrap64
 omega
theorem tnext_anew (w:World) (tb b:Nat) (B:List UInt8) (L R:List Bool) (i x:Nat) (now:Option (Nat×Nat)) (h:XTkAt tb b B i now w) (hB:Bits B L) (hd:L.drop i=anewX x++R) (hx0:0<x) (hx:x<18446744073709551616) (hh:hasW now (leadN x) (zba x)=false) (hBl:B.length≤1048576) :
 Calls Tryz.prog 238 #[.pointer (some ⟨tb,0,none⟩)] w fun e w'=>e=.returned (.int .u64 (x:Int))∧XTkAt tb b B (i+(anewX x).length) (some (leadN x,zba x)) w'∧Chg (fun k=>k=b∨k=tb) w w':=by
 have hlt:=zcD hx0 hx
 obtain ⟨hw1,hw2⟩:=in_window hx0 hx (Nat.le_refl _) (Nat.le_refl _)
 have hdv:=trail_dvd hx0 (Nat.le_refl _)
 have HOF:=hid (fun W=>xof_any x W hx)
 have HHA:=hid (fun W=>has_any now (leadN x) (zba x) W)
 rw [hh] at HHA
 have hd1:=anew_parts hd
 have hal:(anewX x).length=14+(64-leadN x-zba x):=by unfold anewX;simp [zaG];omega
 obtain ⟨na,hna⟩:∃na,na=leadN x:=⟨_,rfl⟩
 obtain ⟨nt,hnt⟩:∃nt,nt=zba x:=⟨_,rfl⟩
 rw [←hna] at hlt hw1 hd1 hal HOF HHA ⊢
 rw [←hnt] at hlt hw1 hw2 hdv hd1 hal HOF HHA ⊢
 obtain ⟨mn,hmn⟩:∃mn,mn=64-na-nt:=⟨_,rfl⟩
 obtain ⟨m1,hm1⟩:∃m1,m1=63-na-nt:=⟨_,rfl⟩
 obtain ⟨xs,hxs⟩:∃xs,xs=x/2 ^ nt:=⟨_,rfl⟩
 rw [←hmn] at hw1 hd1 hal
 rw [←hm1] at hd1
 rw [←hxs] at hw1 hw2 hdv hd1
 have hd2:=zdj hd1
 have hd3:=zdj hd2
 have hd4:=zdj hd3
 have hd5:=zdj hd4
 simp only [List.length_singleton,zaG] at hd2 hd3 hd4 hd5
 have hn1:numAt B i 1=1:=num_one hB hd1
 have hn2:numAt B (i+1) 1=1:=num_one hB hd2
 have hn3:numAt B (i+1+1) 6=na:=by
  have:=hB.num hd3
  rw [zaG,num_hiL,Nat.mod_eq_of_lt (by omega)] at this
  exact this
 have hn4:numAt B (i+1+1+6) 6=m1:=by
  have:=hB.num hd4
  rw [zaG,num_hiL,Nat.mod_eq_of_lt (by omega)] at this
  exact this
 have hn5:numAt B (i+1+1+6+6) mn=xs:=by
  have:=hB.num hd5
  rw [zaG,num_hiL,Nat.mod_eq_of_lt hw1] at this
  exact this
 have hr1:=zby hB hd1 (by simp)
 have hr2:=zby hB hd2 (by simp)
 have hr3:=zby hB hd3 (by intro e;have:=congrArg List.length e;rw [zaG] at this;simp at this)
 have hr4:=zby hB hd4 (by intro e;have:=congrArg List.length e;rw [zaG] at this;simp at this)
 have hr5:=zby hB hd5 (by intro e;have:=congrArg List.length e;rw [zaG] at this;simp at this;omega)
 rw [zaG] at hr3 hr4 hr5
 have HLEN:Hid (i+(anewX x).length=i+1+1+6+6+mn):=hid (by rw [hal];omega)
 have HG1:=hid (zci w tb b B i 1 _ h (by decide) hr1 hBl)
 rw [hn1] at HG1
 have HG2:=hid (fun W (hT:XTkAt tb b B (i+1) now W)=>zci W tb b B (i+1) 1 _ hT (by decide) hr2 hBl)
 rw [hn2] at HG2
 have HG3:=hid (fun W (hT:XTkAt tb b B (i+1+1) now W)=>zci W tb b B (i+1+1) 6 _ hT (by decide) hr3 hBl)
 rw [hn3] at HG3
 have HG4:=hid (fun W (hT:XTkAt tb b B (i+1+1+6) now W)=>zci W tb b B (i+1+1+6) 6 _ hT (by decide) hr4 hBl)
 rw [hn4] at HG4
 have HG5:=hid (fun W (hT:XTkAt tb b B (i+1+1+6+6) now W)=>zci W tb b B (i+1+1+6+6) mn _ hT (by omega) hr5 hBl)
 rw [hn5] at HG5
 have hbx:((x:Int)==0)=false:=yam.2 (by have:=hx0;clear hw1 hdv hw2 hal hr1 hr2 hr3 hr4 hr5;omega)
 have hshl:=shl_back xs nt x hdv hx
 obtain ⟨hmin,hwa,hwm,hm11,hgt,hs1,hb1,hb2⟩:=anew_nums na nt mn m1 hlt hmn hm1
 have HRR:=hid hd
 clear h hB hd hd1 hd2 hd3 hd4 hd5 hx hx0 hh hBl hlt hw1 hw2 hdv hxs hn1 hn2 hn3 hn4 hn5 hr1 hr2 hr3 hr4 hr5 hal hna hnt hm1 hmn
 go_enter Tryz.func238,Tryz.ntmps238
 go_wp2_with fail
 refine HG1.out.mono ?_
 rintro e w1 ⟨rfl,ht1,hc1⟩
 have HT1:=hid ht1
 have HC1:=hid hc1
 clear ht1 hc1
 go_wp2_with fail
 refine (HG2.out _ HT1.out).mono ?_
 rintro e w2 ⟨rfl,ht2,hc2⟩
 have HT2:=hid ht2
 have HC2:=hid (HC1.out.trans hc2 (fun _ _ e=>e))
 clear ht2 hc2
 go_wp2_with fail
 refine (HG3.out _ HT2.out).mono ?_
 rintro e w3 ⟨rfl,ht3,hc3⟩
 have HT3:=hid ht3
 have HC3:=hid (HC2.out.trans hc3 (fun _ _ e=>e))
 clear ht3 hc3
 go_wp2_with fail
 refine (HG4.out _ HT3.out).mono ?_
 rintro e w4 ⟨rfl,ht4,hc4⟩
 have HT4:=hid ht4
 have HC4:=hid (HC3.out.trans hc4 (fun _ _ e=>e))
 clear ht4 hc4
 go_wp2_with fail
 rw [decide_eq_false (show ¬(64:Int)<(na:Int)+(mn:Int) by omega)]
 refine (zdB _ tb).mono ?_
 rintro e w9 ⟨rfl,rfl⟩
 have c3:w4.cell? ⟨tb,3,none⟩=some (.int .i64 0):=by rw [zaa HT4.out.box];exact tkC_3 b now
 go_upto_region 15 with fail
 generalize hW:w4.alloc (.cells #[.int .i64 (na:Int),.int .i64 (nt:Int)] 337 (0,0))=W5
 have HX5:Hid (Ext w4 W5):=hid (by subst hW;exact (Ext.refl w4).alloc _)
 have HB6:Hid (W5.heap[w4.heap.size]?=some (.cells #[.int .i64 (na:Int),.int .i64 (nt:Int)] 337 (0,0))):=hid (by subst hW;exact heap_alloc_new w4 _)
 have HT5:=hid (HT4.out.ext HX5.out)
 have HNE:Hid (w4.heap.size≠b∧w4.heap.size≠tb):=hid (by have h1:=HT4.out.rd.lt;have h2:=zab HT4.out.box;omega)
 generalize w4.heap.size=g at HB6 HNE ⊢
 clear hW c3
 have x1:=zaf (T:=tkT b tb) (show W5.cell? ⟨g,1,none⟩=some (.int .i64 (nt:Int)) by have:=zaa HB6.out 1;simpa using this) (tkT_false HNE.out.1 HNE.out.2)
 refine zao 5 (fun w'=>∃z:Turned,w'=turned W5 (tkT b tb) z.d z.f z.os) (.reads [0,1,3,4] (.one 2 (.one 5 (.one 6 .done)))) (by kernel_rfl) (by kernel_rfl) (fun _ _ dd _ _ hh=>by cases dd<;>exact hh) ?_ ?_
 ·exact zad (Ext.drewN W5 1)
 refine zak ?_
 simp only [zac,yab,yaa]
 repeat (go_big_quiet_step (fail))
 refine yaF ?_
 clear x1
 change zaA _ _ _ _ _ _ _ _ (W5.drewN 1)
 have HXd:Hid (Ext W5 (W5.drewN 1)):=hid (Ext.drewN W5 1)
 generalize W5.drewN 1=Wd at HXd ⊢
 refine zae ?_
 simp only [zac,yab,yaa]
 go_wp2_with fail
 refine (HG5.out Wd (HT5.out.ext HXd.out)).mono ?_
 rintro e w6 ⟨rfl,ht6,hc6⟩
 have HT6:=hid ht6
 have HC6:=hid ((Chg.of_ext HXd.out).trans hc6 (fun _ _ e=>e))
 clear ht6 hc6
 go_wp2_with fail
 refine zal (zas (tkT_of HC6.out)) (zae ?_)
 simp only [zac,yab,yaa]
 go_wp2_with fail
 refine zau (zae ?_)
 simp only [zac,yab,yaa]
 go_wp2_with fail
 refine zau (zav ?_)
 have HB66:=hid ((HC6.out.block g (zab HB6.out) (fun e=>by have:=HNE.out;omega)).trans HB6.out)
 have HCC:=hid ((HC4.out.trans (Chg.of_ext (S:=fun _=>False) HX5.out) (fun _ _ e=>e.elim)).trans HC6.out (fun _ _ e=>e))
 clear HXd hshl hmin
 have HCE:Hid (∀(k:Nat) (u:Value),(winV now).toList[k]?=some u→w6.cell? ⟨tb,1+k,none⟩=some u):=hid (fun k u hu=>by
  rw [zaa HT6.out.box]
  exact tkC_mid b now k u hu)
 have HWI:Hid ((Tryz.prog.info? 337).map (·.size)=some (winV now).toList.length):=hid (by rw [Array.length_toList,winV_size];exact zaS)
 have g1:=zaW (P:=Tryz.prog) (ty:=337) HB66.out (T:=fun _=>false) rfl Tryz.underlying337 rfl zaS
 have g2:∀(d:Nat) (f:Nat→Obj) (os:Array Obj),(Instr.loadAt 337 (.pointer (some ⟨tb,1,none⟩))).run Tryz.prog (turned w6 (fun _=>false) d f os)=.ok (.agg (winV now)) (turned w6 (fun _=>false) d f os):=fun d f os=>by
  have h1:=run_loadAt_mid (P:=Tryz.prog) (turned w6 (fun _=>false) d f os) tb 1 337 (winV now).toList _ (fun k u hu=>zaf (T:=fun _=>false) (HCE.out k u hu) rfl d f os) Tryz.underlying337 rfl HWI.out
  simpa using h1
 have hne:=fun W=>neq_same (na:Int) (nt:Int) W
 have hgq:Tryz.prog.eqGuardType Tryz.prog.depth 337=false:=by kernel_rfl
 go_upto_region 16 with fail
 refine zao 17 (fun w'=>∃z:Turned,w'=turned w6 (fun _=>false) z.d z.f z.os) (.reads [0,1,2,3,4,6] (.one 5 (.reads [7,8,9,10,11,12,13,14] (.one 15 (.reads [16] (.one 17 .done)))))) (by kernel_rfl) (by kernel_rfl) (fun _ _ dd _ _ hh=>by cases dd<;>exact hh) ?_ ?_
 ·exact zad (Ext.drewN w6 1)
 refine zak ?_
 simp only [zac,yab,yaa]
 repeat (go_big_quiet_step (fail))
 (go_big_quiet_want;refine zaV _ _ rfl _ _ rfl (fun w hw=>by obtain ⟨z,rfl⟩:=hw;exact g1 z.d z.f z.os) ?_;go_big_quiet_on;simp only [Act.put,List.setIfInBounds_toArray,List.set_cons_succ,List.set_cons_zero])
 refine yaF ?_
 change zaA _ _ _ _ _ _ _ _ (w6.drewN 1)
 have HXd:Hid (Ext w6 (w6.drewN 1)):=hid (Ext.drewN w6 1)
 generalize w6.drewN 1=We at HXd ⊢
 refine zae ?_
 simp only [zac,yab,yaa]
 go_wp2_with fail
 refine (HOF.out _).mono ?_
 rintro e w7 ⟨rfl,hx7⟩
 have HX7:=hid (HXd.out.trans hx7)
 clear hx7 HXd
 go_wp2_with fail
 refine zal (zad HX7.out) (zak ?_)
 simp only [zac,yab,yaa]
 repeat (first
  | (go_big_quiet_want;refine zaV _ _ rfl _ _ rfl (fun w hw=>by obtain ⟨z,rfl⟩:=hw;exact g1 z.d z.f z.os) ?_;go_big_quiet_on;simp only [Act.put,List.setIfInBounds_toArray,List.set_cons_succ,List.set_cons_zero])
  | (go_big_quiet_want;refine zaV _ _ rfl _ _ rfl (fun w hw=>by obtain ⟨z,rfl⟩:=hw;exact g2 z.d z.f z.os) ?_;go_big_quiet_on;simp only [Act.put,List.setIfInBounds_toArray,List.set_cons_succ,List.set_cons_zero])
  | (go_big_quiet_step (fail)))
 refine yaF ?_
 clear hne
 refine zae ?_
 simp only [zac,yab,yaa]
 go_wp2_with fail
 refine (HHA.out _).mono ?_
 rintro e w8 ⟨rfl,hx8⟩
 have HX8:=hid (HX7.out.trans hx8)
 clear hx8 HX7
 go_wp2_with fail
 refine zal (zad HX8.out) (zak ?_)
 simp only [zac,yab,yaa]
 repeat (go_big_quiet_step (fail))
 refine yaF ?_
 refine zae ?_
 simp only [zac,yab,yaa]
 go_wp2_with fail
 refine (zdB _ tb).mono ?_
 rintro e w9 ⟨rfl,rfl⟩
 go_wp2_with fail
 refine zau (zav ?_)
 have HT8:=hid (HT6.out.ext HX8.out)
 have HB8:=hid ((HX8.out.block (zab HB66.out)).trans HB66.out)
 have HBT:=hid HT8.out.box
 have HPA:=hid (tkC_set b now na nt)
 have HSZ:=hid (tkC_size b now)
 have HC8:=hid (HCC.out.trans (Chg.of_ext (S:=fun _=>False) HX8.out) (fun _ _ e=>e.elim))
 clear g1 g2 hgq HX8
 go_wp2_with (first|(refine zat rfl _ _ rfl _ _ _ _ _ rfl HB8.out Tryz.underlying337 rfl zaS ?_)|(refine zbR rfl _ _ _ rfl _ _ _ _ (tkC b (some (na,nt))) _ rfl rfl HBT.out (by have:=HSZ.out;simp;omega) HPA.out zaS (by simp [Value.oneCell']) ?_;rintro V hbV hcV;have HBV:=hid hbV;have HCV:=hid hcV;clear hbV hcV))
 go_ret
 exact ⟨rfl,⟨HBV.out,by rw [HLEN.out];exact HT8.out.rd.above HCV.out (fun k e=>by have:=HT8.out.lt;omega),HT8.out.lt⟩,HC8.out.trans HCV.out (fun i _ e=>.inr e)⟩
theorem tnext_any (w:World) (tb b:Nat) (B:List UInt8) (L R:List Bool) (i x:Nat) (now:Option (Nat×Nat)) (h:XTkAt tb b B i now w) (hB:Bits B L) (hd:L.drop i=(zce now x).1++R) (hx:x<18446744073709551616) (hok:WinOk now) (hBl:B.length≤1048576) :
 Calls Tryz.prog 238 #[.pointer (some ⟨tb,0,none⟩)] w fun e w'=>e=.returned (.int .u64 (x:Int))∧XTkAt tb b B (i+(zce now x).1.length) (zce now x).2 w'∧Chg (fun k=>k=b∨k=tb) w w':=by
 by_cases h0:x=0
 ·subst h0
  have e:zce now 0=([false],now):=by unfold zce;rw [if_pos rfl]
  rw [e] at hd ⊢
  exact tnext_same w tb b B L R i now h hB hd hBl
 ·cases hh:hasW now (leadN x) (zba x) with
  | true =>
   obtain ⟨⟨na,nb'⟩,hna⟩:∃p,now=some p:=by cases now with|none=>cases hh|some p=>exact ⟨p,rfl⟩
   subst hna
   have e:zce (some (na,nb')) x=(againX (na,nb') x,some (na,nb')):=by unfold zce;rw [if_neg h0,if_pos hh];rfl
   rw [e] at hd ⊢
   unfold hasW at hh
   simp only [yaK,yaL] at hh
   exact tnext_again w tb b B L R i na nb' x h hB hd (by omega) hx hh.1 hh.2 hBl
  | false =>
   have e:zce now x=(anewX x,some (leadN x,zba x)):=by unfold zce;rw [if_neg h0,hh,if_neg (by simp)]
   rw [e] at hd ⊢
   exact tnext_anew w tb b B L R i x now h hB hd (by omega) hx hh hBl
theorem elem_zu:ElemOk Tryz.prog 291 186 1 8 :=
 ⟨Tryz.underlying291,by
   obtain ⟨i0,hi,hz0,hz1,hz2⟩:=info_parts (show (Tryz.prog.info? 186).map (fun i=>(i.zero,i.size,i.bytes))=some (some (.int .u64 0),1,8) from by kernel_rfl)
   exact ⟨i0,_,hi,hz0,hz1,hz2,rfl⟩,by decide⟩
theorem src_zu {W:World}{b:Nat}{z:Nat}{t:TypeId}{fr:Nat×Nat}(h:W.heap[b]?=some (.cells #[.int .u64 (z:Int)] t fr)):Src W 1 (.slice (some ⟨b,0,none⟩) 1 1) 1 (u64s [z]):=by
 refine .inr ⟨_,_,rfl,rfl,fun j u hj=>?_,by simp [u64s,Value.oneCell']⟩
 rw [yak,Nat.zero_add,zaa h]
 simpa [u64s] using hj
structure XdAt (w:World) (b tb:Nat) (B:List UInt8) (l:List Nat) (i:Nat) (oa:Option Addr) (oc:Nat) (w':World):Prop where
 ord:w.heap.size≤b
 tk:XTkAt tb b B (xvS (l.take i)).bits.length (xvS (l.take i)).now w'
 row:Row w' 186 1 (.slice oa i oc) i (u64s (l.take i))
 own:∀g,(Value.slice oa i oc).ownBlock=some g→tb<g
 ext:Ext w w'
theorem XdAt.next {w wr w3 w4:World}{b tb:Nat}{B:List UInt8}{l:List Nat}{i oc d1:Nat}{oa a1:Option Addr}{t:Nat}(h:XdAt w b tb B l i oa oc wr) (ht:l[i]?=some t)
 (htk:XTkAt tb b B (xvS (l.take (i+1))).bits.length (xvS (l.take (i+1))).now w3) (hc:Chg (fun k=>k=b∨k=tb) wr w3)
 {W:World}(hx:Ext w3 W) (ha:Appended W 186 1 (.slice oa i oc) (i+1) (u64s (l.take i)++u64s [t]) (.slice a1 (i+1) d1) w4):XdAt w b tb B l (i+1) a1 d1 w4:=by
 have hlt:=zab htk.box
 have hown:∀g,(Value.slice a1 (i+1) d1).ownBlock=some g→tb<g:=fun g hg=>by
  rcases ha.loc with e|e
  ·exact h.own g (e▸hg)
  ·rw [e] at hg;cases hg;have:=hx.size;omega
 have hC:Chg (fun k=>tb<k) w3 w4:=(Chg.of_ext hx).trans (ha.chg.mono (fun k _ e=>h.own k e)) (fun _ _ e=>e)
 refine ⟨h.ord,⟨(hC.block tb hlt (fun e=>by omega)).trans htk.box,htk.rd.above hC (fun k e=>by have:=htk.lt;omega),htk.lt⟩,?_,hown,?_⟩
 ·have h2:u64s (l.take (i+1))=u64s (l.take i)++u64s [t]:=by rw [yao,ht];simp [u64s]
  rw [h2];exact ha.row
 ·have:=h.ord
  have:=htk.lt
  exact (((Chg.of_ext (S:=fun k=>w.heap.size≤k) h.ext).trans hc (fun k _ e=>by omega)).trans hC (fun k _ e=>by omega)).ext (fun k hk e=>by omega)
theorem xdecode_any (w:World) (a:Option Addr) (m c:Nat) (B:List UInt8) (l:List Nat) (hs:Src w 1 (.slice a m c) m (u8s B)) (hB:Bits B (zbL l)) (hn:l.length≤4096) (hr:∀v∈l,v<18446744073709551616) :
 Calls Tryz.prog 198 #[.slice a m c,.int .i64 (l.length:Int)] w fun e w'=>∃v,e=.returned (.tuple #[v,.int .i64 0])∧MadeTo w 186 1 v l.length (u64s l) w':=by
 have hBl:B.length≤39936:=by have:=hB.len;have:=zdP l;omega
 have hm:m≤39936:=by have:=zax hs;omega
 have HNR:=hid (newReader_any w a m c B hs (by omega))
 have HB:=hid (And.intro hB hBl)
 have HRG:=hid hr
 obtain ⟨n,hnl⟩:∃n,n=l.length:=⟨_,rfl⟩
 have HN:=hid hnl
 rw [←hnl] at hn ⊢
 have hn1:¬(n:Int)<0:=by omega
 have hn2:¬4096<(n:Int):=by omega
 have hw8:IntKind.i64.wrap (8*(m:Int))=8*(m:Int):=IntWalk.i64_in _ (by omega)
 clear hs hB hBl hr hnl
 go_enter Tryz.func198,Tryz.ntmps198
 go_wp2_with fail
 refine HNR.out.mono ?_
 rintro e w1 ⟨b,rfl,hb,hrd,hx1⟩
 have HRD:=hid hrd
 have HX1:=hid hx1
 have HBB:=hid hb
 clear hb hrd hx1
 go_wp2_with fail
 refine (zcw w1).mono ?_
 rintro e w2 ⟨rfl,hx2⟩
 have HRD2:=hid (HRD.out.ext hx2)
 have HX2:=hid (HX1.out.trans hx2)
 clear hx2 hn1 hn2 hw8
 obtain ⟨W,hW⟩:∃W,W=w2.alloc (.cells #[.pointer (some ⟨b,0,none⟩),.int .i64 (-1),.int .i64 (-1),.int .i64 0] 365 (0,0)):=⟨_,rfl⟩
 have HXD:Hid (XdAt w b w2.heap.size B l 0 none 0 W):=hid (by
  rw [hW]
  exact ⟨HBB.out,⟨heap_alloc_new w2 _,by simpa [xvS] using HRD2.out.ext ((Ext.refl w2).alloc _),HRD2.out.lt⟩,by simpa [u64s] using Row.nil _ _ _,by simp [Value.ownBlock],HX2.out.alloc _⟩)
 go_wp2_with fail
 rw [←hW]
 generalize w2.heap.size=tb at HXD ⊢
 clear hW
 go_loopw [4,5,9,31] (fun s4 s5 s9 s31 wr=>∃(i oc:Nat) (oa:Option Addr),s4=.slice none 0 0∧s5=.int .i64 0∧s9=.slice oa i oc∧s31=.int .i64 (i:Int)∧i≤n∧Hid (XdAt w b tb B l i oa oc wr)) (fun _ _ _ t _=>n-(RowKit.intOf t).toNat)
 case atStart=>exact ⟨0,0,none,rfl,rfl,rfl,rfl,Nat.zero_le _,HXD⟩
 case round =>
  obtain ⟨i,oc,oa,rfl,rfl,rfl,rfl,hi,HI⟩:=hrel
  by_cases hlt:i<n
  ·obtain ⟨t,ht⟩:∃t,l[i]?=some t:=⟨_,yac (by have:=HN.out;omega)⟩
   have HT:=hid ht
   have hvt:=HRG.out t (yag ht)
   have HLA:=hid (xvS_last (l:=l) (i:=i) (by have:=HN.out;omega))
   have HNX:=hid (xvS_next ht)
   have HOKN:=hid (xvS_ok HRG.out i)
   obtain ⟨R,hd⟩:=xv_at ht
   have HD:=hid hd
   clear ht hd
   by_cases h0:i=0
   ·have hb0:((i:Int)==0)=true:=beq_iff_eq.2 (by omega)
    have hpa:zbo (xvS (l.take i)) t=(hiL 64 t,(xvS (l.take i)).now):=by unfold zbo;rw [HLA.out,if_pos h0]
    have hd:=HD.out
    rw [hpa] at hd
    have hnum:=HB.out.1.num hd
    rw [zaG,num_hiL,Nat.mod_eq_of_lt hvt] at hnum
    have hroom:=zby HB.out.1 hd (by intro e;have:=congrArg List.length e;rw [zaG] at this;simp at this)
    rw [zaG] at hroom
    have HG:=hid (zci wr tb b B _ 64 _ HI.out.tk (by decide) hroom (by have:=HB.out.2;omega))
    rw [hnum] at HG
    have HST:Hid ((xvS (l.take (i+1))).bits.length=(xvS (l.take i)).bits.length+64∧(xvS (l.take (i+1))).now=(xvS (l.take i)).now):=hid (by
     rw [HNX.out]
     constructor
     ·show ((xvS (l.take i)).bits++(zbo _ t).1).length=_;rw [hpa,yae,zaG]
     ·show (zbo _ t).2=_;rw [hpa])
    clear hpa hd hnum hroom h0 hvt
    go_wp2_with fail
    refine HG.out.mono ?_
    rintro e w3 ⟨rfl,ht3,hc3⟩
    have HTK:Hid (XTkAt tb b B (xvS (l.take (i+1))).bits.length (xvS (l.take (i+1))).now w3):=hid (by rw [HST.out.1,HST.out.2];exact ht3)
    have HC3:=hid hc3
    have HRW:=hid (HI.out.row.chg hc3 (fun g hg e=>by have:=HI.out.own g hg;have:=HI.out.tk.lt;omega))
    have c3:∀W,Chg (fun k=>tb<k) w3 W→W.cell? ⟨tb,2+1,none⟩=some (.int .i64 0):=fun W hx=>by
     rw [zaa ((hx.block tb (zab HTK.out.box) (fun e=>by omega)).trans HTK.out.box)];exact tkC_3 b _
    have HC3C:=hid c3
    clear ht3 hc3 c3
    go_upto_region 14 with (first|(at_builtin;go_must (refine zah elem_zu rfl _ _ rfl (n:=i) (m:=1) (v:=.slice _ _ _) rfl rfl (HRW.out.alloc _) (src_zu (heap_alloc_new _ _)) (by unfold maxLen;omega) (by omega) ?_;intro v' w4 happ);obtain ⟨a1,d1,rfl⟩:=happ.row.shape;have HX4:=hid (HI.out.next HT.out HTK.out HC3.out ((Ext.refl _).alloc _) happ);clear happ))
    have c3:w4.cell? ⟨tb,3,none⟩=some (.int .i64 0):=by rw [zaa HX4.out.tk.box];exact tkC_3 b _
    go_wp2_with fail
    go_roundw
    case rel=>exact ⟨i+1,d1,a1,rfl,rfl,by go_num,by go_num,by omega,HX4⟩
    case measure=>simp [RowKit.intOf];omega
   ·obtain ⟨j,hj⟩:∃j,j=i-1:=⟨_,rfl⟩
    obtain ⟨q,hq⟩:∃q,l[j]?=some q:=⟨_,yac (by have:=HN.out;omega)⟩
    have hvq:=HRG.out q (yag hq)
    obtain ⟨x,hx⟩:∃x,x=t ^^^ q:=⟨_,rfl⟩
    have hx64:x<18446744073709551616:=by rw [hx];exact Nat.xor_lt_two_pow (n:=64) hvt hvq
    have hxor:bits .xor .u64 (q:Int) (x:Int)=(t:Int):=by
     rw [bits_xor_u64_nat _ _ hvq hx64,hx,Nat.xor_comm t q,←Nat.xor_assoc,Nat.xor_self,Nat.zero_xor]
    have hpa:zbo (xvS (l.take i)) t=zce (xvS (l.take i)).now x:=by unfold zbo;rw [HLA.out,if_neg h0,←hj,hq,hx]
    have hd:=HD.out
    rw [hpa] at hd
    have HNXT:=hid (fun W (hW:Ext wr W)=>tnext_any W tb b B (zbL l) R _ x _ (HI.out.tk.ext hW) HB.out.1 hd hx64 HOKN.out (by have:=HB.out.2;omega))
    have HST:Hid ((xvS (l.take (i+1))).bits.length=(xvS (l.take i)).bits.length+(zce (xvS (l.take i)).now x).1.length∧(xvS (l.take (i+1))).now=(zce (xvS (l.take i)).now x).2):=hid (by
     rw [HNX.out]
     constructor
     ·show ((xvS (l.take i)).bits++(zbo _ t).1).length=_;rw [hpa,yae]
     ·show (zbo _ t).2=_;rw [hpa])
    have hb0:((i:Int)==0)=false:=yam.2 (by omega)
    have hjn:j<i:=by omega
    have hwj:IntKind.i64.wrap ((i:Int)-1)=(j:Int):=by rw [IntWalk.i64_in _ (by omega)];omega
    obtain ⟨zb,zo,z,hza,hz,z0⟩:=u64s_src (HI.out.row.src (u64s_one _)) hjn
    obtain rfl:z=q:=by rw [yaT,if_pos hjn,hq] at hz;exact (yaG hz).symm
    subst hza
    have hzb:tb<zb:=HI.out.own zb rfl
    have HLT:=hid HI.out.tk.lt
    have x0:=zaf (T:=tkT b tb) z0 (tkT_false (by have:=HLT.out;show zb≠b;omega) (by show zb≠tb;omega))
    have HXO:=hid hxor
    clear hpa hd hq hx hx64 hvq h0 hj hz z0 hvt hxor
    go_upto_region 13 with fail
    refine zao 10 (fun w'=>∃z:Turned,w'=turned wr (tkT b tb) z.d z.f z.os) (.reads [0,1,2,3,4,5,6] (.one 7 (.one 8 (.one 9 (.one 10 (.one 11 .done)))))) (by kernel_rfl) (by kernel_rfl) (fun _ _ dd _ _ hh=>by cases dd<;>exact hh) ?_ ?_
    ·exact zad (Ext.drewN wr 1)
    refine zak ?_
    simp only [zac,yab,yaa]
    repeat (go_big_quiet_step (fail))
    refine yaF ?_
    clear x0 hwj
    change zaA _ _ _ _ _ _ _ _ (wr.drewN 1)
    have HXd:Hid (Ext wr (wr.drewN 1)):=hid (Ext.drewN wr 1)
    generalize wr.drewN 1=Wd at HXd ⊢
    refine zae ?_
    simp only [zac,yab,yaa]
    go_wp2_with fail
    refine (HNXT.out Wd HXd.out).mono ?_
    rintro e w3 ⟨rfl,ht3,hc3⟩
    have HTK:Hid (XTkAt tb b B (xvS (l.take (i+1))).bits.length (xvS (l.take (i+1))).now w3):=hid (by rw [HST.out.1,HST.out.2];exact ht3)
    have HC3:=hid ((Chg.of_ext HXd.out).trans hc3 (fun _ _ e=>e))
    have HRW:=hid (HI.out.row.chg HC3.out (fun g hg e=>by have:=HI.out.own g hg;have:=HI.out.tk.lt;omega))
    clear ht3 hc3 HXd
    go_wp2_with fail
    refine zal (zas (tkT_of HC3.out)) (zae ?_)
    simp only [zac,yab,yaa]
    have hxor:=HXO.out
    go_wp2_with fail
    clear hxor
    refine zal (zas (tkT_of HC3.out)) (zae ?_)
    simp only [zac,yab,yaa]
    go_wp2_with fail
    refine zal (zas (tkT_of (HC3.out.trans (Chg.of_ext (S:=fun _=>False) ((Ext.refl w3).alloc _)) (fun _ _ e=>e.elim)))) (zae ?_)
    simp only [zac,yab,yaa]
    go_wp2_with (at_builtin;go_must (refine zah elem_zu rfl _ _ rfl (n:=i) (m:=1) (v:=.slice _ _ _) rfl rfl (HRW.out.alloc _) (src_zu (heap_alloc_new _ _)) (by unfold maxLen;omega) (by omega) ?_;intro v' w4 happ);obtain ⟨a1,d1,rfl⟩:=happ.row.shape;have HX4:=hid (HI.out.next HT.out HTK.out HC3.out ((Ext.refl _).alloc _) happ);clear happ)
    refine zau (zae ?_)
    simp only [zac,yab,yaa]
    go_wp2_with fail
    refine zau (zav ?_)
    have c3:w4.cell? ⟨tb,3,none⟩=some (.int .i64 0):=by rw [zaa HX4.out.tk.box];exact tkC_3 b _
    go_wp2_with fail
    go_roundw
    case rel=>exact ⟨i+1,d1,a1,rfl,rfl,by go_num,by go_num,by omega,HX4⟩
    case measure=>simp [RowKit.intOf];omega
  ·have HE:Hid (l.take i=l):=hid (yai (by have:=HN.out;omega))
   have hin:i=n:=by omega
   subst hin
   have htk:=HI.out.tk
   have hvx:(xvS (l.take i)).bits=zbL l:=by rw [HE.out];rfl
   rw [hvx] at htk
   have hlen:=HB.out.1.len
   obtain ⟨r,hr⟩:∃r,r=8*B.length-(zbL l).length:=⟨_,rfl⟩
   have hr8:r<8:=by omega
   have HLF:=hid (left_any wr b B (zbL l).length htk.rd (by omega) (by have:=HB.out.2;omega))
   rw [←hr] at HLF
   have HGT:=hid (fun W (hT:XTkAt tb b B (zbL l).length (xvS (l.take i)).now W)=>zci W tb b B _ r _ hT (by omega) (by omega) (by have:=HB.out.2;omega))
   rw [HB.out.1.num0 (Nat.le_refl _)] at HGT
   have HTK:=hid htk
   have hr8':¬(8:Int)≤(r:Int):=by omega
   have hmin:min (r:Int) 64=(r:Int):=by omega
   clear htk hvx hlen hr
   go_wp2_with fail
   refine HLF.out.mono ?_
   rintro e w3 ⟨rfl,hx3⟩
   have HTK3:=hid (HTK.out.ext hx3)
   have HX3:=hid hx3
   clear hx3
   go_wp2_with fail
   refine (HGT.out w3 HTK3.out).mono ?_
   rintro e w4 ⟨rfl,ht4,hc4⟩
   have HTK4:=hid ht4
   have HC4:=hid ((Chg.of_ext HX3.out).trans hc4 (fun _ _ e=>e))
   clear ht4 hc4
   go_wp2_with fail
   rw [decide_eq_false (show ¬(8:Int)≤(r:Int) by omega)]
   refine (zdB _ tb).mono ?_
   rintro e w5 ⟨rfl,rfl⟩
   have c3:w4.cell? ⟨tb,3,none⟩=some (.int .i64 0):=by rw [zaa HTK4.out.box];exact tkC_3 b _
   go_wp2_with fail
   go_ret2
   refine ⟨_,rfl,?_,fun g hg=>by have:=HI.out.own g hg;have:=HI.out.ord;have:=HI.out.tk.lt;omega,?_⟩
   ·have h1:=HI.out.row.chg HC4.out (fun g hg e=>by have:=HI.out.own g hg;have:=HI.out.tk.lt;omega)
    rw [HE.out] at h1
    exact h1
   ·have:=HI.out.ord
    have:=HI.out.tk.lt
    exact ((Chg.of_ext (S:=fun k=>w.heap.size≤k) HI.out.ext).trans HC4.out (fun k _ e=>by omega)).ext (fun k hk e=>by omega)
end
section
open Go.RowKit Go.Sort Go.Lib
theorem zints_snoc (l k:List Int):zints (l++k)=zints l++zints k:=by simp [zints]
def offC (n b k:Nat):Bool:=decide (n≤k)&&decide (k≠b)
structure Rows3c (w:World) (A:List Int) (V:List Nat) (S:List Int) (tv vv sv:Value) (wr:World):Prop where
 ra:Row wr 3 1 tv A.length (zints A)
 rv:Row wr 186 1 vv V.length (u64s V)
 rs:Row wr 3 1 sv S.length (zints S)
 own:∀g,(tv.ownBlock=some g∨vv.ownBlock=some g∨sv.ownBlock=some g)→w.heap.size≤g
 d1:∀g,tv.ownBlock=some g→vv.ownBlock≠some g
 d2:∀g,tv.ownBlock=some g→sv.ownBlock≠some g
 d3:∀g,vv.ownBlock=some g→sv.ownBlock≠some g
 ext:Ext w wr
theorem Rows3c.lt {w wr:World}{A:List Int}{V:List Nat}{S:List Int}{tv vv sv:Value}(h:Rows3c w A V S tv vv sv wr) {g:Nat}(hg:tv.ownBlock=some g∨vv.ownBlock=some g∨sv.ownBlock=some g):g<wr.heap.size:=by
 rcases hg with hg|hg|hg
 ·exact h.ra.lt hg
 ·exact h.rv.lt hg
 ·exact h.rs.lt hg
theorem Rows3c.mono {w wr w1:World}{A:List Int}{V:List Nat}{S:List Int}{tv vv sv:Value}(h:Rows3c w A V S tv vv sv wr) (hx:Ext wr w1):Rows3c w A V S tv vv sv w1 :=
 ⟨h.ra.ext hx,h.rv.ext hx,h.rs.ext hx,h.own,h.d1,h.d2,h.d3,h.ext.trans hx⟩
theorem Appended.own {w w':World}{e:TypeId}{size k:Nat}{v v':Value}{ys:List Value}(h:Appended w e size v k ys v' w') {g:Nat}(hg:v'.ownBlock=some g):v.ownBlock=some g∨g=w.heap.size:=by
 rcases h.loc with e|e
 ·exact .inl (by rw [←e];exact hg)
 ·rw [e] at hg;simp at hg;exact .inr hg.symm
section
variable {w wr w1 w2:World} {A S:List Int} {V:List Nat} {tv vv sv v':Value}
theorem Rows3c.addA {z:Int}(h:Rows3c w A V S tv vv sv wr) (ha:Appended wr 3 1 tv (A.length+1) (zints A++zints [z]) v' w2):Rows3c w (A++[z]) V S v' vv sv w2:=by
 have hc:=ha.chg
 have hs:=h.ext.size
 refine ⟨?_,h.rv.chg hc (fun g hg e=>h.d1 g e hg),h.rs.chg hc (fun g hg e=>h.d2 g e hg),fun g hg=>?_,fun g hg e=>?_,fun g hg e=>?_,h.d3,((Chg.of_ext (S:=fun b=>tv.ownBlock=some b) h.ext).trans hc (fun _ _ e=>e)).ext (fun i hi e=>by have:=h.own i (.inl e);omega)⟩
 ·have:=ha.row
  rw [zints_snoc,yae];exact this
 ·rcases hg with hg|hg
  ·rcases ha.own hg with e|e
   ·exact h.own g (.inl e)
   ·omega
  ·exact h.own g (.inr hg)
 ·rcases ha.own hg with e2|e2
  ·exact h.d1 g e2 e
  ·have:=h.rv.lt e;omega
 ·rcases ha.own hg with e2|e2
  ·exact h.d2 g e2 e
  ·have:=h.rs.lt e;omega
theorem Rows3c.addV {z:Nat}(h:Rows3c w A V S tv vv sv wr) (ha:Appended wr 186 1 vv (V.length+1) (u64s V++u64s [z]) v' w2):Rows3c w A (V++[z]) S tv v' sv w2:=by
 have hc:=ha.chg
 have hs:=h.ext.size
 refine ⟨h.ra.chg hc (fun g hg e=>h.d1 g hg e),?_,h.rs.chg hc (fun g hg e=>h.d3 g e hg),fun g hg=>?_,fun g hg e=>?_,h.d2,fun g hg e=>?_,((Chg.of_ext (S:=fun b=>vv.ownBlock=some b) h.ext).trans hc (fun _ _ e=>e)).ext (fun i hi e=>by have:=h.own i (.inr (.inl e));omega)⟩
 ·have:=ha.row
  rw [u64s_append,yae];exact this
 ·rcases hg with hg|hg|hg
  ·exact h.own g (.inl hg)
  ·rcases ha.own hg with e|e
   ·exact h.own g (.inr (.inl e))
   ·omega
  ·exact h.own g (.inr (.inr hg))
 ·rcases ha.own e with e2|e2
  ·exact h.d1 g hg e2
  ·have:=h.ra.lt hg;omega
 ·rcases ha.own hg with e2|e2
  ·exact h.d3 g e2 e
  ·have:=h.rs.lt e;omega
theorem Rows3c.addS {z:Int}(h:Rows3c w A V S tv vv sv wr) (ha:Appended wr 3 1 sv (S.length+1) (zints S++zints [z]) v' w2):Rows3c w A V (S++[z]) tv vv v' w2:=by
 have hc:=ha.chg
 have hs:=h.ext.size
 refine ⟨h.ra.chg hc (fun g hg e=>h.d2 g hg e),h.rv.chg hc (fun g hg e=>h.d3 g hg e),?_,fun g hg=>?_,h.d1,fun g hg e=>?_,fun g hg e=>?_,((Chg.of_ext (S:=fun b=>sv.ownBlock=some b) h.ext).trans hc (fun _ _ e=>e)).ext (fun i hi e=>by have:=h.own i (.inr (.inr e));omega)⟩
 ·have:=ha.row
  rw [zints_snoc,yae];exact this
 ·rcases hg with hg|hg|hg
  ·exact h.own g (.inl hg)
  ·exact h.own g (.inr (.inl hg))
  ·rcases ha.own hg with e|e
   ·exact h.own g (.inr (.inr e))
   ·omega
 ·rcases ha.own e with e2|e2
  ·exact h.d2 g hg e2
  ·have:=h.ra.lt hg;omega
 ·rcases ha.own e with e2|e2
  ·exact h.d3 g hg e2
  ·have:=h.rv.lt hg;omega
end
structure LitC (wi:World) (b pb:Nat) (cs:Array Value) (t:TypeId) (tv vv sv:Value):Prop where
 blk:wi.heap[b]?=some (.cells cs t (0,0))
 n1:tv.ownBlock≠some b
 n2:vv.ownBlock≠some b
 n3:sv.ownBlock≠some b
theorem LitC.mono {wi w':World}{b pb:Nat}{cs:Array Value}{t:TypeId}{tv vv sv:Value}(h:LitC wi b pb cs t tv vv sv) (hx:Ext wi w'):LitC w' b pb cs t tv vv sv:=⟨(hx.block (zab h.blk)).trans h.blk,h.n1,h.n2,h.n3⟩
structure ApC (w w3:World) (pb:Nat) (x y:Int) (z:Nat) (A:List Int) (V:List Nat) (S:List Int) (tv vv sv:Value) (ba bv bs:Option Nat) (wi:World):Prop where
 chg:Chg (fun k=>offC w.heap.size pb k=true) w3 wi
 r:Rows3c w A V S tv vv sv wi
 np:∀g,(tv.ownBlock=some g∨vv.ownBlock=some g∨sv.ownBlock=some g)→g≠pb
 lp:pb<wi.heap.size
 la:∀b,ba=some b→LitC wi b pb #[.int .i64 x] 3 tv vv sv
 lv:∀b,bv=some b→LitC wi b pb #[.int .u64 (z:Int)] 186 tv vv sv
 ls:∀b,bs=some b→LitC wi b pb #[.int .i64 y] 3 tv vv sv
section
variable {w w3 wi w2:World} {pb b z:Nat} {x y:Int} {A S:List Int} {V:List Nat} {tv vv sv v':Value} {ba bv bs:Option Nat}
theorem Rows3c.lit (h:Rows3c w A V S tv vv sv wi) (cs:Array Value) (t:TypeId):LitC (wi.alloc (.cells cs t (0,0))) wi.heap.size pb cs t tv vv sv :=
 ⟨heap_alloc_new wi _,fun e=>by have:=h.ra.lt e;omega,fun e=>by have:=h.rv.lt e;omega,fun e=>by have:=h.rs.lt e;omega⟩
theorem ApC.allocA (h:ApC w w3 pb x y z A V S tv vv sv none bv bs wi):ApC w w3 pb x y z A V S tv vv sv (some wi.heap.size) bv bs (wi.alloc (.cells #[.int .i64 x] 3 (0,0))) :=
 have hx:=(Ext.refl wi).alloc (.cells #[.int .i64 x] 3 (0,0))
 ⟨h.chg.alloc _,h.r.mono hx,h.np,yan h.lp hx.size,(fun b e=>by cases e;exact h.r.lit _ _),fun b e=>(h.lv b e).mono hx,fun b e=>(h.ls b e).mono hx⟩
theorem ApC.allocV (h:ApC w w3 pb x y z A V S tv vv sv ba none bs wi):ApC w w3 pb x y z A V S tv vv sv ba (some wi.heap.size) bs (wi.alloc (.cells #[.int .u64 (z:Int)] 186 (0,0))) :=
 have hx:=(Ext.refl wi).alloc (.cells #[.int .u64 (z:Int)] 186 (0,0))
 ⟨h.chg.alloc _,h.r.mono hx,h.np,yan h.lp hx.size,fun b e=>(h.la b e).mono hx,(fun b e=>by cases e;exact h.r.lit _ _),fun b e=>(h.ls b e).mono hx⟩
theorem ApC.allocS (h:ApC w w3 pb x y z A V S tv vv sv ba bv none wi):ApC w w3 pb x y z A V S tv vv sv ba bv (some wi.heap.size) (wi.alloc (.cells #[.int .i64 y] 3 (0,0))) :=
 have hx:=(Ext.refl wi).alloc (.cells #[.int .i64 y] 3 (0,0))
 ⟨h.chg.alloc _,h.r.mono hx,h.np,yan h.lp hx.size,fun b e=>(h.la b e).mono hx,fun b e=>(h.lv b e).mono hx,(fun b e=>by cases e;exact h.r.lit _ _)⟩
theorem LitC.app {cs:Array Value}{t t':TypeId}{size n:Nat}{v:Value}{xs:List Value}(h:LitC wi b pb cs t tv vv sv) (ha:Appended wi t' size v n xs v' w2) (hv':v.ownBlock≠some b):w2.heap[b]?=some (.cells cs t (0,0))∧v'.ownBlock≠some b :=
 ⟨(ha.chg.block b (zab h.blk) hv').trans h.blk,fun e=>by
   rcases ha.own e with e2|e2
   ·exact hv' e2
   ·have:=zab h.blk;omega⟩
theorem ApC.turn {t:TypeId}{size n:Nat}{v:Value}{xs:List Value}(h:ApC w w3 pb x y z A V S tv vv sv ba bv bs wi) (ha:Appended wi t size v n xs v' w2) (hv:∀g,v.ownBlock=some g→tv.ownBlock=some g∨vv.ownBlock=some g∨sv.ownBlock=some g):Chg (fun k=>offC w.heap.size pb k=true) w3 w2 :=
 h.chg.trans ha.chg (fun i hi e=>by
  have h1:=h.r.own i (hv i e)
  have h2:=h.np i (hv i e)
  unfold offC;simp [h1,h2])
theorem ApC.appA (h:ApC w w3 pb x y z A V S tv vv sv ba bv bs wi) (ha:Appended wi 3 1 tv (A.length+1) (zints A++zints [x]) v' w2):ApC w w3 pb x y z (A++[x]) V S v' vv sv none bv bs w2 :=
 ⟨h.turn ha (fun g e=>.inl e),h.r.addA ha,(fun g e=>by
   rcases e with e|e
   ·rcases ha.own e with e|e
    ·exact h.np g (.inl e)
    ·have:=h.lp;omega
   ·exact h.np g (.inr e)),yan h.lp ha.chg.size,(fun b e=>by cases e),
   fun b e=>⟨((h.lv b e).app ha (h.lv b e).n1).1,((h.lv b e).app ha (h.lv b e).n1).2,(h.lv b e).n2,(h.lv b e).n3⟩,
   fun b e=>⟨((h.ls b e).app ha (h.ls b e).n1).1,((h.ls b e).app ha (h.ls b e).n1).2,(h.ls b e).n2,(h.ls b e).n3⟩⟩
theorem ApC.appV (h:ApC w w3 pb x y z A V S tv vv sv ba bv bs wi) (ha:Appended wi 186 1 vv (V.length+1) (u64s V++u64s [z]) v' w2):ApC w w3 pb x y z A (V++[z]) S tv v' sv ba none bs w2 :=
 ⟨h.turn ha (fun g e=>.inr (.inl e)),h.r.addV ha,(fun g e=>by
   rcases e with e|e|e
   ·exact h.np g (.inl e)
   ·rcases ha.own e with e|e
    ·exact h.np g (.inr (.inl e))
    ·have:=h.lp;omega
   ·exact h.np g (.inr (.inr e))),yan h.lp ha.chg.size,
   fun b e=>⟨((h.la b e).app ha (h.la b e).n2).1,(h.la b e).n1,((h.la b e).app ha (h.la b e).n2).2,(h.la b e).n3⟩,(fun b e=>by cases e),
   fun b e=>⟨((h.ls b e).app ha (h.ls b e).n2).1,(h.ls b e).n1,((h.ls b e).app ha (h.ls b e).n2).2,(h.ls b e).n3⟩⟩
theorem ApC.appS (h:ApC w w3 pb x y z A V S tv vv sv ba bv bs wi) (ha:Appended wi 3 1 sv (S.length+1) (zints S++zints [y]) v' w2):ApC w w3 pb x y z A V (S++[y]) tv vv v' ba bv none w2 :=
 ⟨h.turn ha (fun g e=>.inr (.inr e)),h.r.addS ha,(fun g e=>by
   rcases e with e|e|e
   ·exact h.np g (.inl e)
   ·exact h.np g (.inr (.inl e))
   ·rcases ha.own e with e|e
    ·exact h.np g (.inr (.inr e))
    ·have:=h.lp;omega),yan h.lp ha.chg.size,
   fun b e=>⟨((h.la b e).app ha (h.la b e).n3).1,(h.la b e).n1,(h.la b e).n2,((h.la b e).app ha (h.la b e).n3).2⟩,
   fun b e=>⟨((h.lv b e).app ha (h.lv b e).n3).1,(h.lv b e).n1,(h.lv b e).n2,((h.lv b e).app ha (h.lv b e).n3).2⟩,(fun b e=>by cases e)⟩
end
end
section
open Go.RowKit Go.Sort Go.Lib
theorem zcr {l:List Pt}(h:colV l=true):0<l.length∧l.length≤4096:=by
 unfold colV at h
 simp at h
 exact ⟨by omega,by omega⟩
theorem t3_0 (x y z:Value) (w:World):(Instr.index 294 (.agg #[x,y,z]) (.int .i64 0)).run Tryz.prog w=.ok x w:=by kernel_rfl
theorem t3_1 (x y z:Value) (w:World):(Instr.index 294 (.agg #[x,y,z]) (.int .i64 1)).run Tryz.prog w=.ok y w:=by kernel_rfl
theorem t3_2 (x y z:Value) (w:World):(Instr.index 294 (.agg #[x,y,z]) (.int .i64 2)).run Tryz.prog w=.ok z w:=by kernel_rfl
def txtL (x:List UInt8):List UInt8:=varP x.length++x
def zaP (A V S:List UInt8) (k:Nat):List UInt8:=(if 0<k then txtL A else [])++(if 1<k then txtL V else [])++(if 2<k then txtL S else [])
def colL (n:Nat) (A V S:List UInt8):List UInt8:=varP n++zaP A V S 3
theorem texts3_0 (A V S:List UInt8):zaP A V S 1=zaP A V S 0++txtL A:=by simp [zaP]
theorem texts3_1 (A V S:List UInt8):zaP A V S 2=zaP A V S 1++txtL V:=by simp [zaP]
theorem texts3_2 (A V S:List UInt8):zaP A V S 3=zaP A V S 2++txtL S:=by simp [zaP]
theorem zcj {w:World}{e:TypeId}{size n m c:Nat}{a:Option Addr}{xs:List Value}(h:Row w e size (.slice a m c) n xs):m≤c:=by
 obtain ⟨_,⟨e,_⟩|⟨g,cap,cur,e,_,_,h2,_⟩⟩:=h
 ·simp at e;omega
 ·simp at e;omega
theorem head_len {A V S:List UInt8}{i:Nat}(hA:A.length≤40000) (hV:V.length≤40000) (hS:S.length≤40000) (hi:i≤4096) (k:Nat):(varP i++zaP A V S k).length≤121000:=by
 have h1:=zcc 3 A.length (by omega) (by omega)
 have h2:=zcc 3 V.length (by omega) (by omega)
 have h3:=zcc 3 S.length (by omega) (by omega)
 have h4:=zcc 3 i (by omega) (by omega)
 unfold zaP txtL
 simp only [yae]
 split<;>split<;>split<;>simp<;>omega
theorem bits_le {B:List UInt8}{L:List Bool}(h:Bits B L) (hL:L.length≤319488):B.length≤40000:=by
 have:=h.len
 omega
theorem colEncode_any (w:World) (a:Option Addr) (n c:Nat) (l:List Pt) (hl:Src w 3 (.slice a n c) n (pts l)) (hv:colV l=true) :
 Calls Tryz.prog 120 #[.slice a n c] w fun e w'=>∃A V S:List UInt8,Bits A (zcv (l.map Pt.t))∧Bits V (zbL (l.map fun p=>u64N p.v))∧Bits S (zcv (l.map Pt.s))∧SealPost w 3 (colL n A V S) e w':=by
 have HL:=hid hl
 have LN:=hid (zbI hl)
 have hn:n≤4096:=by have:=zcr hv;have:=zbI hl;omega
 have HV:=hid (fun W (h:Src W 3 (.slice a n c) n (pts l))=>colValid_any W a n c l h (by omega))
 rw [hv] at HV
 clear hl hv
 go_enter Tryz.func120,Tryz.ntmps120
 go_wp2_with fail
 refine (HV.out w HL.out).mono ?_
 rintro e w1 ⟨rfl,hx1⟩
 have HX1:=hid hx1
 clear hx1
 go_wp2_with fail
 go_loopw [4,5,6,23] (fun s4 s5 s6 s23 wr=>∃(i:Nat) (ta sa va:Option Addr) (tc sc vc:Nat),s4=.slice ta i tc∧s5=.slice sa i sc∧s6=.slice va i vc∧s23=.int .i64 (i:Int)∧i≤n∧Hid (Rows3c w1 ((l.take i).map Pt.t) ((l.take i).map fun p=>u64N p.v) ((l.take i).map Pt.s) (.slice ta i tc) (.slice va i vc) (.slice sa i sc) wr)) (fun _ _ _ t _=>n-(RowKit.intOf t).toNat)
 case atStart=>exact ⟨0,none,none,none,0,0,0,rfl,rfl,rfl,rfl,Nat.zero_le _,hid ⟨Row.nil _ _ _,Row.nil _ _ _,Row.nil _ _ _,fun g hg=>by simp [Value.ownBlock] at hg,fun g hg=>by simp [Value.ownBlock] at hg,fun g hg=>by simp [Value.ownBlock] at hg,fun g hg=>by simp [Value.ownBlock] at hg,Ext.refl _⟩⟩
 case round =>
  obtain ⟨i,ta,sa,va,tc,sc,vc,rfl,rfl,rfl,rfl,hi,HR⟩:=hrel
  by_cases hlt:i<n
  ·obtain ⟨pb,po,⟨pt,pv,ps⟩,rfl,hp,p0,p1,p2⟩:=zbz (HL.out.ext (HX1.out.trans HR.out.ext)) hlt
   simp only at p0 p1 p2
   have HP:=hid hp
   clear hp
   go_wp2_with fail
   generalize hW3:World.alloc _ _=w3
   have HX3:Hid (Ext wr w3):=hid (by subst hW3;exact (Ext.refl _).alloc _)
   have hq:w3.heap[wr.heap.size]?=some (.cells #[.int .i64 pt,.int .i64 pv,.int .i64 ps] 76 (0,0)):=by subst hW3;exact heap_alloc_new wr _
   clear hW3
   obtain ⟨q,hqq⟩:∃q,q=wr.heap.size:=⟨_,rfl⟩
   rw [←hqq] at hq ⊢
   have HQ:=hid (And.intro hqq hq)
   have y0:=zaa hq 0
   have y1:=zaa hq 1
   have y2:=zaa hq 2
   simp at y0 y1 y2
   have f0:=zaf (T:=offC w1.heap.size q) y0 (by simp [offC])
   have f1:=zaf (T:=offC w1.heap.size q) y1 (by simp [offC])
   have f2:=zaf (T:=offC w1.heap.size q) y2 (by simp [offC])
   clear p0 p1 p2 hqq hq
   refine zao 18 (fun w'=>∃p:Turned,w'=turned w3 (offC w1.heap.size q) p.d p.f p.os) (.reads [0,1,2,5,6,7,8,11,12,13] (.three 3 (.three 4 (.two 9 (.two 10 (.one 14 (.one 15 (.one 16 (.one 17 (.one 18 .done))))) 14 (.one 10 (.one 15 (.one 16 (.one 17 (.one 18 .done)))))) 14 (.one 9 (.one 10 (.one 15 (.one 16 (.one 17 (.one 18 .done))))))) 9 (.two 4 (.two 10 (.one 14 (.one 15 (.one 16 (.one 17 (.one 18 .done))))) 14 (.one 10 (.one 15 (.one 16 (.one 17 (.one 18 .done)))))) 14 (.one 4 (.one 10 (.one 15 (.one 16 (.one 17 (.one 18 .done))))))) 14 (.two 4 (.one 9 (.one 10 (.one 15 (.one 16 (.one 17 (.one 18 .done)))))) 9 (.one 4 (.one 10 (.one 15 (.one 16 (.one 17 (.one 18 .done)))))))) 9 (.two 3 (.two 4 (.two 10 (.one 14 (.one 15 (.one 16 (.one 17 (.one 18 .done))))) 14 (.one 10 (.one 15 (.one 16 (.one 17 (.one 18 .done)))))) 14 (.one 4 (.one 10 (.one 15 (.one 16 (.one 17 (.one 18 .done))))))) 14 (.one 3 (.one 4 (.one 10 (.one 15 (.one 16 (.one 17 (.one 18 .done)))))))) 14 (.two 3 (.two 4 (.one 9 (.one 10 (.one 15 (.one 16 (.one 17 (.one 18 .done)))))) 9 (.one 4 (.one 10 (.one 15 (.one 16 (.one 17 (.one 18 .done))))))) 9 (.one 3 (.one 4 (.one 10 (.one 15 (.one 16 (.one 17 (.one 18 .done)))))))))) (by kernel_rfl) (by kernel_rfl) (fun _ _ dd _ _ hh=>by cases dd<;>exact hh) ?_ ?_
   ·exact zad (Ext.drewN w3 1)
   refine zak ?_
   simp only [zac,yab,yaa]
   repeat (go_big_quiet_step (fail))
   refine yaF ?_
   clear f0 f1 f2 y0 y1 y2
   generalize hw4:(World.mk _ _ _ _ _:World)=w4
   have HX4:Hid (Ext w3 w4):=hid (by rw [←hw4];exact Ext.drewN w3 1)
   clear hw4
   rw [u64N_u64]
   have HLA:Hid (((l.take i).map Pt.t).length=i):=hid (by have:=LN.out;simp;omega)
   have HLV:Hid (((l.take i).map fun p=>u64N p.v).length=i):=hid (by have:=LN.out;simp;omega)
   have HLS:Hid (((l.take i).map Pt.s).length=i):=hid (by have:=LN.out;simp;omega)
   have HA:Hid (ApC w1 w3 q pt ps (u64N pv) ((l.take i).map Pt.t) ((l.take i).map fun p=>u64N p.v) ((l.take i).map Pt.s) (.slice ta i tc) (.slice va i vc) (.slice sa i sc) none none none w4):=hid ⟨Chg.of_ext HX4.out,(HR.out.mono HX3.out).mono HX4.out,(fun g hg e=>by have:=HR.out.lt hg;have:=HQ.out.1;omega),(by have:=zab HQ.out.2;have:=HX4.out.size;omega),(fun b e=>by cases e),(fun b e=>by cases e),(fun b e=>by cases e)⟩
   refine wpPlan_three ?_ ?_ ?_
   all_goals
    as_aux_lemma =>
     simp only [zac,yab,yaa]
     first
      | (refine zah (n:=i) (m:=1) elem_zi rfl _ _ rfl (v:=.slice _ _ _) rfl rfl (by have h:=HA.out.r.ra;rw [HLA.out] at h;exact h) (src_zi (HA.out.la _ rfl).blk) (by unfold maxLen;omega) (by omega) ?_
         intro v' wn happ
         have HB:=hid (HA.out.appA (by rw [HLA.out];exact happ))
         clear HA
         have HA:=HB
         obtain ⟨va,vc,rfl⟩:=happ.row.shape
         clear happ HB
         go_wp2_with fail
         refine zal (zas HA.out.chg) ?_)
      | (refine zah (n:=i) (m:=1) elem_zu rfl _ _ rfl (v:=.slice _ _ _) rfl rfl (by have h:=HA.out.r.rv;rw [HLV.out] at h;exact h) (src_zu (HA.out.lv _ rfl).blk) (by unfold maxLen;omega) (by omega) ?_
         intro v' wn happ
         have HB:=hid (HA.out.appV (by rw [HLV.out];exact happ))
         clear HA
         have HA:=HB
         obtain ⟨va,vc,rfl⟩:=happ.row.shape
         clear happ HB
         go_wp2_with fail
         refine zal (zas HA.out.chg) ?_)
      | (refine zah (n:=i) (m:=1) elem_zi rfl _ _ rfl (v:=.slice _ _ _) rfl rfl (by have h:=HA.out.r.rs;rw [HLS.out] at h;exact h) (src_zi (HA.out.ls _ rfl).blk) (by unfold maxLen;omega) (by omega) ?_
         intro v' wn happ
         have HB:=hid (HA.out.appS (by rw [HLS.out];exact happ))
         clear HA
         have HA:=HB
         obtain ⟨va,vc,rfl⟩:=happ.row.shape
         clear happ HB
         go_wp2_with fail
         refine zal (zas HA.out.chg) ?_)
      | (go_wp2_with fail
         generalize hW:World.alloc _ _=wn
         first
          | (have HB:=hid HA.out.allocA;rw [hW] at HB;clear HA hW;have HA:=HB;clear HB;refine zal (zas HA.out.chg) ?_)
          | (have HB:=hid HA.out.allocV;rw [hW] at HB;clear HA hW;have HA:=HB;clear HB;refine zal (zas HA.out.chg) ?_)
          | (have HB:=hid HA.out.allocS;rw [hW] at HB;clear HA hW;have HA:=HB;clear HB;refine zal (zas HA.out.chg) ?_))
     first|refine wpPlan_three ?_ ?_ ?_|refine wpPlan_two ?_ ?_|refine zae ?_
     all_goals
      as_aux_lemma =>
       simp only [zac,yab,yaa]
       first
        | (refine zah (n:=i) (m:=1) elem_zi rfl _ _ rfl (v:=.slice _ _ _) rfl rfl (by have h:=HA.out.r.ra;rw [HLA.out] at h;exact h) (src_zi (HA.out.la _ rfl).blk) (by unfold maxLen;omega) (by omega) ?_
           intro v' wn happ
           have HB:=hid (HA.out.appA (by rw [HLA.out];exact happ))
           clear HA
           have HA:=HB
           obtain ⟨va,vc,rfl⟩:=happ.row.shape
           clear happ HB
           go_wp2_with fail
           refine zal (zas HA.out.chg) ?_)
        | (refine zah (n:=i) (m:=1) elem_zu rfl _ _ rfl (v:=.slice _ _ _) rfl rfl (by have h:=HA.out.r.rv;rw [HLV.out] at h;exact h) (src_zu (HA.out.lv _ rfl).blk) (by unfold maxLen;omega) (by omega) ?_
           intro v' wn happ
           have HB:=hid (HA.out.appV (by rw [HLV.out];exact happ))
           clear HA
           have HA:=HB
           obtain ⟨va,vc,rfl⟩:=happ.row.shape
           clear happ HB
           go_wp2_with fail
           refine zal (zas HA.out.chg) ?_)
        | (refine zah (n:=i) (m:=1) elem_zi rfl _ _ rfl (v:=.slice _ _ _) rfl rfl (by have h:=HA.out.r.rs;rw [HLS.out] at h;exact h) (src_zi (HA.out.ls _ rfl).blk) (by unfold maxLen;omega) (by omega) ?_
           intro v' wn happ
           have HB:=hid (HA.out.appS (by rw [HLS.out];exact happ))
           clear HA
           have HA:=HB
           obtain ⟨va,vc,rfl⟩:=happ.row.shape
           clear happ HB
           go_wp2_with fail
           refine zal (zas HA.out.chg) ?_)
        | (go_wp2_with fail
           generalize hW:World.alloc _ _=wn
           first
            | (have HB:=hid HA.out.allocA;rw [hW] at HB;clear HA hW;have HA:=HB;clear HB;refine zal (zas HA.out.chg) ?_)
            | (have HB:=hid HA.out.allocV;rw [hW] at HB;clear HA hW;have HA:=HB;clear HB;refine zal (zas HA.out.chg) ?_)
            | (have HB:=hid HA.out.allocS;rw [hW] at HB;clear HA hW;have HA:=HB;clear HB;refine zal (zas HA.out.chg) ?_))
       iterate 4
        all_goals (first|refine wpPlan_three ?_ ?_ ?_|refine wpPlan_two ?_ ?_|refine zae ?_)
        all_goals (simp only [zac,yab,yaa])
        all_goals
         first
          | (refine zah (n:=i) (m:=1) elem_zi rfl _ _ rfl (v:=.slice _ _ _) rfl rfl (by have h:=HA.out.r.ra;rw [HLA.out] at h;exact h) (src_zi (HA.out.la _ rfl).blk) (by unfold maxLen;omega) (by omega) ?_
             intro v' wn happ
             have HB:=hid (HA.out.appA (by rw [HLA.out];exact happ))
             clear HA
             have HA:=HB
             obtain ⟨va,vc,rfl⟩:=happ.row.shape
             clear happ HB
             go_wp2_with fail
             refine zal (zas HA.out.chg) ?_)
          | (refine zah (n:=i) (m:=1) elem_zu rfl _ _ rfl (v:=.slice _ _ _) rfl rfl (by have h:=HA.out.r.rv;rw [HLV.out] at h;exact h) (src_zu (HA.out.lv _ rfl).blk) (by unfold maxLen;omega) (by omega) ?_
             intro v' wn happ
             have HB:=hid (HA.out.appV (by rw [HLV.out];exact happ))
             clear HA
             have HA:=HB
             obtain ⟨va,vc,rfl⟩:=happ.row.shape
             clear happ HB
             go_wp2_with fail
             refine zal (zas HA.out.chg) ?_)
          | (refine zah (n:=i) (m:=1) elem_zi rfl _ _ rfl (v:=.slice _ _ _) rfl rfl (by have h:=HA.out.r.rs;rw [HLS.out] at h;exact h) (src_zi (HA.out.ls _ rfl).blk) (by unfold maxLen;omega) (by omega) ?_
             intro v' wn happ
             have HB:=hid (HA.out.appS (by rw [HLS.out];exact happ))
             clear HA
             have HA:=HB
             obtain ⟨va,vc,rfl⟩:=happ.row.shape
             clear happ HB
             go_wp2_with fail
             refine zal (zas HA.out.chg) ?_)
          | (go_wp2_with fail
             generalize hW:World.alloc _ _=wn
             first
              | (have HB:=hid HA.out.allocA;rw [hW] at HB;clear HA hW;have HA:=HB;clear HB;refine zal (zas HA.out.chg) ?_)
              | (have HB:=hid HA.out.allocV;rw [hW] at HB;clear HA hW;have HA:=HB;clear HB;refine zal (zas HA.out.chg) ?_)
              | (have HB:=hid HA.out.allocS;rw [hW] at HB;clear HA hW;have HA:=HB;clear HB;refine zal (zas HA.out.chg) ?_))
       iterate 3
        all_goals (refine zae ?_)
        all_goals (simp only [zac,yab,yaa])
        all_goals (go_wp2_with fail)
        all_goals (refine zal (zas HA.out.chg) ?_)
       all_goals (refine zav ?_)
       all_goals (go_wp2_with fail)
       all_goals
        go_roundw
        case rel=>exact ⟨i+1,_,_,_,_,_,_,rfl,rfl,rfl,by go_num,by omega,hid (by rw [yao,HP.out,Option.toList_some,yav,yav,yav];exact HA.out.r)⟩
        case measure=>simp [RowKit.intOf];omega
  ·obtain rfl:i=n:=by omega
   have HE:Hid (l.take i=l):=hid (yai (by have:=LN.out;omega))
   rw [HE.out] at HR
   have HLM:Hid (l.length=i):=LN
   have HSA:Hid (Src wr 1 (.slice ta i tc) i (zints (l.map Pt.t))):=hid (by have h:=HR.out.ra.src (zdG _);rw [yaw,HLM.out] at h;exact h)
   have HSV:Hid (Src wr 1 (.slice va i vc) i (u64s (l.map fun p=>u64N p.v))):=hid (by have h:=HR.out.rv.src (u64s_one _);rw [yaw,HLM.out] at h;exact h)
   have HSS:Hid (Src wr 1 (.slice sa i sc) i (zints (l.map Pt.s))):=hid (by have h:=HR.out.rs.src (zdG _);rw [yaw,HLM.out] at h;exact h)
   go_wp2_with fail
   refine (dencode_any wr ta i tc _ HSA.out hn).mono ?_
   rintro e w2 ⟨aa,am,ac,AB,rfl,hB,hBl,hm⟩
   have HBA:=hid (And.intro hB hBl)
   have HMA:=hid hm
   clear hB hBl hm
   go_wp2_with fail
   refine (xencode_any w2 va i vc _ (HSV.out.ext HMA.out.ext) hn (fun v hv=>by obtain ⟨p,_,rfl⟩:=yap.1 hv;exact u64N_lt _)).mono ?_
   rintro e w3 ⟨ba,bm,bc,VB,rfl,hB,hBl,hm⟩
   have HBV:=hid (And.intro hB hBl)
   have HMV:=hid hm
   clear hB hBl hm
   go_wp2_with fail
   refine (dencode_any w3 sa i sc _ (HSS.out.ext (HMA.out.ext.trans HMV.out.ext)) hn).mono ?_
   rintro e w4 ⟨ca,cm,cc,SB,rfl,hB,hBl,hm⟩
   have HBS:=hid (And.intro hB hBl)
   have HMS:=hid hm
   clear hB hBl hm
   have HLN:Hid (AB.length≤40000∧VB.length≤40000∧SB.length≤40000):=hid ⟨bits_le HBA.out.1 (by have:=zcX (l.map Pt.t);rw [yaw,HLM.out] at this;omega),bits_le HBV.out.1 (by have:=zdP (l.map fun p=>u64N p.v);rw [yaw,HLM.out] at this;omega),bits_le HBS.out.1 (by have:=zcX (l.map Pt.s);rw [yaw,HLM.out] at this;omega)⟩
   have hw:IntKind.u64.wrap (i:Int)=(i:Int):=by rw [IntKind.wrap_u64];omega
   go_wp2_with fail
   refine (varPut' w4 none 0 0 [] i (by omega) (.inl ⟨rfl,rfl,rfl⟩) (Nat.le_refl _) (by omega)).mono ?_
   rintro e w5 ⟨ha,hc,rfl,hm⟩
   have HM5:=hid hm
   clear hm
   go_wp2_with fail
   go_loopw [15,67] (fun s15 s67 wr=>∃(k:Nat) (va:Option Addr) (vm vc:Nat),s15=.slice va vm vc∧s67=.int .i64 (k:Int)∧k≤3∧Hid ((varP i++zaP AB VB SB k).length=vm∧MadeTo w4 5 1 (.slice va vm vc) vm (u8s (varP i++zaP AB VB SB k)) wr)) (fun _ t _=>3-(RowKit.intOf t).toNat)
   case atStart=>exact ⟨0,_,_,_,rfl,rfl,by omega,hid ⟨by simp [zaP],by simpa [zaP] using HM5.out⟩⟩
   case round =>
    obtain ⟨k,va',vm,vc',rfl,rfl,hk,HI⟩:=hrel
    obtain hk0|hk1|hk2|hk3:k=0∨k=1∨k=2∨k=3:=by omega
    ·subst hk0
     have hix:=t3_0 (.slice aa am ac) (.slice ba bm bc) (.slice ca cm cc) wr
     have hcv:(Go.convert 51 9 (.slice aa am ac)).run Tryz.prog wr=.ok (.string ⟨AB.toArray⟩) wr:=byt_conv ((HMA.out.row.src (zaH _)).ext (HMV.out.ext.trans (HMS.out.ext.trans HI.out.2.ext)))
     have he:varP i++zaP AB VB SB 0++(varP (⟨AB.toArray⟩:ByteArray).size++(⟨AB.toArray⟩:ByteArray).data.toList)=varP i++zaP AB VB SB 1:=by rw [texts3_0,yaj];rfl
     have HE1:=hid he
     have HVL:Hid (vm≤121000):=hid (by rw [←HI.out.1];exact head_len HLN.out.1 HLN.out.2.1 HLN.out.2.2 hn _)
     clear he
     go_wp2_with fail
     refine (zdM wr va' vm vc' _ ⟨AB.toArray⟩ (HI.out.2.row.src (zaH _)) (zcj HI.out.2.row) (by have:=HVL.out;omega) (by have:=HLN.out;show (AB.toArray).size≤_;simp;omega)).mono ?_
     rintro e w6 ⟨ha6,hc6,rfl,hm⟩
     rw [HE1.out] at hm ⊢
     obtain ⟨vm6,hvm6⟩:∃m6,m6=(varP i++zaP AB VB SB 1).length:=⟨_,rfl⟩
     rw [←hvm6] at hm ⊢
     have HV6:=hid hvm6
     clear hvm6
     have HM6:=hid (hm.trans HI.out.2.ext)
     clear hm hcv hix
     go_wp2_with fail
     go_roundw
     case rel=>exact ⟨1,_,_,_,rfl,by go_num,by omega,hid ⟨HV6.out.symm,HM6.out⟩⟩
     case measure=>simp [RowKit.intOf]
    ·subst hk1
     have hix:=t3_1 (.slice aa am ac) (.slice ba bm bc) (.slice ca cm cc) wr
     have hcv:(Go.convert 51 9 (.slice ba bm bc)).run Tryz.prog wr=.ok (.string ⟨VB.toArray⟩) wr:=byt_conv ((HMV.out.row.src (zaH _)).ext (HMS.out.ext.trans HI.out.2.ext))
     have he:varP i++zaP AB VB SB 1++(varP (⟨VB.toArray⟩:ByteArray).size++(⟨VB.toArray⟩:ByteArray).data.toList)=varP i++zaP AB VB SB 2:=by rw [texts3_1,yaj];rfl
     have HE1:=hid he
     have HVL:Hid (vm≤121000):=hid (by rw [←HI.out.1];exact head_len HLN.out.1 HLN.out.2.1 HLN.out.2.2 hn _)
     clear he
     go_wp2_with fail
     refine (zdM wr va' vm vc' _ ⟨VB.toArray⟩ (HI.out.2.row.src (zaH _)) (zcj HI.out.2.row) (by have:=HVL.out;omega) (by have:=HLN.out;show (VB.toArray).size≤_;simp;omega)).mono ?_
     rintro e w6 ⟨ha6,hc6,rfl,hm⟩
     rw [HE1.out] at hm ⊢
     obtain ⟨vm6,hvm6⟩:∃m6,m6=(varP i++zaP AB VB SB 2).length:=⟨_,rfl⟩
     rw [←hvm6] at hm ⊢
     have HV6:=hid hvm6
     clear hvm6
     have HM6:=hid (hm.trans HI.out.2.ext)
     clear hm hcv hix
     go_wp2_with fail
     go_roundw
     case rel=>exact ⟨2,_,_,_,rfl,by go_num,by omega,hid ⟨HV6.out.symm,HM6.out⟩⟩
     case measure=>simp [RowKit.intOf]
    ·subst hk2
     have hix:=t3_2 (.slice aa am ac) (.slice ba bm bc) (.slice ca cm cc) wr
     have hcv:(Go.convert 51 9 (.slice ca cm cc)).run Tryz.prog wr=.ok (.string ⟨SB.toArray⟩) wr:=byt_conv ((HMS.out.row.src (zaH _)).ext HI.out.2.ext)
     have he:varP i++zaP AB VB SB 2++(varP (⟨SB.toArray⟩:ByteArray).size++(⟨SB.toArray⟩:ByteArray).data.toList)=varP i++zaP AB VB SB 3:=by rw [texts3_2,yaj];rfl
     have HE1:=hid he
     have HVL:Hid (vm≤121000):=hid (by rw [←HI.out.1];exact head_len HLN.out.1 HLN.out.2.1 HLN.out.2.2 hn _)
     clear he
     go_wp2_with fail
     refine (zdM wr va' vm vc' _ ⟨SB.toArray⟩ (HI.out.2.row.src (zaH _)) (zcj HI.out.2.row) (by have:=HVL.out;omega) (by have:=HLN.out;show (SB.toArray).size≤_;simp;omega)).mono ?_
     rintro e w6 ⟨ha6,hc6,rfl,hm⟩
     rw [HE1.out] at hm ⊢
     obtain ⟨vm6,hvm6⟩:∃m6,m6=(varP i++zaP AB VB SB 3).length:=⟨_,rfl⟩
     rw [←hvm6] at hm ⊢
     have HV6:=hid hvm6
     clear hvm6
     have HM6:=hid (hm.trans HI.out.2.ext)
     clear hm hcv hix
     go_wp2_with fail
     go_roundw
     case rel=>exact ⟨3,_,_,_,rfl,by go_num,by omega,hid ⟨HV6.out.symm,HM6.out⟩⟩
     case measure=>simp [RowKit.intOf]
    ·subst hk3
     have HVL:Hid (vm≤121000):=hid (by rw [←HI.out.1];exact head_len HLN.out.1 HLN.out.2.1 HLN.out.2.2 hn _)
     have HXE:Hid (Ext w wr):=hid (HX1.out.trans (HR.out.ext.trans (HMA.out.ext.trans (HMV.out.ext.trans (HMS.out.ext.trans HI.out.2.ext)))))
     go_wp2_with fail
     have HSE:Calls Tryz.prog 96 #[.int .u8 3,.slice va' vm vc'] wr (SealPost wr 3 (colL i AB VB SB)):=seal_any wr 3 va' vm vc' _ (HI.out.2.row.src (zaH _)) (by have:=HVL.out;omega)
     refine HSE.mono ?_
     rintro e wz ⟨a,c,rfl,hM⟩
     have HM:=hid (hM.trans HXE.out)
     clear HSE hM
     go_wp2_with fail
     go_ret2
     exact ⟨AB,VB,SB,HBA.out.1,HBV.out.1,HBS.out.1,_,_,rfl,HM.out⟩
def addBit (s:List UInt8×Nat) (b:Bool):List UInt8×Nat :=
 (if s.2%8=0 then s.1++[UInt8.ofNat (b.toNat*2 ^ 7)] else s.1.set (s.2/8) (s.1.getD (s.2/8) 0 ||| UInt8.ofNat (b.toNat*2 ^ (7-s.2%8))),s.2+1)
def packS (L:List Bool):List UInt8×Nat:=L.foldl addBit ([],0)
def packB (L:List Bool):List UInt8:=(packS L).1
theorem packS_snoc (L:List Bool) (b:Bool):packS (L++[b])=addBit (packS L) b:=by simp [packS]
theorem packS_len (L:List Bool):(packS L).2=L.length:=by
 have key:∀(K:List Bool) (s:List UInt8×Nat),(K.foldl addBit s).2=s.2+K.length:=by
  intro K
  induction K with
  | nil=>simp
  | cons b K ih=>intro s;rw [List.foldl_cons,ih];simp [addBit];omega
 rw [packS,key];simp
theorem take_bits (L:List Bool):∀k,k≤L.length→Bits (packB (L.take k)) (L.take k)
 | 0,_=>by simpa [packB,packS] using Bits.nil
 | k+1,hk=>by
  have ih:=take_bits L k (by omega)
  have e:L.take (k+1)=L.take k++[L[k]]:=by rw [yao,yac (by omega)];rfl
  have hlen:(L.take k).length=k:=by rw [yaB];omega
  rw [e]
  unfold packB
  rw [packS_snoc]
  unfold addBit
  rw [packS_len]
  by_cases h0:(L.take k).length%8=0
  ·rw [if_pos h0];exact ih.new _ h0
  ·rw [if_neg h0];exact ih.set _ h0
theorem zdn (L:List Bool):Bits (packB L) L:=by
 have:=take_bits L L.length (Nat.le_refl _)
 rwa [List.take_length] at this
theorem byte_of_bits {x y:UInt8}(h:∀k,k<8→x.toNat.testBit k=y.toNat.testBit k):x=y:=by
 apply UInt8.toNat.inj
 apply Nat.eq_of_testBit_eq
 intro k
 by_cases hk:k<8
 ·exact h k hk
 ·have hx:=x.toNat_lt
  have hy:=y.toNat_lt
  have hp:2 ^ 8≤2 ^ k:=yaQ (by decide) (by omega)
  rw [Nat.testBit_lt_two_pow (by omega),Nat.testBit_lt_two_pow (by omega)]
theorem Bits.eq {B C:List UInt8}{L:List Bool}(hB:Bits B L) (hC:Bits C L):B=C:=by
 apply List.ext_getElem?
 intro j
 by_cases hj:j<B.length
 ·have hj2:j<C.length:=by rw [hC.len,←hB.len];exact hj
  rw [yac hj,yac hj2]
  congr 1
  refine byte_of_bits fun k hk=>?_
  have h:=(hB.at' (8*j+(7-k))).trans (hC.at' (8*j+(7-k))).symm
  unfold bitB at h
  rw [show (8*j+(7-k))/8=j by omega,show 7-(8*j+(7-k))%8=k by omega] at h
  simpa [yas,yac hj,yac hj2] using h
 ·rw [List.getElem?_eq_none (by omega),List.getElem?_eq_none (by rw [hC.len,←hB.len];omega)]
theorem Bits.pack {B:List UInt8}{L:List Bool}(h:Bits B L):B=packB L:=h.eq (zdn L)
def timesA (l:List Pt):List UInt8:=packB (zcv (l.map Pt.t))
def zdQ (l:List Pt):List UInt8:=packB (zbL (l.map fun p=>u64N p.v))
def seqsA (l:List Pt):List UInt8:=packB (zcv (l.map Pt.s))
def colIn (l:List Pt):List UInt8:=colL l.length (timesA l) (zdQ l) (seqsA l)
def zaO (l:List Pt):List UInt8:=sealL 3 (colIn l)
theorem okV_parts (l:List Pt):(okV l).1=true→Rises l∧(∀p∈l,-1152921504606846976≤p.t∧p.t≤1152921504606846976∧0≤p.s∧p.s≤1152921504606846976)∧(∀p∈l,p.t≤(okV l).2)∧-1152921504606846977≤(okV l).2:=by
 have key:∀k,k≤l.length→(okV (l.take k)).1=true→Rises (l.take k)∧(∀p∈l.take k,-1152921504606846976≤p.t∧p.t≤1152921504606846976∧0≤p.s∧p.s≤1152921504606846976)∧(∀p∈l.take k,p.t≤(okV (l.take k)).2)∧-1152921504606846977≤(okV (l.take k)).2:=by
  intro k
  induction k with
  | zero=>intro _ _;simp [Rises,okV]
  | succ k ih =>
   intro hk h
   have hp:l[k]?=some l[k]:=yac (by omega)
   have e:=okV_next hp
   rw [e] at h ⊢
   simp only [yaK] at h
   obtain ⟨h1,h2⟩:=h
   obtain ⟨i1,i2,i3,i4⟩:=ih (by omega) h1
   have et:l.take (k+1)=l.take k++[l[k]]:=by rw [yao,hp];rfl
   generalize l[k]=q at *
   unfold stepV at h2
   simp at h2
   rw [et]
   refine ⟨i1.snoc (fun p hp=>by have:=i3 p hp;omega),fun p hp=>?_,fun p hp=>?_,by omega⟩
   ·rcases yah.1 hp with hp|hp
    ·exact i2 p hp
    ·obtain rfl:=yal.1 hp
     omega
   ·rcases yah.1 hp with hp|hp
    ·have:=i3 p hp;show p.t≤q.t;omega
    ·obtain rfl:=yal.1 hp
     exact Int.le_refl _
 intro h
 have:=key l.length (Nat.le_refl _)
 rw [List.take_length] at this
 exact this h
theorem zdH {l:List Pt}(h:colV l=true):Rises l:=(okV_parts l (by unfold colV at h;simp at h;exact h.1.1)).1
theorem colV_mem {l:List Pt}(h:colV l=true) {p:Pt}(hp:p∈l):-1152921504606846976≤p.t∧p.t≤1152921504606846976∧0≤p.s∧p.s≤1152921504606846976:=(okV_parts l (by unfold colV at h;simp at h;exact h.1.1)).2.1 p hp
def zdw (w:World) (o:Option Sta) (e:Ending) (w':World):Prop :=
 ∃fa fn fc ta tn tc,e=.returned (.tuple #[.agg (staC (o.getD staZ) fa fn fc ta tn tc),.int .i64 (if o.isSome=true then 0 else 24)])∧Ext w w'∧StIn w' (o.getD staZ) fa fn fc ta tn tc ∧
  (∀g,(Value.slice fa fn fc).ownBlock=some g→w.heap.size≤g)∧∀g,(Value.slice ta tn tc).ownBlock=some g→w.heap.size≤g
theorem zdw.none {w w':World}{e:Ending}(h:e=.returned (.tuple #[.agg (staC staZ .none 0 0 .none 0 0),.int .i64 24])) (hx:Ext w w'):zdw w .none e w' :=
 ⟨_,_,_,_,_,_,h,hx,⟨.inl ⟨rfl,rfl,rfl⟩,.inl ⟨rfl,rfl,rfl⟩,⟨by decide,by decide,by decide,by decide⟩,by decide,by decide⟩,fun g hg=>by simp [Value.ownBlock] at hg,fun g hg=>by simp [Value.ownBlock] at hg⟩
theorem openR_len (l:List UInt8):(openR l).2.1.length≤l.length:=by
 unfold openR
 repeat (split;·simp)
 simp only [yaB,yaC]
 omega
theorem manReadF_any (w:World) (a:Option Addr) (n c:Nat) (l:List UInt8) (hl:SlB w a n c l) (hn:n≤1099511627776) (hg:HasET w) :
 Calls Tryz.prog 60 #[.slice a n c] w (zdw w (staRd l)):=by
 have HL:=hid hl
 have HG:=hid hg
 have HR:Hid (staRd l=if (openR l).2.2≠0∨(openR l).1≠7 then none else staOk (staFrom ⟨(openR l).2.1,false⟩)):=hid rfl
 clear hl hg
 go_enter Tryz.func60,Tryz.ntmps60
 go_upto_region 1 with fail
 obtain ⟨g,hg⟩:∃g,g=w.heap.size:=⟨_,rfl⟩
 rw [←hg]
 generalize hW:w.alloc _=wa
 have hxa:Ext w wa:=by rw [←hW];exact (Ext.refl w).alloc _
 have HB0:Hid (wa.heap[g]?=some (.cells #[.int .i64 0,.int .i64 0,.int .i64 0,.bool false,.int .i64 0,.int .i64 0,.slice none 0 0,.slice none 0 0] 66 (0,0))):=hid (by rw [←hW,hg];exact heap_alloc_new w _)
 have HXA:=hid hxa
 have HGW:=hid hg
 clear hW hg hxa
 go_wp2_with fail
 refine (open_any wa a n c l (HL.out.src.ext HXA.out) HL.out.le hn).mono ?_
 rintro e w1 ⟨a1,c1,rfl,hm⟩
 have HB1:=hid (hm.ext.keep HB0.out)
 have HX1:=hid (HXA.out.trans hm.ext)
 have HM:=hid hm
 clear hm HB0 HXA
 obtain ⟨⟨k,b,x⟩,ho⟩:∃o,o=openR l:=⟨_,rfl⟩
 rw [←ho] at HM HR ⊢
 have HO:=hid ho
 simp only at HR HM
 clear ho
 by_cases hx0:x=0
 ·subst hx0
  by_cases hk:k=7
  ·subst hk
   have HR2:Hid (staRd l=staOk (staFrom ⟨b,false⟩)):=hid (by rw [HR.out];simp)
   clear HR
   go_upto_region 5 with fail
   obtain ⟨p,hp⟩:∃p,p=w1.heap.size:=⟨_,rfl⟩
   obtain ⟨rp,hrp⟩:∃p,p=w1.heap.size+1:=⟨_,rfl⟩
   rw [←hrp,←hp]
   generalize hW:(w1.alloc _).alloc _=w5
   have hx5:Ext w1 w5:=by rw [←hW];exact ((Ext.refl w1).alloc _).alloc _
   have hsz:w5.heap.size=p+2:=by rw [←hW,hp];simp
   have hbp:w5.heap[p]?=some (.cells #[.slice a1 b.length c1,.bool false] 210 (0,0)):=by
    rw [←hW,hp,heap_alloc_old _ _ (by simp)]
    exact heap_alloc_new w1 _
   have hbr:w5.heap[rp]?=some (.cells #[.pointer (some ⟨p,0,none⟩)] 208 (0,0)):=by rw [←hW,hrp,hp];exact zaF w1 _ _
   have hRD:RdAt 210 w1 p ⟨b,false⟩ w5:=⟨⟨_,_,_,hbp,⟨HM.out.row.src (zaH _),bufRow_le HM.out.row,by
    have:=openR_len l
    rw [←HO.out] at this
    simp only at this
    have:=HL.out.len
    omega⟩⟩,by omega,hx5,HG.out.ext HX1.out⟩
   have HRD:=hid hRD
   have HP:Hid (p=w1.heap.size∧rp=p+1∧w5.heap.size=p+2∧w.heap.size≤g∧g<p):=hid (by have h1:=zab HB1.out;have h2:=HGW.out;refine ⟨hp,?_,hsz,?_,?_⟩<;>omega)
   have HBR:=hid hbr
   have HB5:=hid (hx5.keep HB1.out)
   have HX5:=hid (HX1.out.trans hx5)
   have hRH:RH w5 w1 p 210 66 ⟨b,false⟩ none w5:=⟨hRD,Chg.refl _ _,fun q e=>by simp at e,by omega⟩
   have HH:=hid hRH
   have r0:=zaf (T:=fun k=>k==p) (a:=⟨rp,0,none⟩) (v:=.pointer (some ⟨p,0,none⟩)) (by rw [zaa hbr 0];rfl) (by have:=HP.out;simp;omega)
   clear hW hp hrp hx5 hsz hbp hbr hRD hRH HB1 HM HX1 HO HGW HL
   go_cut [8] (fun s8 wx=>∃q,s8=.pointer (some ⟨q,0,none⟩)∧Hid (w5.heap.size≤q∧RdAt 210 w1 p (zdE (rdNum (rdNum (rdNum ⟨b,false⟩).2).2).2).2 wx∧Chg (·=p) w5 wx ∧
    wx.heap[q]?=some (.cells (staC ⟨(rdNum ⟨b,false⟩).1,(rdNum (rdNum ⟨b,false⟩).2).1,(rdNum (rdNum (rdNum ⟨b,false⟩).2).2).1,(zdE (rdNum (rdNum (rdNum ⟨b,false⟩).2).2).2).1,[],[]⟩ none 0 0 none 0 0) 66 (0,0))))
   case first =>
    refine zao 7 (fun w'=>∃z:Turned,w'=turned w5 (fun k=>k==p) z.d z.f z.os) (.reads [0,2,4,6] (.two 1 (.two 3 (.two 5 (.two 7 (.two 8 (.one 9 (.one 10 .done)) 9 (.one 8 (.one 10 .done))) 9 (.one 7 (.one 8 (.one 10 .done)))) 9 (.one 5 (.one 7 (.one 8 (.one 10 .done))))) 9 (.one 3 (.one 5 (.one 7 (.one 8 (.one 10 .done)))))) 9 (.one 1 (.one 3 (.one 5 (.one 7 (.one 8 (.one 10 .done)))))))) (by kernel_rfl) (by kernel_rfl) (fun _ _ dd _ _ hh=>by cases dd<;>exact hh) ?_ ?_
    ·exact zad (Ext.drewN w5 1)
    refine zak ?_
    simp only [zac,yab,yaa]
    repeat (go_big_quiet_step (fail))
    refine yaF ?_
    clear r0
    replace HH:=hid (HH.out.read (HH.out.rd.ext' (Ext.drewN w5 1)) (Chg.of_ext (Ext.drewN w5 1)))
    change zaA _ _ _ _ _ _ _ _ (w5.drewN 1)
    generalize w5.drewN 1=wn at *
    clear HRD HBR HB5 HX5 HG HR2 hn
    iterate 6 (all_goals (first|refine wpPlan_two ?_ ?_|refine zae ?_);all_goals (
     simp only [zac,yab,yaa]
     go_wp2_with fail
     first
     | (refine (zdD w1 _ p _ HH.out.rd).mono ?_;rintro e wn ⟨rfl,hr,hc⟩;replace HH:=hid (HH.out.read hr hc);clear hr hc;go_wp2_with fail;refine zal HH.out.turned ?_)
     | (refine (rdMark_any w1 _ p _ HH.out.rd).mono ?_;rintro e wn ⟨rfl,hr,hc⟩;replace HH:=hid (HH.out.read hr hc);clear hr hc;go_wp2_with fail;refine zal HH.out.turned ?_)
     | (refine zal HH.out.turned ?_)
     | (refine zal HH.out.alloc.turned ?_;replace HH:=hid HH.out.alloc;obtain ⟨q,hq⟩:∃q,q=wn.heap.size:=⟨_,rfl⟩;rw [←hq] at HH ⊢;clear hq;generalize wn.alloc _=wn at *)))
    all_goals
     refine zae ?_
     simp only [zac,yab,yaa]
     go_wp2_with (first|(refine zai rfl _ _ _ rfl _ _ _ _ rfl rfl (HH.out.box _ rfl).2 rfl zbx (by simp [Value.oneCell']) ?_;rintro wx hbx hcx))
     refine zau (zav ?_)
     go_wp2_with fail
     go_meet
     case rel=>exact ⟨_,rfl,hid ⟨(HH.out.box _ rfl).1,HH.out.rd.chg hcx (fun e=>by have:=(HH.out.box _ rfl).1;have:=HH.out.lt;omega) (fun i hi=>by have:=(HH.out.box _ rfl).1;have:=HP.out;omega),HH.out.chg.trans hcx (fun i hi e=>by have:=(HH.out.box _ rfl).1;omega),hbx⟩⟩
   case rest =>
    obtain ⟨q,rfl,hq⟩:=hcut
    have HKM:Hid ((zdE (rdNum (rdNum (rdNum ⟨b,false⟩).2).2).2).1.ok):=hid (markR_ok _)
    have HST:Hid (staRd l=staOk (staTail (rdNum ⟨b,false⟩).1 (rdNum (rdNum ⟨b,false⟩).2).1 (rdNum (rdNum (rdNum ⟨b,false⟩).2).2).1 (zdE (rdNum (rdNum (rdNum ⟨b,false⟩).2).2).2).1 (zdE (rdNum (rdNum (rdNum ⟨b,false⟩).2).2).2).2)):=hid HR2.out
    clear HR2
    generalize (zdE (rdNum (rdNum (rdNum ⟨b,false⟩).2).2).2).2=r4 at *
    generalize (zdE (rdNum (rdNum (rdNum ⟨b,false⟩).2).2).2).1=km at *
    generalize (rdNum (rdNum (rdNum ⟨b,false⟩).2).2).1=z at *
    generalize (rdNum (rdNum ⟨b,false⟩).2).1=y at *
    generalize (rdNum ⟨b,false⟩).1=x at *
    obtain ⟨hq1,hq2,hq3,hq4⟩:=hq.out
    clear r0 HH HRD hq
    have hcr:wc.cell? ⟨rp,0,none⟩=some (.pointer (some ⟨p,0,none⟩)):=by
     rw [hq3.cell (p:=⟨rp,0,none⟩) (by have:=HP.out;show rp<_;omega) (by have:=HP.out;show ¬rp=p;omega),zaa HBR.out 0]
     rfl
    have HCR:=hid hcr
    have HQP:Hid (p<q∧rp<q∧p≠rp∧g<p∧w.heap.size≤g∧w1.heap.size≤p):=hid (by have:=HP.out;omega)
    have HC6:Hid (Chg (fun k=>w.heap.size≤k) w wc):=hid ((Chg.of_ext HX5.out).trans hq3 (fun i hi e=>by have:=HQP.out;omega))
    have HB6:=hid ((hq3.block g (zab HB5.out) (by have:=HQP.out;omega)).trans HB5.out)
    have hG0:StG wc w1 q p 210 66 110 6 4 #[.int .i64 x,.int .i64 y,.int .i64 z,.bool km.s,.int .i64 km.t,.int .i64 km.g,.slice none 0 0,.slice none 0 0] 0 (fls []) r4 wc :=
     ⟨⟨none,0,by simpa using hq4,Row.nil _ _ _,fun g hg=>by simp [Value.ownBlock] at hg⟩,hq2,Chg.refl _ _,zab hq4,by have:=zab hq4;have:=HQP.out;omega,by have:=HQP.out;omega,by have:=HQP.out;omega⟩
    have HG0:=hid hG0
    clear hq1 hq2 hq3 hq4 hcr HX5 HB5 HBR hG0
    have hcfF:∀W,(callFunc 106 #[.pointer (some ⟨q,0,none⟩),.pointer (some ⟨rp,0,none⟩)]).run Tryz.prog W=.ok (.enter 106 #[.pointer (some ⟨q,0,none⟩),.pointer (some ⟨rp,0,none⟩)]) W:=fun _=>rfl
    have hcfT:∀W,(callFunc 108 #[.pointer (some ⟨q,0,none⟩),.pointer (some ⟨rp,0,none⟩)]).run Tryz.prog W=.ok (.enter 108 #[.pointer (some ⟨q,0,none⟩),.pointer (some ⟨rp,0,none⟩)]) W:=fun _=>rfl
    have HCFF:=hid hcfF
    have HCFT:=hid hcfT
    clear hcfF hcfT
    have HM1:=hid (many_any flStp 512 106 #[.pointer (some ⟨q,0,none⟩),.pointer (some ⟨rp,0,none⟩)] HCFF.out w1 p rp (by decide)
     (fun k s W=>s.1.length≤k∧StG wc w1 q p 210 66 110 6 4 #[.int .i64 x,.int .i64 y,.int .i64 z,.bool km.s,.int .i64 km.t,.int .i64 km.g,.slice none 0 0,.slice none 0 0] s.1.length (fls s.1) s.2 W)
     (fun k s W h=>⟨h.2.rd,(h.2.chg.cell (p:=⟨rp,0,none⟩) (yaf _ _ HCR.out) (by have:=HQP.out;show ¬(rp=p∨rp=q);omega)).trans HCR.out⟩)
     (fun k s r' W W' h hr hc=>⟨h.1,h.2.read hr hc⟩)
     (fun k s W hk h=>(readF_any wc w1 W q p rp s.1.length _ _ _ _ _ _ _ _ s.1 s.2 (by have:=h.1;omega) h.2 ((h.2.chg.cell (p:=⟨rp,0,none⟩) (yaf _ _ HCR.out) (by have:=HQP.out;show ¬(rp=p∨rp=q);omega)).trans HCR.out)).mono
       (fun e W' he=>⟨he.1,by simp [flStp];exact h.1,by have:=he.2;simpa [flStp] using this⟩))
     ([],r4) wc ⟨Nat.le_refl _,HG0.out⟩)
    go_wp2_with fail
    refine HM1.out.mono ?_
    rintro e w7 ⟨rfl,k,hk,hlen,hG⟩
    clear HM1
    have HS1:Hid (staRd l=staOk (⟨x,y,z,km,(manyR flStp 512 ([],r4)).1,(manyR trStp 4 ([],(manyR flStp 512 ([],r4)).2)).1⟩,(manyR trStp 4 ([],(manyR flStp 512 ([],r4)).2)).2)):=hid HST.out
    clear HST
    generalize (manyR flStp 512 ([],r4)).2=r5 at *
    generalize (manyR flStp 512 ([],r4)).1=L at *
    obtain ⟨fa,fc,hb7,hrow7,hown7⟩:=hG.blk
    have HC7:=hid (HC6.out.trans hG.chg (fun i hi e=>by have:=HQP.out;omega))
    have HB7:=hid ((hG.chg.block g (zab HB6.out) (by have:=HQP.out;omega)).trans HB6.out)
    have HCR7:=hid ((hG.chg.cell (p:=⟨rp,0,none⟩) (yaf _ _ HCR.out) (by have:=HQP.out;show ¬(rp=p∨rp=q);omega)).trans HCR.out)
    have HROW7:=hid hrow7
    have HOWN7:Hid (∀g,(Value.slice fa L.length fc).ownBlock=some g→q<g):=hid (fun g hg=>by have:=hown7 g hg;have:=hG.ql;omega)
    have HL512:Hid (L.length≤512):=hid (by omega)
    have hG2:StG w7 w1 q p 210 66 90 7 5 #[.int .i64 x,.int .i64 y,.int .i64 z,.bool km.s,.int .i64 km.t,.int .i64 km.g,.slice fa L.length fc,.slice none 0 0] 0 (trs []) r5 w7 :=
     ⟨⟨none,0,by simpa using hb7,Row.nil _ _ _,fun g hg=>by simp [Value.ownBlock] at hg⟩,hG.rd,Chg.refl _ _,zab hb7,by have:=zab hb7;have:=HQP.out;omega,by have:=HQP.out;omega,by have:=HQP.out;omega⟩
    have HG2:=hid hG2
    clear hG hb7 hrow7 hown7 hG2 hlen HG0 HCR HC6 HB6
    have HM2:=hid (many_any trStp 4 108 #[.pointer (some ⟨q,0,none⟩),.pointer (some ⟨rp,0,none⟩)] HCFT.out w1 p rp (by decide)
     (fun k s W=>s.1.length≤k∧StG w7 w1 q p 210 66 90 7 5 #[.int .i64 x,.int .i64 y,.int .i64 z,.bool km.s,.int .i64 km.t,.int .i64 km.g,.slice fa L.length fc,.slice none 0 0] s.1.length (trs s.1) s.2 W)
     (fun k s W h=>⟨h.2.rd,(h.2.chg.cell (p:=⟨rp,0,none⟩) (yaf _ _ HCR7.out) (by have:=HQP.out;show ¬(rp=p∨rp=q);omega)).trans HCR7.out⟩)
     (fun k s r' W W' h hr hc=>⟨h.1,h.2.read hr hc⟩)
     (fun k s W hk h=>(readT_any w7 w1 W q p rp s.1.length _ _ _ _ _ _ _ _ s.1 s.2 (by have:=h.1;omega) h.2 ((h.2.chg.cell (p:=⟨rp,0,none⟩) (yaf _ _ HCR7.out) (by have:=HQP.out;show ¬(rp=p∨rp=q);omega)).trans HCR7.out)).mono
       (fun e W' he=>⟨he.1,by simp [trStp];exact h.1,by have:=he.2;simpa [trStp] using this⟩))
     ([],r5) w7 ⟨Nat.le_refl _,HG2.out⟩)
    go_wp2_with fail
    refine HM2.out.mono ?_
    rintro e w8 ⟨rfl,k2,hk2,hlen2,hG⟩
    clear HM2 HG2
    have HS2:Hid (staRd l=staOk (⟨x,y,z,km,L,(manyR trStp 4 ([],r5)).1⟩,(manyR trStp 4 ([],r5)).2)):=hid HS1.out
    clear HS1
    generalize (manyR trStp 4 ([],r5)).2=r6 at *
    generalize (manyR trStp 4 ([],r5)).1=T at *
    obtain ⟨ta,tc,hb8,hrow8,hown8⟩:=hG.blk
    have HC8:=hid (HC7.out.trans hG.chg (fun i hi e=>by have:=HQP.out;omega))
    have HB8:=hid ((hG.chg.block g (zab HB7.out) (by have:=HQP.out;omega)).trans HB7.out)
    have HCR8:=hid ((hG.chg.cell (p:=⟨rp,0,none⟩) (yaf _ _ HCR7.out) (by have:=HQP.out;show ¬(rp=p∨rp=q);omega)).trans HCR7.out)
    have HIN:Hid (StIn w8 ⟨x,y,z,km,L,T⟩ fa L.length fc ta T.length tc):=hid ⟨(HROW7.out.chg hG.chg (fun g hg e=>by have:=HOWN7.out g hg;have:=HQP.out;omega)).src (fls_one _),hrow8.src (trs_one _),HKM.out,by have:=HL512.out;omega,by omega⟩
    have HBQ:Hid (w8.heap[q]?=some (.cells (staC ⟨x,y,z,km,L,T⟩ fa L.length fc ta T.length tc) 66 (0,0))):=hid (by simpa using hb8)
    have hrf:=HROW7.out.chg hG.chg (fun g hg e=>by have:=HOWN7.out g hg;have:=HQP.out;omega)
    have HRF:=hid hrf
    have HRT:=hid hrow8
    have HOT:Hid (∀g',(Value.slice ta T.length tc).ownBlock=some g'→q<g'):=hid (fun g hg=>by have:=hown8 g hg;have:=hG.ql;omega)
    obtain ⟨l6,b6⟩:=r6
    obtain ⟨a6,n6,c6,hbp,hsl⟩:=hG.rd.blk
    have HN6:=hid hsl.len
    have HG8:=hid (hG.rd.et.ext hG.rd.ext)
    have r0:=HCR8.out
    have d0:=zaa hbp 0
    have d1:=zaa hbp 1
    clear hG hb8 hrow8 hown8 hlen2 hbp hsl HCR7 HROW7 HB7 HC7 hrf
    simp only at HN6 d0 d1
    cases b6
    ·by_cases h6:n6=0
     ·subst h6
      have hl6:l6=[]:=yau.mp HN6.out
      subst hl6
      have HS3:Hid (staRd l=if staR ⟨x,y,z,km,L,T⟩=true then some ⟨x,y,z,km,L,T⟩ else none):=hid (by
       rw [HS2.out]
       unfold staOk
       cases staR ⟨x,y,z,km,L,T⟩<;>simp)
      have c0:=zaa HBQ.out 0
      have c1:=zaa HBQ.out 1
      have c2:=zaa HBQ.out 2
      have c3:=zaa HBQ.out 3
      have c4:=zaa HBQ.out 4
      have c5:=zaa HBQ.out 5
      have c6':=zaa HBQ.out 6
      have c7:=zaa HBQ.out 7
      have HRI:=hid (staRight_any w8 ⟨x,y,z,km,L,T⟩ fa ta L.length fc T.length tc HIN.out HG8.out)
      obtain ⟨R,hR⟩:∃R,R=staR ⟨x,y,z,km,L,T⟩:=⟨_,rfl⟩
      rw [←hR] at HS3 HRI
      clear hR HS2
      cases R
      ·replace HS3:Hid (staRd l=none):=hid (by rw [HS3.out];simp)
       go_wp2_with fail
       refine HRI.out.mono ?_
       rintro e w9 ⟨rfl,hx⟩
       have HB9:=hid (hx.keep HB8.out)
       have HC9:=hid (HC8.out.trans (Chg.of_ext (S:=fun _=>False) hx) (fun _ _ e=>e.elim))
       clear hx HB8 HC8
       have HB8:=HB9
       have HC8:=HC9
       clear c0 c1 c2 c3 c4 c5 c6' c7 r0 d0 d1
       go_wp2_with (first|(refine zai rfl _ _ _ rfl _ _ _ _ rfl rfl HB8.out rfl zbx (by simp [Value.oneCell']) ?_;rintro wx hbx hcx;have HBX:=hid hbx;have HCX:=hid hcx;clear hbx hcx))
       refine yaE (zaU Tryz.results60 _ _ rfl HBX.out Tryz.underlying66 rfl zbx) rfl ?_
       rw [HS3.out]
       exact zdw.none rfl ((HC8.out.trans HCX.out (fun i hi e=>by have:=HQP.out;omega)).ext (fun i hi e=>by omega))
      ·replace HS3:Hid (staRd l=some ⟨x,y,z,km,L,T⟩):=hid (by rw [HS3.out];simp)
       go_wp2_with fail
       refine HRI.out.mono ?_
       rintro e w9 ⟨rfl,hx⟩
       have HB9:=hid (hx.keep HB8.out)
       have HIN9:=hid (HIN.out.ext hx)
       have HX9:=hid hx
       have HC9:=hid (HC8.out.trans (Chg.of_ext (S:=fun _=>False) hx) (fun _ _ e=>e.elim))
       have HBQ9:=hid (hx.keep HBQ.out)
       clear hx HB8 HC8 HIN HBQ
       clear c0 c1 c2 c3 c4 c5 c6' c7 r0 d0 d1
       have c0:=zaa HBQ9.out 0
       have c1:=zaa HBQ9.out 1
       have c2:=zaa HBQ9.out 2
       have c3:=zaa HBQ9.out 3
       have c4:=zaa HBQ9.out 4
       have c5:=zaa HBQ9.out 5
       have c6':=zaa HBQ9.out 6
       have c7:=zaa HBQ9.out 7
       go_wp2_with (first|(refine zai rfl _ _ _ rfl _ _ _ _ rfl rfl HB9.out rfl zbx (by simp [Value.oneCell']) ?_;rintro wx hbx hcx;have HBX:=hid hbx;have HCX:=hid hcx;clear hbx hcx))
       refine yaE (zaU Tryz.results60 _ _ rfl HBX.out Tryz.underlying66 rfl zbx) rfl ?_
       rw [HS3.out]
       have hx9:Ext w wx:=(HC9.out.trans HCX.out (fun i hi e=>by have:=HQP.out;omega)).ext (fun i hi e=>by omega)
       refine ⟨fa,L.length,fc,ta,T.length,tc,rfl,hx9,?_,fun g' hg=>by have:=HOWN7.out g' hg;have:=HQP.out;omega,fun g' hg=>by have:=HOT.out g' hg;have:=HQP.out;omega⟩
       exact ⟨((HRF.out.ext HX9.out).chg HCX.out (fun g' hg e=>by have:=HOWN7.out g' hg;have:=HQP.out;omega)).src (fls_one _),((HRT.out.ext HX9.out).chg HCX.out (fun g' hg e=>by have:=HOT.out g' hg;have:=HQP.out;omega)).src (trs_one _),HIN9.out.ok,HIN9.out.fn63,HIN9.out.tn63⟩
     ·have HS3:Hid (staRd l=none):=hid (by
       rw [HS2.out]
       have:l6≠[]:=by
        rintro rfl
        exact h6 HN6.out.symm
       unfold staOk
       simp [this])
      have h6i:(0:Int)<(n6:Int):=by omega
      clear HS2 h6
      go_wp2_with (first|(refine zai rfl _ _ _ rfl _ _ _ _ rfl rfl HB8.out rfl zbx (by simp [Value.oneCell']) ?_;rintro wx hbx hcx;have HBX:=hid hbx;have HCX:=hid hcx;clear hbx hcx))
      refine yaE (zaU Tryz.results60 _ _ rfl HBX.out Tryz.underlying66 rfl zbx) rfl ?_
      rw [HS3.out]
      exact zdw.none rfl ((HC8.out.trans HCX.out (fun i hi e=>by have:=HQP.out;omega)).ext (fun i hi e=>by omega))
    ·have HS3:Hid (staRd l=none):=hid (by rw [HS2.out];simp [staOk])
     clear HS2
     go_wp2_with (first|(refine zai rfl _ _ _ rfl _ _ _ _ rfl rfl HB8.out rfl zbx (by simp [Value.oneCell']) ?_;rintro wx hbx hcx;have HBX:=hid hbx;have HCX:=hid hcx;clear hbx hcx))
     refine yaE (zaU Tryz.results60 _ _ rfl HBX.out Tryz.underlying66 rfl zbx) rfl ?_
     rw [HS3.out]
     exact zdw.none rfl ((HC8.out.trans HCX.out (fun i hi e=>by have:=HQP.out;omega)).ext (fun i hi e=>by omega))
  ·have HR2:Hid (staRd l=none):=hid (by rw [HR.out];simp [hk])
   have hki:((k.toNat:Int)==7)=false:=by
    simp only [yam,ne_eq]
    intro h
    exact hk (by apply UInt8.toNat_inj.mp;show k.toNat=7;omega)
   have hkn:((k.toNat:Int) != 7)=true:=by simp [hki,bne]
   clear HR hk
   go_wp2_with (first|(refine zai rfl _ _ _ rfl _ _ _ _ rfl rfl HB1.out rfl zbx (by simp [Value.oneCell']) ?_;rintro wx hbx hcx;have HBX:=hid hbx;have HCX:=hid hcx;clear hbx hcx))
   refine yaE (zaU Tryz.results60 _ _ rfl HBX.out Tryz.underlying66 rfl zbx) rfl ?_
   rw [HR2.out]
   exact zdw.none rfl (HX1.out.stored HCX.out (by have:=HGW.out;omega))
 ·have HR2:Hid (staRd l=none):=hid (by rw [HR.out];simp [hx0])
  have hxe:(x==0)=false:=by simp [hx0]
  have hxn:(x != 0)=true:=by simp [hx0]
  clear HR hx0
  go_wp2_with (first|(refine zai rfl _ _ _ rfl _ _ _ _ rfl rfl HB1.out rfl zbx (by simp [Value.oneCell']) ?_;rintro wx hbx hcx;have HBX:=hid hbx;have HCX:=hid hcx;clear hbx hcx))
  refine yaE (zaU Tryz.results60 _ _ rfl HBX.out Tryz.underlying66 rfl zbx) rfl ?_
  rw [HR2.out]
  exact zdw.none rfl (HX1.out.stored HCX.out (by have:=HGW.out;omega))
theorem staR_few {s:Sta}(h:staR s=true):s.fl.length≤512∧s.ti.length≤4:=by
 simp only [staR,staB,yaK,yaL] at h
 exact ⟨h.1.1.1.2,h.1.1.2⟩
end
section
open Go.RowKit Go.Sort Go.Lib
theorem staRd_fits {l:List UInt8}{s:Sta}(h:(staRd l).getD staZ=s):s.fl.length≤512∧s.ti.length≤4:=by
 subst h
 unfold staRd
 split
 ·exact ⟨by decide,by decide⟩
 ·unfold staOk
  split
  ·exact ⟨by decide,by decide⟩
  ·rename_i h
   have:staR (staFrom ⟨(openR l).2.1,false⟩).1=true:=by
    cases hr:staR (staFrom ⟨(openR l).2.1,false⟩).1 with
    | true=>rfl
    | false=>exact absurd (.inr (.inr hr)) h
   have:=staR_few this
   simpa using this
end
end Go.Proofs.YtlmfhjipbjkcbaaGreatDoor
