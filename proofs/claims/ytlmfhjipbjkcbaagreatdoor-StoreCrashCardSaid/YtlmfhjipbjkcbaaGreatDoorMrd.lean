/- x -/
import Derived.Test.YtlmfhjipbjkcbaaGreatDoorFop
import Derived.Deep.CutBlock
set_option maxHeartbeats 16000000
set_option maxRecDepth 100000
set_option linter.unusedSimpArgs false
set_option linter.unusedVariables false
namespace Go.Proofs.YtlmfhjipbjkcbaaGreatDoor
section
open Go.RowKit Go.Sort Go.Lib
structure Sta where
 x:Int
 r:Int
 q:Int
 km:Mk
 fl:List Fl
 ti:List Tr
abbrev staC (s:Sta) (fa:Option Addr) (fn fc:Nat) (ta:Option Addr) (tn tc:Nat):Array Value:=#[.int .i64 s.x,.int .i64 s.r,.int .i64 s.q,.bool s.km.s,.int .i64 s.km.t,.int .i64 s.km.g,.slice fa fn fc,.slice ta tn tc]
structure StIn (w:World) (s:Sta) (fa:Option Addr) (fn fc:Nat) (ta:Option Addr) (tn tc:Nat):Prop where
 fl:Src w 4 (.slice fa fn fc) fn (fls s.fl)
 ti:Src w 5 (.slice ta tn tc) tn (trs s.ti)
 ok:s.km.ok
 fn63:fn<4611686018427387904
 tn63:tn<4611686018427387904
theorem StIn.ext {w w':World}{s:Sta}{fa ta:Option Addr}{fn fc tn tc:Nat}(h:StIn w s fa fn fc ta tn tc) (hx:Ext w w'):StIn w' s fa fn fc ta tn tc:=⟨h.fl.ext hx,h.ti.ext hx,h.ok,h.fn63,h.tn63⟩
def staB (s:Sta):Bool:=mkR s.km&&(z60 s.x&&(z60 s.r&&z60 s.q))&&decide (s.fl.length≤512)&&decide (s.ti.length≤4)
def staR (s:Sta):Bool:=staB s&&s.fl.all flR&&s.ti.all trR
theorem src_z3 {W:World}{b:Nat}{x y z:Int}{t:TypeId}{fr:Nat×Nat}(h:W.heap[b]?=some (.cells #[.int .i64 x,.int .i64 y,.int .i64 z] t fr)):Src W 1 (.slice (some ⟨b,0,none⟩) 3 3) 3 (zints [x,y,z]):=by
 refine .inr ⟨_,_,rfl,rfl,fun j u hj=>?_,fun u hu=>by simp [zints] at hu;rcases hu with rfl|rfl|rfl<;>rfl⟩
 rw [yak,Nat.zero_add,zaa h]
 simpa [zints] using hj
theorem markP_len {m:Mk}(hm:m.ok):(markP m).length≤30:=by
 have h1:=zaQ (zbF m.g)
 have h2:=zaQ (zeb hm.t0 hm.t1)
 have h3:(varP 1).length≤10:=zaQ (by decide)
 have h4:(varP 0).length≤10:=zaQ (by decide)
 unfold markP
 rw [yae]
 split
 ·rw [yae];omega
 ·omega
theorem Buf.sl {w0 w:World}{l:List UInt8}{n c:Nat}{a:Option Addr}(h:Buf w0 l n a c w) (hn:n<4611686018427387904):SlB w a n c l:=⟨h.src,h.le,hn⟩
theorem staRight_any (w:World) (s:Sta) (fa ta:Option Addr) (fn fc tn tc:Nat) (hs:StIn w s fa fn fc ta tn tc) (hg:HasET w) :
 Calls Tryz.prog 110 #[.agg (staC s fa fn fc ta tn tc)] w fun e w'=>e=.returned (.bool (staR s))∧Ext w w':=by
 have HS:=hid hs
 have HG:=hid hg
 have HFN:=hid (zbA hs.fl)
 have HTN:=hid (zbm hs.ti)
 have hb:=mark_back s.km hs.ok
 have hok:=hs.ok
 obtain ⟨x,r,q,⟨b,t,g⟩,fl,ti⟩:=s
 simp only at hb hok HFN HTN
 have HOK:=hid hok
 obtain ⟨B,hB⟩:∃B,B=staB ⟨x,r,q,⟨b,t,g⟩,fl,ti⟩:=⟨_,rfl⟩
 have HB:Hid (B=(mkR ⟨b,t,g⟩&&allZ [x,r,q]&&decide (fn≤512)&&decide (tn≤4))):=hid (by rw [hB];simp [staB,allZ,HFN.out,HTN.out])
 have HR:Hid (staR ⟨x,r,q,⟨b,t,g⟩,fl,ti⟩=(B&&fl.all flR&&ti.all trR)):=hid (by rw [hB];rfl)
 generalize staR ⟨x,r,q,⟨b,t,g⟩,fl,ti⟩=R at *
 obtain ⟨l,hl⟩:∃l,l=markP ⟨b,t,g⟩:=⟨_,rfl⟩
 have hl30:l.length≤30:=by rw [hl];exact markP_len hok
 rw [←hl] at hb
 obtain ⟨⟨b2,t2,g2⟩,k2,z2,hr⟩:∃m k z,markR l=(m,k,z):=⟨_,_,_,rfl⟩
 rw [hr] at hb
 simp only at hb
 have HL:=hid hl
 have HRR:=hid hr
 have HBK:=hid hb
 obtain ⟨cm,hcm⟩:∃c,c=mkR ⟨b,t,g⟩:=⟨_,rfl⟩
 obtain ⟨cz,hcz⟩:∃c,c=allZ [x,r,q]:=⟨_,rfl⟩
 rw [←hcm,←hcz] at HB
 have HCM:=hid hcm
 have HCZ:=hid hcz
 clear hs hg hb hok hB hl hr hcm hcz
 go_enter Tryz.func110,Tryz.ntmps110
 go_wp2_with fail
 generalize hW:World.alloc _ _=W
 have HX0:Hid (Ext w W):=hid (by subst hW;exact (Ext.refl w).alloc _)
 have HBX:Hid (W.heap[w.heap.size]?=some (.cells #[.int .i64 x,.int .i64 r,.int .i64 q,.bool b,.int .i64 t,.int .i64 g,.slice fa fn fc,.slice ta tn tc] 66 (0,0))):=hid (by subst hW;exact heap_alloc_new w _)
 clear hW
 have HB0:Hid (Buf w [] 0 none 0 W):=hid ((Buf.nil w).ext HX0.out)
 refine (waterPut_b ⟨b,t,g⟩ HOK.out HB0.out (by decide)).mono ?_
 rintro e w1 ⟨a1,c1,n1,rfl,hB1,hx1,hn1,-⟩
 have HBX:=hid (hx1.keep HBX.out)
 have HX:=hid (HX0.out.trans hx1)
 rw [yaP,←HL.out] at hB1
 have HB1:=hid hB1
 clear hB1 hx1
 go_wp2_with fail
 refine (waterRead_any w1 a1 n1 c1 l (HB1.out.sl (by omega)) (HG.out.ext HX.out)).mono ?_
 rw [HRR.out]
 rintro e w2 ⟨rfl,hx2⟩
 have HBX:=hid (hx2.keep HBX.out)
 have HX:=hid (HX.out.trans hx2)
 clear hx2
 go_upto_region 2 with fail
 obtain ⟨d,hd⟩:∃d,d=w2.heap.size:=⟨_,rfl⟩
 have HB3:Hid ((w2.alloc (.cells #[.bool b2,.int .i64 t2,.int .i64 g2] 46 (0,0))).heap[d]?=some (.cells #[.bool b2,.int .i64 t2,.int .i64 g2] 46 (0,0))):=hid (by rw [hd];exact heap_alloc_new w2 _)
 have hx3:=(Ext.refl w2).alloc (.cells #[.bool b2,.int .i64 t2,.int .i64 g2] 46 (0,0))
 rw [←hd]
 clear hd
 generalize w2.alloc _=w3 at *
 have HBX:=hid (hx3.keep HBX.out)
 have HX:=hid (HX.out.trans hx3)
 clear hx3
 go_cut [6] (fun s6 wx=>s6=.bool B∧Hid (Ext w3 wx))
 case first =>
  have hcm:Hid (cm=true↔z2=0∧(⟨b2,t2,g2⟩:Mk)=⟨b,t,g⟩):=hid (by rw [HCM.out];exact HBK.out.symm)
  have H0:=hid (fun (w:World) (b:Nat) (h:w.heap[b]?=some (Obj.cells #[.int .i64 x,.int .i64 r,.int .i64 q] 3 (0,0)))=>from0_any w _ 3 3 [x,r,q] (src_z3 h) (by decide))
  rw [←HCZ.out] at H0
  clear HX HCM HCZ HBK HRR HL HOK HR HB0 HX0
  have c0:=zaa HBX.out 0
  have c1:=zaa HBX.out 1
  have c2:=zaa HBX.out 2
  have c3:=zaa HBX.out 3
  have c4:=zaa HBX.out 4
  have c5:=zaa HBX.out 5
  have c6:=zaa HBX.out 6
  have c7:=zaa HBX.out 7
  have d0:=zaa HB3.out 0
  have d1:=zaa HB3.out 1
  have d2:=zaa HB3.out 2
  clear HB3
  by_cases hz:z2=0
  ·subst hz
   by_cases h1:b2=b
   ·subst h1
    by_cases h2:t2=t
    ·subst h2
     by_cases h3:g2=g
     ·subst h3
      have hc:Hid (cm=true):=hid (hcm.out.mpr ⟨rfl,rfl⟩)
      rw [hc.out,Bool.true_and] at HB
      clear hcm hc
      cases cz
      ·as_aux_lemma =>
        have hR:Hid (B=false):=hid (by rw [HB.out];simp)
        clear HB
        go_wp2_with fail
        refine (H0.out _ _ (heap_alloc_new w3 _)).mono ?_
        rintro e w' ⟨rfl,rfl⟩
        generalize hW4:World.alloc w3 _=w4
        have HX4:Hid (Ext w3 w4):=hid (by subst hW4;exact (Ext.refl w3).alloc _)
        have HBX:=hid (HX4.out.keep HBX.out)
        clear hW4 c6 c7
        have c6:=zaa HBX.out 6
        have c7:=zaa HBX.out 7
        go_wp2_with fail
        go_meet
        exact ⟨by rw [hR.out]<;>(simp;omega),HX4⟩
      ·by_cases hf:(fn:Int)≤512
       ·by_cases ht:(tn:Int)≤4
        ·as_aux_lemma =>
          have hR:Hid (B=true):=hid (by rw [HB.out];simp;omega)
          clear HB
          go_wp2_with fail
          refine (H0.out _ _ (heap_alloc_new w3 _)).mono ?_
          rintro e w' ⟨rfl,rfl⟩
          generalize hW4:World.alloc w3 _=w4
          have HX4:Hid (Ext w3 w4):=hid (by subst hW4;exact (Ext.refl w3).alloc _)
          have HBX:=hid (HX4.out.keep HBX.out)
          clear hW4 c6 c7
          have c6:=zaa HBX.out 6
          have c7:=zaa HBX.out 7
          go_wp2_with fail
          go_meet
          exact ⟨by rw [hR.out]<;>(simp;omega),HX4⟩
        ·as_aux_lemma =>
          have hR:Hid (B=false):=hid (by rw [HB.out];simp;omega)
          clear HB
          go_wp2_with fail
          refine (H0.out _ _ (heap_alloc_new w3 _)).mono ?_
          rintro e w' ⟨rfl,rfl⟩
          generalize hW4:World.alloc w3 _=w4
          have HX4:Hid (Ext w3 w4):=hid (by subst hW4;exact (Ext.refl w3).alloc _)
          have HBX:=hid (HX4.out.keep HBX.out)
          clear hW4 c6 c7
          have c6:=zaa HBX.out 6
          have c7:=zaa HBX.out 7
          go_wp2_with fail
          go_meet
          exact ⟨by rw [hR.out]<;>(simp;omega),HX4⟩
       ·as_aux_lemma =>
         have hR:Hid (B=false):=hid (by rw [HB.out];simp;omega)
         clear HB
         go_wp2_with fail
         refine (H0.out _ _ (heap_alloc_new w3 _)).mono ?_
         rintro e w' ⟨rfl,rfl⟩
         generalize hW4:World.alloc w3 _=w4
         have HX4:Hid (Ext w3 w4):=hid (by subst hW4;exact (Ext.refl w3).alloc _)
         have HBX:=hid (HX4.out.keep HBX.out)
         clear hW4 c6 c7
         have c6:=zaa HBX.out 6
         have c7:=zaa HBX.out 7
         go_wp2_with fail
         go_meet
         exact ⟨by rw [hR.out]<;>(simp;omega),HX4⟩
     ·have hc:Hid (cm=false):=hid (by cases cm with|false=>rfl|true=>exact absurd (hcm.out.mp rfl) (by rintro ⟨e1,e2⟩;simp at e2;omega))
      rw [hc.out] at HB
      clear hcm hc
      have he:(g2==g)=false:=by simp [h3]
      as_aux_lemma =>
       have hR:Hid (B=false):=hid (by rw [HB.out];simp)
       clear HB
       go_wp2_with fail
       go_meet
       exact ⟨by rw [hR.out]<;>(simp;omega),hid (Ext.refl _)⟩
    ·have hc:Hid (cm=false):=hid (by cases cm with|false=>rfl|true=>exact absurd (hcm.out.mp rfl) (by rintro ⟨e1,e2⟩;simp at e2;omega))
     rw [hc.out] at HB
     clear hcm hc
     have he:(t2==t)=false:=by simp [h2]
     as_aux_lemma =>
      have hR:Hid (B=false):=hid (by rw [HB.out];simp)
      clear HB
      go_wp2_with fail
      go_meet
      exact ⟨by rw [hR.out]<;>(simp;omega),hid (Ext.refl _)⟩
   ·have hc:Hid (cm=false):=hid (by cases cm with|false=>rfl|true=>exact absurd (hcm.out.mp rfl) (by rintro ⟨e1,e2⟩;simp at e2;exact h1 e2.1))
    rw [hc.out] at HB
    clear hcm hc
    have he:(b2==b)=false:=by simp [h1]
    as_aux_lemma =>
     have hR:Hid (B=false):=hid (by rw [HB.out];simp)
     clear HB
     go_wp2_with fail
     go_meet
     exact ⟨by rw [hR.out]<;>(simp;omega),hid (Ext.refl _)⟩
  ·have hc:Hid (cm=false):=hid (by cases cm with|false=>rfl|true=>exact absurd (hcm.out.mp rfl) (by rintro ⟨e1,e2⟩;simp at e2;exact hz e1))
   rw [hc.out] at HB
   clear hcm hc
   have he:(z2==0)=false:=by simp [hz]
   as_aux_lemma =>
    have hR:Hid (B=false):=hid (by rw [HB.out];simp)
    clear HB
    go_wp2_with fail
    go_meet
    exact ⟨by rw [hR.out]<;>(simp;omega),hid (Ext.refl _)⟩
 case rest =>
  obtain ⟨rfl,hcx⟩:=hcut
  have HBX:=hid (hcx.out.keep HBX.out)
  have HX:=hid (HX.out.trans hcx.out)
  have HSC:=hid (HS.out.ext HX.out)
  have HFF:=hid HSC.out.fl
  have HTT:=hid HSC.out.ti
  have hfn:=HSC.out.fn63
  have htn:=HSC.out.tn63
  simp only at HFF HTT
  clear hcx HSC HS HG HL HRR HBK HCM HCZ HB HX0 HB0 HB1 HB3 HOK hl30 hn1
  go_upto_block 0 with fail
  go_cut [6] (fun s6 wx=>s6=.bool (B&&fl.all flR)∧Hid (Ext wc wx))
  case first =>
   have c6:=zaa HBX.out 6
   clear HR HTT
   go_wp2_with fail
   go_loopw [7,6] (fun si so wr=>∃(k:Nat) (o:Bool),k≤fn∧si=.int .i64 k∧so=.bool o∧Hid (o=(B&&(fl.take k).all flR))∧Hid (Ext wc wr)) (fun si _ _=>fn-(RowKit.intOf si).toNat)
   case atStart=>exact ⟨0,B,by omega,rfl,rfl,hid (by simp),hid (Ext.refl _)⟩
   case round =>
    obtain ⟨k,o,hk,rfl,rfl,HO,HE⟩:=hrel
    have HBY:=hid (HE.out.keep HBX.out)
    clear c6
    have c6:=zaa HBY.out 6
    cases o
    ·have hR:Hid ((B&&fl.all flR)=false):=hid (by
      have h:=HO.out.symm
      cases B with
      | false=>rfl
      | true =>
       rw [Bool.true_and] at h ⊢
       rw [List.all_eq_false] at h ⊢
       obtain ⟨y,hy,hy2⟩:=h
       exact ⟨y,List.mem_of_mem_take hy,hy2⟩)
     clear HO
     go_wp2_with fail
     go_meet
     exact ⟨by rw [hR.out],HE⟩
    ·by_cases hlt:k<fn
     ·obtain ⟨fb,fo,p,rfl,hp,p0,p1,p2,p3⟩:=fls_src (HFF.out.ext HE.out) hlt
      have HK:Hid (∀o':Bool,o'=flR p→o'=(B&&(fl.take (k+1)).all flR)):=hid (fun o' e=>by
       have h:=HO.out
       have hB:B=true:=by cases B with|false=>simp at h|true=>rfl
       rw [hB,Bool.true_and] at h ⊢
       rw [yao,hp,List.all_append,←h,e]
       simp)
      have HP:=hid (fun w=>fileRight_any p w)
      obtain ⟨o',ho'⟩:∃o',o'=flR p:=⟨_,rfl⟩
      rw [←ho'] at HP
      have HK2:=hid (HK.out o' ho')
      clear ho' HK HO hp
      go_wp2_with fail
      refine (HP.out _).mono ?_
      rintro e w' ⟨rfl,hx⟩
      have HE2:=hid (HE.out.trans hx)
      clear hx
      go_wp2_with fail
      go_roundw
      case rel=>exact ⟨k+1,o',by omega,by go_num,rfl,HK2,HE2⟩
      case measure=>simp [RowKit.intOf];omega
     ·obtain rfl:k=fn:=by omega
      have hR:Hid ((B&&fl.all flR)=true):=hid (by
       have h:=HO.out
       rw [yai (by rw [HFN.out];exact Nat.le_refl _)] at h
       exact h.symm)
      clear HO
      go_wp2_with fail
      go_meet
      exact ⟨by rw [hR.out],HE⟩
  case rest =>
   obtain ⟨rfl,hcx⟩:=hcut
   have HBX:=hid (hcx.out.keep HBX.out)
   have HX:=hid (HX.out.trans hcx.out)
   have HTT:=hid (HTT.out.ext hcx.out)
   obtain ⟨B2,hB2⟩:∃B2,B2=(B&&fl.all flR):=⟨_,rfl⟩
   rw [←hB2] at HR ⊢
   clear hcx HFF hB2
   go_upto_block 2 with fail
   have c7:=zaa HBX.out 7
   go_wp2_with fail
   have HXW:=hid HX.out
   go_loopw [8,6] (fun si so wr=>∃(k:Nat) (o:Bool),k≤tn∧si=.int .i64 k∧so=.bool o∧Hid (o=(B2&&(ti.take k).all trR))∧Hid (Ext wc wr)) (fun si _ _=>tn-(RowKit.intOf si).toNat)
   case atStart=>exact ⟨0,B2,by omega,rfl,rfl,hid (by simp),hid (Ext.refl _)⟩
   case round =>
    obtain ⟨k,o,hk,rfl,rfl,HO,HE⟩:=hrel
    have HBY:=hid (HE.out.keep HBX.out)
    clear c7
    have c7:=zaa HBY.out 7
    cases o
    ·have hR:Hid (R=false):=hid (by
      rw [HR.out]
      have h:=HO.out.symm
      cases B2 with
      | false=>rfl
      | true =>
       rw [Bool.true_and] at h ⊢
       rw [List.all_eq_false] at h ⊢
       obtain ⟨y,hy,hy2⟩:=h
       exact ⟨y,List.mem_of_mem_take hy,hy2⟩)
     clear HO
     go_wp2_with fail
     go_ret
     rw [hR.out]
     exact ⟨rfl,HX.out.trans HE.out⟩
    ·by_cases hlt:k<tn
     ·obtain ⟨fb,fo,p,rfl,hp,p0,p1,p2,p3,p4⟩:=trs_src (HTT.out.ext HE.out) hlt
      have HK:Hid (∀o':Bool,o'=trR p→o'=(B2&&(ti.take (k+1)).all trR)):=hid (fun o' e=>by
       have h:=HO.out
       have hB:B2=true:=by cases B2 with|false=>simp at h|true=>rfl
       rw [hB,Bool.true_and] at h ⊢
       rw [yao,hp,List.all_append,←h,e]
       simp)
      have HP:=hid (fun w=>tierRight_any p w)
      obtain ⟨o',ho'⟩:∃o',o'=trR p:=⟨_,rfl⟩
      rw [←ho'] at HP
      have HK2:=hid (HK.out o' ho')
      clear ho' HK HO hp
      go_wp2_with fail
      refine (HP.out _).mono ?_
      rintro e w' ⟨rfl,hx⟩
      have HE2:=hid (HE.out.trans hx)
      clear hx
      go_wp2_with fail
      go_roundw
      case rel=>exact ⟨k+1,o',by omega,by go_num,rfl,HK2,HE2⟩
      case measure=>simp [RowKit.intOf];omega
     ·obtain rfl:k=tn:=by omega
      have hR:Hid (R=true):=hid (by
       rw [HR.out]
       have h:=HO.out
       rw [yai (by rw [HTN.out];exact Nat.le_refl _)] at h
       exact h.symm)
      clear HO
      go_wp2_with fail
      go_ret
      rw [hR.out]
      exact ⟨rfl,HX.out.trans HE.out⟩
structure BoxB (w0:World) (g:Nat) (l:List UInt8) (k:Nat) (w:World):Prop where
 blk:∃a n c,w.heap[g]?=some (.cells #[.slice a n c] 51 (0,0))∧Buf w0 l n a c w∧n≤k∧(Value.slice a n c).ownBlock≠some g
 new:w0.heap.size≤g
 ext:Ext w0 w
theorem BoxB.put {w0 w w1:World}{g k k':Nat}{l l':List UInt8}{a':Option Addr}{n' c':Nat}(h:BoxB w0 g l k w) (hx:Ext w w1) (hB:Buf w l' n' a' c' w1) (hk:n'≤k'):BoxB w0 g l' k' (w1.setCell ⟨g,0,none⟩ (.slice a' n' c')):=by
 obtain ⟨a,n,c,hb,hBuf,hn,ho⟩:=h.blk
 have hlt:=zab hb
 have hb1:=hx.keep hb
 have hC:=zaj w1 g 0 (.slice a' n' c')
 have ho':∀q,(Value.slice a' n' c').ownBlock=some q→q≠g:=fun q hq=>by have:=hB.made.own q hq;omega
 have hx':Ext w0 (w1.setCell ⟨g,0,none⟩ (.slice a' n' c')):=(h.ext.trans hx).setCell (p:=⟨g,0,none⟩) h.new _
 refine ⟨⟨a',n',c',by have:=zaq hb1 (i:=0) (.slice a' n' c');simpa using this,⟨⟨hB.made.row.chg hC (fun q hq=>ho' q hq),fun q hq=>?_,hx'⟩,hB.len⟩,hk,fun e=>ho' g e rfl⟩,h.new,hx'⟩
 have h1:=hB.made.own q hq
 have h2:=h.ext.size
 omega
theorem BoxB.ext' {w0 w w1:World}{g k:Nat}{l:List UInt8}(h:BoxB w0 g l k w) (hx:Ext w w1):BoxB w0 g l k w1:=by
 obtain ⟨a,n,c,hb,hBuf,hn,ho⟩:=h.blk
 exact ⟨⟨a,n,c,hx.keep hb,hBuf.ext hx,hn,ho⟩,h.new,h.ext.trans hx⟩
theorem zbp (w0 w:World) (g k:Nat) (l:List UInt8) (z:Int) (h:BoxB w0 g l k w) (hk:k≤35184372088832) :
 Calls Tryz.prog 114 #[.int .i64 z,.pointer (some ⟨g,0,none⟩)] w fun e w'=>e=.returned (.tuple #[])∧BoxB w0 g (l++varP (u64n z)) (k+10) w'∧Chg (·=g) w w':=by
 obtain ⟨a,n,c,hb,hB,hn,ho⟩:=h.blk
 have H:=hid h
 have HB:=hid hB
 have HBB:=hid hb
 have HSRC:=hid hB.src
 have c0:=zaa hb 0
 have hlen:=hB.len
 have HLEN:=hid hlen
 clear h hb hB ho hlen
 go_enter Tryz.func114,Tryz.ntmps114
 go_wp2_with fail
 rw [u64n_wrap]
 refine (varPut' w a n c l (u64n z) (zbF z) HSRC.out HB.out.le (by omega)).mono ?_
 rintro e w1 ⟨a1,c1,rfl,hm⟩
 obtain ⟨n1,hn1⟩:∃n1,n1=(l++varP (u64n z)).length:=⟨_,rfl⟩
 rw [←hn1] at hm ⊢
 have hk1:n1≤k+10:=by
  have:=zaQ (zbF z)
  have:=HLEN.out
  rw [hn1,yae];omega
 have HN:=hid (H.out.put hm.ext ⟨hm,hn1⟩ hk1)
 have HBB1:=hid (hm.ext.keep HBB.out)
 have HX:=hid hm.ext
 have c1':=zaa HBB1.out 0
 have z0:=zan HBB1.out 0
 clear hm hn1 c0
 go_wp2_with fail
 go_end0
 exact ⟨rfl,HN.out,(Chg.of_ext HX.out).trans (zaj _ _ _ _) (fun _ _ e=>e)⟩
def filP (p:Fl):List UInt8:=txtP p.nm++varP (zig p.a)++varP (zig p.b)++varP (u64n p.k)
def tirP (p:Tr):List UInt8:=varP (u64n p.w)++varP (u64n p.o)++(if p.m then varP (u64n 1)++varP (zig p.u)++txtP p.f else varP (u64n 0))
def staP (s:Sta):List UInt8:=varP (u64n s.x)++varP (u64n s.r)++varP (u64n s.q)++markP s.km++varP (u64n (s.fl.length:Int))++s.fl.flatMap filP++varP (u64n (s.ti.length:Int))++s.ti.flatMap tirP
theorem flR_parts {p:Fl}(h:flR p=true):p.nm.size≤64∧(-1152921504606846976≤p.a∧p.a≤1152921504606846976)∧(-1152921504606846976≤p.b∧p.b≤1152921504606846976)∧0<p.k∧p.k≤1152921504606846976:=by
 simp [flR,nmB,tmB,z60,inB] at h
 omega
theorem trR_parts {p:Tr}(h:trR p=true):1≤p.w∧p.w≤1099511627776∧0≤p.o∧p.o<p.w∧(p.m=true→p.f.size≤64∧(-1152921504606846976≤p.u∧p.u≤1152921504606846976)):=by
 obtain ⟨d,q,u,m,f⟩:=p
 cases m
 ·simp [trR] at h ⊢;omega
 ·simp [trR,nmB,tmB] at h ⊢;omega
theorem filP_len {p:Fl}(h:flR p=true):(filP p).length≤104:=by
 obtain ⟨h1,⟨h2,h3⟩,⟨h4,h5⟩,_,_⟩:=flR_parts h
 have e1:=txtP_len (s:=p.nm) (by omega)
 have e2:=zaQ (zeb (n:=p.a) (by omega) (by omega))
 have e3:=zaQ (zeb (n:=p.b) (by omega) (by omega))
 have e4:=zaQ (zbF p.k)
 unfold filP
 simp only [yae]
 omega
theorem tirP_len {p:Tr}(h:trR p=true):(tirP p).length≤114:=by
 obtain ⟨_,_,_,_,h5⟩:=trR_parts h
 have e1:=zaQ (zbF p.w)
 have e2:=zaQ (zbF p.o)
 have e3:=zaQ (zbF 1)
 have e4:=zaQ (zbF 0)
 unfold tirP
 simp only [yae]
 split
 ·rename_i hm
  obtain ⟨h6,h7,h8⟩:=h5 hm
  have e5:=txtP_len (s:=p.f) (by omega)
  have e6:=zaQ (zeb (n:=p.u) (by omega) (by omega))
  simp only [yae]
  omega
 ·omega
theorem staR_parts {s:Sta}(h:staR s=true):s.fl.length≤512∧s.ti.length≤4∧(∀p∈s.fl,flR p=true)∧(∀p∈s.ti,trR p=true):=by
 simp only [staR,staB,yaK,yaL,yaV] at h
 exact ⟨h.1.1.1.2,h.1.1.2,h.1.2,h.2⟩
def BytesTo (w:World) (s:Sta) (e:Ending) (w':World):Prop :=
 if staR s=true then SealPost w 7 (staP s) e w' else e=.returned (.tuple #[.slice none 0 0,.int .i64 2])∧Ext w w'
theorem BoxB.put' {w0 w w1:World}{g k k':Nat}{l l':List UInt8}{a':Option Addr}{n' c':Nat}(h:BoxB w0 g l k w) (hx:Ext w w1) (hB:Buf w0 l' n' a' c' w1) (hk:n'≤k') (ho:∀q,(Value.slice a' n' c').ownBlock=some q→w.heap.size≤q):BoxB w0 g l' k' (w1.setCell ⟨g,0,none⟩ (.slice a' n' c')) :=
 h.put hx ⟨⟨hB.made.row,ho,hx⟩,hB.len⟩ hk
theorem manBytes_any (w:World) (s:Sta) (fa ta:Option Addr) (fn fc tn tc:Nat) (hs:StIn w s fa fn fc ta tn tc) (hg:HasET w) :
 Calls Tryz.prog 64 #[.agg (staC s fa fn fc ta tn tc)] w (BytesTo w s):=by
 have HS:=hid hs
 have HG:=hid hg
 have HFN:=hid (zbA hs.fl)
 have HTN:=hid (zbm hs.ti)
 have HRT:=hid (fun W (hx:Ext w W)=>staRight_any W s fa ta fn fc tn tc (hs.ext hx) (hg.ext hx))
 by_cases hR:staR s=true
 ·have HB:Hid (∀e w',SealPost w 7 (staP s) e w'→BytesTo w s e w'):=hid (fun e w' h=>by unfold BytesTo;rw [if_pos hR];exact h)
  have HP:=hid (staR_parts hR)
  rw [hR] at HRT
  clear hs hg hR
  obtain ⟨x,r,q,⟨b,t,g⟩,fl,ti⟩:=s
  go_enter Tryz.func64,Tryz.ntmps64
  go_wp2_with fail
  generalize hW:World.alloc _ _=W
  have HX0:Hid (Ext w W):=hid (by subst hW;exact (Ext.refl w).alloc _)
  have HBX:Hid (W.heap[w.heap.size]?=some (.cells #[.int .i64 x,.int .i64 r,.int .i64 q,.bool b,.int .i64 t,.int .i64 g,.slice fa fn fc,.slice ta tn tc] 66 (0,0))):=hid (by subst hW;exact heap_alloc_new w _)
  clear hW
  refine (HRT.out W HX0.out).mono ?_
  rintro e w1 ⟨rfl,hx⟩
  replace HBX:=hid (hx.keep HBX.out)
  have HX:=hid (HX0.out.trans hx)
  clear hx HX0 HRT
  go_upto_region 5 with fail
  obtain ⟨d,hd⟩:∃d,d=w1.heap.size:=⟨_,rfl⟩
  have HNE:Hid (w.heap.size<d):=hid (by rw [hd];exact zab HBX.out)
  have HB3:Hid ((w1.alloc (.cells #[.slice none 0 0] 51 (0,0))).heap[d]?=some (.cells #[.slice none 0 0] 51 (0,0))):=hid (by rw [hd];exact heap_alloc_new w1 _)
  have hx3:=(Ext.refl w1).alloc (.cells #[.slice none 0 0] 51 (0,0))
  rw [←hd]
  clear hd
  generalize w1.alloc _=w2 at *
  replace HBX:=hid (hx3.keep HBX.out)
  have HBB:Hid (BoxB w d [] 0 w2):=hid ⟨⟨none,0,0,HB3.out,(Buf.nil w).ext (HX.out.trans hx3),Nat.le_refl _,by simp [Value.ownBlock]⟩,by have:=HNE.out;omega,HX.out.trans hx3⟩
  clear hx3 HX HB3
  ((try clear c0 c1 c2 c3 c4 c5 c6 c7);have c0:=zaa HBX.out 0;have c1:=zaa HBX.out 1;have c2:=zaa HBX.out 2;have c3:=zaa HBX.out 3;have c4:=zaa HBX.out 4;have c5:=zaa HBX.out 5;have c6:=zaa HBX.out 6;have c7:=zaa HBX.out 7)
  go_wp2_with fail
  (
    refine (zbp w _ d _ _ _ HBB.out (by omega)).mono ?_
    rintro e wn ⟨rfl,hB,hC⟩
    replace HBB:=hid hB
    replace HBX:=hid ((hC.block _ (zab HBX.out) (by have:=HNE.out;omega)).trans HBX.out)
    clear hB hC
    ((try clear c0 c1 c2 c3 c4 c5 c6 c7);have c0:=zaa HBX.out 0;have c1:=zaa HBX.out 1;have c2:=zaa HBX.out 2;have c3:=zaa HBX.out 3;have c4:=zaa HBX.out 4;have c5:=zaa HBX.out 5;have c6:=zaa HBX.out 6;have c7:=zaa HBX.out 7)
    go_wp2_with fail)
  (
    refine (zbp w _ d _ _ _ HBB.out (by omega)).mono ?_
    rintro e wn ⟨rfl,hB,hC⟩
    replace HBB:=hid hB
    replace HBX:=hid ((hC.block _ (zab HBX.out) (by have:=HNE.out;omega)).trans HBX.out)
    clear hB hC
    ((try clear c0 c1 c2 c3 c4 c5 c6 c7);have c0:=zaa HBX.out 0;have c1:=zaa HBX.out 1;have c2:=zaa HBX.out 2;have c3:=zaa HBX.out 3;have c4:=zaa HBX.out 4;have c5:=zaa HBX.out 5;have c6:=zaa HBX.out 6;have c7:=zaa HBX.out 7)
    go_wp2_with fail)
  (
    refine (zbp w _ d _ _ _ HBB.out (by omega)).mono ?_
    rintro e wn ⟨rfl,hB,hC⟩
    replace HBB:=hid hB
    replace HBX:=hid ((hC.block _ (zab HBX.out) (by have:=HNE.out;omega)).trans HBX.out)
    clear hB hC
    ((try clear c0 c1 c2 c3 c4 c5 c6 c7);have c0:=zaa HBX.out 0;have c1:=zaa HBX.out 1;have c2:=zaa HBX.out 2;have c3:=zaa HBX.out 3;have c4:=zaa HBX.out 4;have c5:=zaa HBX.out 5;have c6:=zaa HBX.out 6;have c7:=zaa HBX.out 7))
  obtain ⟨va,vn,vc,hb,hB,hvn,-⟩:=HBB.out.blk
  have d0:=zaa hb 0
  have HB4:=hid hB
  have HD:=hid hb
  clear hb hB
  go_wp2_with fail
  refine (waterPut_b ⟨b,t,g⟩ HS.out.ok HB4.out (by omega)).mono ?_
  rintro e wn ⟨a5,c5',n5,rfl,hB,hx,hn,ho⟩
  have HX5:=hid hx
  replace HBX:=hid (hx.keep HBX.out)
  have HD5:=hid (hx.keep HD.out)
  have HBB5:=hid (HBB.out.put' hx hB (Nat.le_trans hn (Nat.add_le_add_right hvn 30)) ho)
  clear hB hx hn ho d0
  have d0:=zaa HD5.out 0
  have z0:=zan HD5.out 0
  ((try clear c0 c1 c2 c3 c4 c5 c6 c7);have c0:=zaa HBX.out 0;have c1:=zaa HBX.out 1;have c2:=zaa HBX.out 2;have c3:=zaa HBX.out 3;have c4:=zaa HBX.out 4;have c5:=zaa HBX.out 5;have c6:=zaa HBX.out 6;have c7:=zaa HBX.out 7)
  go_upto_region 9 with fail
  replace HBX:=hid (((zaj wn d 0 (.slice a5 n5 c5')).block _ (zab HBX.out) (by have:=HNE.out;omega)).trans HBX.out)
  clear HD HD5 HB4 d0 z0
  generalize World.setCell _ _ _=w6 at *
  clear HBB
  have HBB:=HBB5
  clear HBB5 HX5
  ((try clear c0 c1 c2 c3 c4 c5 c6 c7);have c0:=zaa HBX.out 0;have c1:=zaa HBX.out 1;have c2:=zaa HBX.out 2;have c3:=zaa HBX.out 3;have c4:=zaa HBX.out 4;have c5:=zaa HBX.out 5;have c6:=zaa HBX.out 6;have c7:=zaa HBX.out 7)
  go_wp2_with fail
  (
    refine (zbp w _ d _ _ _ HBB.out (by omega)).mono ?_
    rintro e wn ⟨rfl,hB,hC⟩
    replace HBB:=hid hB
    replace HBX:=hid ((hC.block _ (zab HBX.out) (by have:=HNE.out;omega)).trans HBX.out)
    clear hB hC
    ((try clear c0 c1 c2 c3 c4 c5 c6 c7);have c0:=zaa HBX.out 0;have c1:=zaa HBX.out 1;have c2:=zaa HBX.out 2;have c3:=zaa HBX.out 3;have c4:=zaa HBX.out 4;have c5:=zaa HBX.out 5;have c6:=zaa HBX.out 6;have c7:=zaa HBX.out 7))
  obtain ⟨L1,hL1⟩:∃L,L=[]++varP (u64n x)++varP (u64n r)++varP (u64n q)++markP ⟨b,t,g⟩++varP (u64n (fn:Int)):=⟨_,rfl⟩
  rw [←hL1] at HBB
  go_upto_block 0 with fail
  go_cut [4] (fun s4 wx=>s4=.pointer (some ⟨d,0,none⟩)∧Hid (BoxB w d (L1++fl.flatMap filP) (70+104*512) wx)∧Hid (Chg (·=d) wn wx))
  case first =>
   go_wp2_with fail
   go_loopw [38] (fun i wr=>∃k:Nat,k≤fn∧i=.int .i64 k∧Hid (BoxB w d (L1++(fl.take k).flatMap filP) (70+104*k) wr)∧Hid (Chg (·=d) wn wr)) (fun i _=>fn-(RowKit.intOf i).toNat)
   case atStart=>exact ⟨0,by omega,rfl,hid (by have h:=HBB.out;simp only [List.take_zero,List.flatMap_nil,List.append_nil];exact h),hid (Chg.refl _ _)⟩
   case round =>
    obtain ⟨k,hk,rfl,HK,HC⟩:=hrel
    by_cases hlt:k<fn
    ·obtain ⟨fb,fo,p,rfl,hp,p0,p1,p2,p3⟩:=fls_src (HS.out.fl.ext HK.out.ext) hlt
     have hpm:=(HP.out.2.2.1) p (yag hp)
     have HPM:=hid (flR_parts hpm)
     have HK5:=hid (HP.out.1)
     have hk512:k≤512:=by have:=HFN.out;have:=HK5.out;simp only at *;omega
     have HNX:Hid (L1++(fl.take k).flatMap filP++txtP p.nm++varP (zig p.a)++varP (zig p.b)++varP (u64n p.k)=L1++(fl.take (k+1)).flatMap filP):=hid (by
      rw [yao,(show fl[k]?=some p from hp)]
      simp [filP,yaj])
     clear hpm hp
     go_upto_region 13 with fail
     obtain ⟨f,hf⟩:∃f,f=wr.heap.size:=⟨_,rfl⟩
     have HDF:Hid (f≠d):=hid (by
      obtain ⟨_,_,_,hb,_⟩:=HK.out.blk
      have:=zab hb
      omega)
     have HFX:Hid ((wr.alloc (.cells #[.string p.nm,.int .i64 p.a,.int .i64 p.b,.int .i64 p.k] 110 (0,0))).heap[f]?=some (.cells #[.string p.nm,.int .i64 p.a,.int .i64 p.b,.int .i64 p.k] 110 (0,0))):=hid (by rw [hf];exact heap_alloc_new wr _)
     have HXA:=hid ((Ext.refl wr).alloc (.cells #[.string p.nm,.int .i64 p.a,.int .i64 p.b,.int .i64 p.k] 110 (0,0)))
     rw [←hf]
     clear hf p0 p1 p2 p3 c0 c1 c2 c3 c4 c5 c6 c7
     generalize wr.alloc _=wa at *
     have HKA:=hid (HK.out.ext' HXA.out)
     have HCA:=hid (HC.out.trans (Chg.of_ext HXA.out) (fun _ _ e=>e))
     obtain ⟨va2,vn2,vc2,hb,hB,hvn2,-⟩:=HKA.out.blk
     have HB2:=hid hB
     have f4:=zaf (T:=fun _=>false) (zaa hb 0) rfl
     have f0:=zaf (T:=fun _=>false) (zaa HFX.out 0) rfl
     have f1:=zaf (T:=fun _=>false) (zaa HFX.out 1) rfl
     have f2:=zaf (T:=fun _=>false) (zaa HFX.out 2) rfl
     clear hB hb
     refine zao 9 (fun w'=>∃p:Turned,w'=turned wa (fun _=>false) p.d p.f p.os) (.reads [0,1,2,4,5,7,8] (.one 3 (.one 6 (.one 9 (.one 10 .done))))) (by kernel_rfl) (by kernel_rfl) (fun _ _ dd _ _ hh=>by cases dd<;>exact hh) ?_ ?_
     ·exact zad (Ext.drewN wa 1)
     refine zak ?_
     simp only [zac,yab,yaa]
     iterate 7 (go_big_quiet_step (fail))
     refine yaF ?_
     clear f0 f1 f2 f4
     refine zae ?_
     simp only [zac,yab,yaa]
     go_wp2_with fail
     have q1:=HPM.out.1
     refine (varPutText_b p.nm (by omega) (HB2.out.ext (Ext.drewN wa 1)) (by omega)).mono ?_
     rintro e w2' ⟨a2,c2,n2,rfl,hB2,hx2,hn2,ho2⟩
     have HBA:=hid hB2
     have HXB:=hid ((Ext.drewN wa 1).trans hx2)
     clear hB2 hx2
     go_wp2_with fail
     refine zal (zad HXB.out) (zae ?_)
     simp only [zac,yab,yaa]
     go_wp2_with fail
     have q2:=HPM.out.2.1
     refine (zdN p.a (by omega) (by omega) HBA.out (by omega)).mono ?_
     rintro e w3' ⟨a3,c3,n3,rfl,hB3,hx3,hn3,ho3⟩
     have HBC:=hid hB3
     have HXC:=hid (HXB.out.trans hx3)
     clear hB3 hx3 HBA HXB ho2
     go_wp2_with fail
     refine zal (zad HXC.out) (zae ?_)
     simp only [zac,yab,yaa]
     go_wp2_with fail
     have q3:=HPM.out.2.2.1
     refine (zdN p.b (by omega) (by omega) HBC.out (by omega)).mono ?_
     rintro e w4' ⟨a4,c4,n4,rfl,hB4,hx4,hn4,ho4⟩
     have HBD:=hid hB4
     have HXD:=hid (HXC.out.trans hx4)
     have HOD:=hid (fun q hq=>Nat.le_trans HXC.out.size (ho4 q hq))
     clear hB4 hx4 HBC HXC ho3 ho4
     obtain ⟨da,dn,dc,hd,-⟩:=HKA.out.blk
     have HDD:=hid (HXD.out.keep hd)
     have HFD:=hid (HXD.out.keep HFX.out)
     have d0:=zaa HDD.out 0
     have z0:=zan HDD.out 0
     have HBE:=hid (HKA.out.put' (k':=94+70+104*k) HXD.out HBD.out (by omega) HOD.out)
     have HFE:=hid (((zaj w4' d 0 (.slice a4 n4 c4)).block _ (zab HFD.out) HDF.out).trans HFD.out)
     have HCE:Hid (Chg (·=d) wn (w4'.setCell ⟨d,0,none⟩ (.slice a4 n4 c4))):=hid ((HCA.out.trans (Chg.of_ext HXD.out) (fun _ _ e=>e)).trans (zaj w4' d 0 _) (fun _ _ e=>e))
     clear HB2 HBD HXD HOD HDD HFD HKA HCA hd
     go_wp2_with fail
     refine zau (zae ?_)
     simp only [zac,yab,yaa]
     go_wp2_with fail
     clear d0 z0
     generalize World.setCell _ _ _=w6 at *
     refine zau (zav ?_)
     have f3:=zaa HFE.out 3
     go_wp2_with fail
     refine (zbp w _ d _ _ _ HBE.out (by omega)).mono ?_
     rintro e wz ⟨rfl,hB,hC⟩
     rw [HNX.out] at hB
     have HBZ:=hid hB
     have HCZ:=hid (HCE.out.trans hC (fun _ _ e=>e))
     clear hB hC f3
     go_wp2_with fail
     go_roundw
     case rel=>exact ⟨k+1,by omega,by go_num,hid ⟨by obtain ⟨a,n,c,h1,h2,h3,h4⟩:=HBZ.out.blk;exact ⟨a,n,c,h1,h2,by omega,h4⟩,HBZ.out.new,HBZ.out.ext⟩,HCZ⟩
     case measure=>simp [RowKit.intOf];omega
    ·obtain rfl:k=fn:=by omega
     have hFL:Hid (L1++(fl.take k).flatMap filP=L1++fl.flatMap filP):=hid (by rw [yai (by rw [HFN.out];exact Nat.le_refl _)])
     rw [hFL.out] at HK
     have HK5:=hid (HP.out.1)
     have hk512:k≤512:=by have:=HFN.out;have:=HK5.out;omega
     go_wp2_with fail
     go_meet
     exact ⟨rfl,hid ⟨by obtain ⟨a,n,c,h1,h2,h3,h4⟩:=HK.out.blk;exact ⟨a,n,c,h1,h2,by omega,h4⟩,HK.out.new,HK.out.ext⟩,HC⟩
  case rest =>
   obtain ⟨rfl,HBB2,HCC⟩:=hcut
   have HBX:=hid ((HCC.out.block _ (zab HBX.out) (by have:=HNE.out;omega)).trans HBX.out)
   have HTI:=hid (HS.out.ti.ext HBB2.out.ext)
   have HLL:Hid (L1++fl.flatMap filP++varP (u64n (tn:Int))++ti.flatMap tirP=staP ⟨x,r,q,⟨b,t,g⟩,fl,ti⟩):=hid (by rw [hL1];simp [staP,HFN.out,HTN.out])
   clear HBB HCC
   have HBB:=HBB2
   clear HBB2 hL1
   ((try clear c0 c1 c2 c3 c4 c5 c6 c7);have c0:=zaa HBX.out 0;have c1:=zaa HBX.out 1;have c2:=zaa HBX.out 2;have c3:=zaa HBX.out 3;have c4:=zaa HBX.out 4;have c5:=zaa HBX.out 5;have c6:=zaa HBX.out 6;have c7:=zaa HBX.out 7)
   go_wp2_with fail
   (
     refine (zbp w _ d _ _ _ HBB.out (by omega)).mono ?_
     rintro e wn ⟨rfl,hB,hC⟩
     replace HBB:=hid hB
     replace HBX:=hid ((hC.block _ (zab HBX.out) (by have:=HNE.out;omega)).trans HBX.out)
     clear hB hC
     ((try clear c0 c1 c2 c3 c4 c5 c6 c7);have c0:=zaa HBX.out 0;have c1:=zaa HBX.out 1;have c2:=zaa HBX.out 2;have c3:=zaa HBX.out 3;have c4:=zaa HBX.out 4;have c5:=zaa HBX.out 5;have c6:=zaa HBX.out 6;have c7:=zaa HBX.out 7))
   generalize L1++fl.flatMap filP++varP (u64n (tn:Int))=L3 at *
   go_wp2_with fail
   go_loopw [65] (fun i wr=>∃k:Nat,k≤tn∧i=.int .i64 k∧Hid (BoxB w d (L3++(ti.take k).flatMap tirP) (60000+114*k) wr)∧Hid (Chg (·=d) wn wr)) (fun i _=>tn-(RowKit.intOf i).toNat)
   case atStart=>exact ⟨0,by omega,rfl,hid (by simp only [List.take_zero,List.flatMap_nil,List.append_nil];obtain ⟨a,n,c,h1,h2,h3,h4⟩:=HBB.out.blk;exact ⟨⟨a,n,c,h1,h2,by omega,h4⟩,HBB.out.new,HBB.out.ext⟩),hid (Chg.refl _ _)⟩
   case round =>
    obtain ⟨k,hk,rfl,HK,HC⟩:=hrel
    by_cases hlt:k<tn
    ·obtain ⟨fb,fo,p,rfl,hp,p0,p1,p2,p3,p4⟩:=trs_src (HS.out.ti.ext HK.out.ext) hlt
     have hpm:=(HP.out.2.2.2) p (yag hp)
     have HPM:=hid (trR_parts hpm)
     have HK5:=hid (HP.out.2.1)
     have hk512:k≤4:=by have:=HTN.out;have:=HK5.out;simp only at *;omega
     have HNX:Hid (L3++(ti.take k).flatMap tirP++tirP p=L3++(ti.take (k+1)).flatMap tirP):=hid (by
      rw [yao,(show ti[k]?=some p from hp)]
      simp [yaj])
     clear hpm hp
     go_upto_region 20 with fail
     obtain ⟨f,hf⟩:∃f,f=wr.heap.size:=⟨_,rfl⟩
     have HDF:Hid (f≠d):=hid (by
      obtain ⟨_,_,_,hb,_⟩:=HK.out.blk
      have:=zab hb
      omega)
     have HFE:Hid ((wr.alloc (.cells #[.int .i64 p.w,.int .i64 p.o,.int .i64 p.u,.bool p.m,.string p.f] 90 (0,0))).heap[f]?=some (.cells #[.int .i64 p.w,.int .i64 p.o,.int .i64 p.u,.bool p.m,.string p.f] 90 (0,0))):=hid (by rw [hf];exact heap_alloc_new wr _)
     have HXA:=hid ((Ext.refl wr).alloc (.cells #[.int .i64 p.w,.int .i64 p.o,.int .i64 p.u,.bool p.m,.string p.f] 90 (0,0)))
     rw [←hf]
     clear hf p0 p1 p2 p3 p4 c0 c1 c2 c3 c4 c5 c6 c7
     generalize wr.alloc _=wa at *
     have HBE:=hid (HK.out.ext' HXA.out)
     have HCE:=hid (HC.out.trans (Chg.of_ext HXA.out) (fun _ _ e=>e))
     clear HXA
     have f0:=zaa HFE.out 0
     have f1:=zaa HFE.out 1
     have f3:=zaa HFE.out 3
     obtain ⟨pw,po,pu,pm,pf⟩:=p
     simp only at *
     go_wp2_with fail
     (
       refine (zbp w _ d _ _ _ HBE.out (by omega)).mono ?_
       rintro e wz ⟨rfl,hB,hC⟩
       replace HBE:=hid hB
       replace HFE:=hid ((hC.block _ (zab HFE.out) HDF.out).trans HFE.out)
       replace HCE:=hid (HCE.out.trans hC (fun _ _ e=>e))
       clear hB hC f0 f1 f3
       have f0:=zaa HFE.out 0
       have f1:=zaa HFE.out 1
       have f3:=zaa HFE.out 3)
     go_wp2_with fail
     (
       refine (zbp w _ d _ _ _ HBE.out (by omega)).mono ?_
       rintro e wz ⟨rfl,hB,hC⟩
       replace HBE:=hid hB
       replace HFE:=hid ((hC.block _ (zab HFE.out) HDF.out).trans HFE.out)
       replace HCE:=hid (HCE.out.trans hC (fun _ _ e=>e))
       clear hB hC f0 f1 f3
       have f0:=zaa HFE.out 0
       have f1:=zaa HFE.out 1
       have f3:=zaa HFE.out 3)
     cases pm
     ·have HNY:Hid (L3++(ti.take k).flatMap tirP++varP (u64n pw)++varP (u64n po)++varP (u64n 0)=L3++(ti.take (k+1)).flatMap tirP):=hid (by rw [←HNX.out];simp [tirP])
      clear HNX
      go_wp2_with fail
      (
        refine (zbp w _ d _ _ _ HBE.out (by omega)).mono ?_
        rintro e wz ⟨rfl,hB,hC⟩
        replace HBE:=hid hB
        replace HFE:=hid ((hC.block _ (zab HFE.out) HDF.out).trans HFE.out)
        replace HCE:=hid (HCE.out.trans hC (fun _ _ e=>e))
        clear hB hC f0 f1 f3
        have f0:=zaa HFE.out 0
        have f1:=zaa HFE.out 1
        have f3:=zaa HFE.out 3)
      rw [HNY.out] at HBE
      go_wp2_with fail
      go_roundw
      case rel=>exact ⟨k+1,by omega,by go_num,hid ⟨by obtain ⟨a,n,c,h1,h2,h3,h4⟩:=HBE.out.blk;exact ⟨a,n,c,h1,h2,by omega,h4⟩,HBE.out.new,HBE.out.ext⟩,HCE⟩
      case measure=>simp [RowKit.intOf];omega
     ·have HNY:Hid (L3++(ti.take k).flatMap tirP++varP (u64n pw)++varP (u64n po)++varP (u64n 1)++varP (zig pu)++txtP pf=L3++(ti.take (k+1)).flatMap tirP):=hid (by rw [←HNX.out];simp [tirP])
      clear HNX
      go_wp2_with fail
      (
        refine (zbp w _ d _ _ _ HBE.out (by omega)).mono ?_
        rintro e wz ⟨rfl,hB,hC⟩
        replace HBE:=hid hB
        replace HFE:=hid ((hC.block _ (zab HFE.out) HDF.out).trans HFE.out)
        replace HCE:=hid (HCE.out.trans hC (fun _ _ e=>e))
        clear hB hC f0 f1 f3
        have f0:=zaa HFE.out 0
        have f1:=zaa HFE.out 1
        have f3:=zaa HFE.out 3)
      obtain ⟨hfs,hu0,hu1⟩:pf.size≤64∧-1152921504606846976≤pu∧pu≤1152921504606846976:=by have:=HPM.out.2.2.2.2 (by trivial);omega
      go_upto_region 24 with fail
      obtain ⟨va2,vn2,vc2,hb,hB,hvn2,-⟩:=HBE.out.blk
      have HB2:=hid hB
      clear f0 f1 f3
      have f4:=zaf (T:=fun _=>false) (zaa hb 0) rfl
      have f2:=zaf (T:=fun _=>false) (zaa HFE.out 2) rfl
      have f5:=zaf (T:=fun _=>false) (zaa HFE.out 4) rfl
      clear hB hb
      refine zao 6 (fun w'=>∃p:Turned,w'=turned wz (fun _=>false) p.d p.f p.os) (.reads [0,1,2,4,5] (.one 3 (.one 6 (.one 7 .done)))) (by kernel_rfl) (by kernel_rfl) (fun _ _ dd _ _ hh=>by cases dd<;>exact hh) ?_ ?_
      ·exact zad (Ext.drewN wz 1)
      refine zak ?_
      simp only [zac,yab,yaa]
      iterate 5 (go_big_quiet_step (fail))
      refine yaF ?_
      clear f2 f4 f5
      refine zae ?_
      simp only [zac,yab,yaa]
      go_wp2_with fail
      refine (zdN pu (by omega) (by omega) (HB2.out.ext (Ext.drewN wz 1)) (by omega)).mono ?_
      rintro e w2' ⟨a2,c2,n2,rfl,hB2,hx2,hn2,ho2⟩
      have HBA:=hid hB2
      have HXB:=hid ((Ext.drewN wz 1).trans hx2)
      clear hB2 hx2
      go_wp2_with fail
      refine zal (zad HXB.out) (zae ?_)
      simp only [zac,yab,yaa]
      go_wp2_with fail
      refine (varPutText_b pf (by omega) HBA.out (by omega)).mono ?_
      rintro e w3' ⟨a3,c3,n3,rfl,hB3,hx3,hn3,ho3⟩
      have HBD:=hid hB3
      have HXD:=hid (HXB.out.trans hx3)
      have HOD:=hid (fun q hq=>Nat.le_trans HXB.out.size (ho3 q hq))
      clear hB3 hx3 HBA HXB ho2 ho3
      rw [HNY.out] at HBD
      obtain ⟨da,dn,dc,hd,-⟩:=HBE.out.blk
      have HDD:=hid (HXD.out.keep hd)
      have d0:=zaa HDD.out 0
      have z0:=zan HDD.out 0
      have HBF:=hid (HBE.out.put' (k':=60000+114*(k+1)) HXD.out HBD.out (by omega) HOD.out)
      have HCF:Hid (Chg (·=d) wn (w3'.setCell ⟨d,0,none⟩ (.slice a3 n3 c3))):=hid ((HCE.out.trans (Chg.of_ext HXD.out) (fun _ _ e=>e)).trans (zaj w3' d 0 _) (fun _ _ e=>e))
      clear HB2 HBD HXD HOD HDD HBE HCE hd
      go_wp2_with fail
      refine zau (zae ?_)
      simp only [zac,yab,yaa]
      go_wp2_with fail
      clear d0 z0
      generalize World.setCell _ _ _=w7 at *
      refine zau (zav ?_)
      go_wp2_with fail
      go_roundw
      case rel=>exact ⟨k+1,by omega,by go_num,HBF,HCF⟩
      case measure=>simp [RowKit.intOf];omega
    ·obtain rfl:k=tn:=by omega
     have hFL:Hid (L3++(ti.take k).flatMap tirP=staP ⟨x,r,q,⟨b,t,g⟩,fl,ti⟩):=hid (by rw [yai (by rw [HTN.out];exact Nat.le_refl _)];exact HLL.out)
     rw [hFL.out] at HK
     have HK5:=hid (HP.out.2.1)
     have hk512:k≤4:=by have:=HTN.out;have:=HK5.out;omega
     obtain ⟨va2,vn2,vc2,hb,hB,hvn2,-⟩:=HK.out.blk
     have HBS:=hid hB
     have d0:=zaa hb 0
     clear hb hB
     go_wp2_with fail
     have HSE:Calls Tryz.prog 96 #[.int .u8 7,.slice va2 vn2 vc2] wr (SealPost wr 7 (staP ⟨x,r,q,⟨b,t,g⟩,fl,ti⟩)):=seal_any wr 7 va2 vn2 vc2 _ HBS.out.src (by omega)
     refine HSE.mono ?_
     rintro e wz ⟨a,c,rfl,hM⟩
     have HM:=hid (HB.out _ _ ⟨a,c,rfl,hM.trans HK.out.ext⟩)
     clear HSE hM d0
     go_wp2_with fail
     go_ret2
     exact HM.out
 ·have HB:Hid (∀e w',(e=.returned (.tuple #[.slice none 0 0,.int .i64 2])∧Ext w w')→BytesTo w s e w'):=hid (fun e w' h=>by unfold BytesTo;rw [if_neg hR];exact h)
  have hRf:staR s=false:=by simpa using hR
  rw [hRf] at HRT
  clear hs hg hR hRf
  obtain ⟨x,r,q,⟨b,t,g⟩,fl,ti⟩:=s
  go_enter Tryz.func64,Tryz.ntmps64
  go_wp2_with fail
  generalize hW:World.alloc _ _=W
  have HX0:Hid (Ext w W):=hid (by subst hW;exact (Ext.refl w).alloc _)
  clear hW
  refine (HRT.out W HX0.out).mono ?_
  rintro e w1 ⟨rfl,hx⟩
  have HX:=hid (HX0.out.trans hx)
  clear hx
  go_wp2_with fail
  refine yaE (v:=.tuple #[.slice none 0 0,.int .i64 2]) (by simp [results,Tryz.results64,go_sem]) rfl (HB.out _ _ ⟨rfl,HX.out⟩)
structure Rd where
 l:List UInt8
 bad:Bool
def rdNum (r:Rd):Int×Rd :=
 (if (r.bad || (varR r.l).2.2 != 0 || decide (1152921504606846976<(varR r.l).1))=true then 0 else ((varR r.l).1:Int),⟨r.l.drop (varR r.l).2.1,r.bad || (varR r.l).2.2 != 0 || decide (1152921504606846976<(varR r.l).1)⟩)
def rdInt (r:Rd):Int×Rd:=(zag (varR r.l).1,⟨r.l.drop (varR r.l).2.1,r.bad || (varR r.l).2.2 != 0⟩)
def zds (r:Rd):ByteArray×Rd:=(⟨(txtR r.l 64).1.toArray⟩,⟨r.l.drop (txtR r.l 64).2.1,r.bad || (txtR r.l 64).2.2 != 0⟩)
def zdE (r:Rd):Mk×Rd:=((markR r.l).1,⟨r.l.drop (markR r.l).2.1,r.bad || (markR r.l).2.2 != 0⟩)
structure RdAt (t:TypeId) (w0:World) (p:Nat) (r:Rd) (w:World):Prop where
 blk:∃a n c,w.heap[p]?=some (.cells #[.slice a n c,.bool r.bad] t (0,0))∧SlB w0 a n c r.l
 new:w0.heap.size≤p
 ext:Ext w0 w
 et:HasET w0
theorem RdAt.ext' {t:TypeId}{w0 w w':World}{p:Nat}{r:Rd}(h:RdAt t w0 p r w) (hx:Ext w w'):RdAt t w0 p r w':=by
 obtain ⟨a,n,c,hb,hs⟩:=h.blk
 exact ⟨⟨a,n,c,hx.keep hb,hs⟩,h.new,h.ext.trans hx,h.et⟩
theorem RdAt.chg {t:TypeId}{w0 w w':World}{p:Nat}{r:Rd}{S:Nat→Prop}(h:RdAt t w0 p r w) (hx:Chg S w w') (hp:¬S p) (hS:∀i,S i→w0.heap.size≤i):RdAt t w0 p r w':=by
 obtain ⟨a,n,c,hb,hs⟩:=h.blk
 exact ⟨⟨a,n,c,(hx.block _ (zab hb) hp).trans hb,hs⟩,h.new,((Chg.of_ext h.ext).trans hx (fun _ _ e=>e)).ext (fun i hi e=>by have:=hS i e;omega),h.et⟩
theorem rd_store {w0 w w':World}{p:Nat}(h:Ext w0 w) (hp:w0.heap.size≤p) (hx:Chg (·=p) w w'):Ext w0 w':=((Chg.of_ext h).trans hx (fun _ _ e=>e)).ext (fun i hi e=>by omega)
theorem took_any (w0 w:World) (p:Nat) (r:Rd) (n:Nat) (e:Int) (h:RdAt 210 w0 p r w) (hn:n≤r.l.length) :
 Calls Tryz.prog 171 #[.pointer (some ⟨p,0,none⟩),.int .i64 (n:Int),.int .i64 e] w fun z w'=>z=.returned (.tuple #[])∧RdAt 210 w0 p ⟨r.l.drop n,r.bad || e != 0⟩ w'∧Chg (·=p) w w':=by
 obtain ⟨l,bad⟩:=r
 obtain ⟨a,m,c,hb,hs⟩:=h.blk
 have H:=hid h
 have HS:=hid hs
 have hnm:n≤m:=by have:=hs.len;simp only at *;omega
 have hs1:=zbi Tryz.underlying51 sz_u8 a m c n hnm
 have HBX:=hid hb
 have HFIN:Hid (∀w1 w' ,w1=w.setCell ⟨p,1,none⟩ (.bool (bad || e != 0))→w'=w1.setCell ⟨p,0,none⟩ (.slice (cutA a c n) (m-n) (c-n))→RdAt 210 w0 p ⟨l.drop n,bad || e != 0⟩ w'∧Chg (·=p) w w'):=hid (by
  rintro w1 w' rfl rfl
  have b1:=zaq hb (i:=1) (.bool (bad || e != 0))
  have b2:=zaq b1 (i:=0) (.slice (cutA a c n) (m-n) (c-n))
  have hc:=(zaj w p 1 (.bool (bad || e != 0))).trans (zaj _ p 0 (.slice (cutA a c n) (m-n) (c-n))) (fun _ _ e=>e)
  refine ⟨⟨⟨_,_,_,by simpa using b2,hs.cut hnm⟩,h.new,rd_store h.ext h.new hc,h.et⟩,hc⟩)
 have c0:=zaa hb 0
 have c1:=zaa hb 1
 have z1:=zan hb 1
 clear h hb hs hn hnm
 generalize cutA a c n=a1 at *
 generalize m-n=m1 at *
 generalize c-n=k1 at *
 go_enter Tryz.func171,Tryz.ntmps171
 cases bad
 ·go_upto_region 1 with fail
  generalize hw1:World.setCell _ _ _=w1
  have hb1:w1.heap[p]?=some (.cells #[.slice a m c,.bool (e != 0)] 210 (0,0)):=by
   have b1:=zaq HBX.out (i:=1) (.bool (e != 0))
   rw [←hw1];simpa using b1
  have HW1:=hid hw1
  clear c0 c1 z1 hw1
  have c0:=zaa hb1 0
  have z0:=zan hb1 0
  clear hb1
  go_wp2_with fail
  go_end0
  exact ⟨rfl,HFIN.out w1 _ (by rw [←HW1.out];simp) rfl⟩
 ·go_upto_region 1 with fail
  generalize hw1:World.setCell _ _ _=w1
  have hb1:w1.heap[p]?=some (.cells #[.slice a m c,.bool true] 210 (0,0)):=by
   have b1:=zaq HBX.out (i:=1) (.bool true)
   rw [←hw1];simpa using b1
  have HW1:=hid hw1
  clear c0 c1 z1 hw1
  have c0:=zaa hb1 0
  have z0:=zan hb1 0
  clear hb1
  go_wp2_with fail
  go_end0
  exact ⟨rfl,HFIN.out w1 _ (by rw [←HW1.out];simp) rfl⟩
theorem txtR_le (l:List UInt8):(txtR l 64).2.1≤l.length:=by
 have h:=zaT l
 unfold txtR
 split
 ·simp
 split
 ·simp
 split
 ·simp
 ·simp only;omega
theorem markR_le (l:List UInt8):(markR l).2.1≤l.length:=by
 have h1:=(zaT l).2.1
 have h2:=(zaT (l.drop (varR l).2.1)).2.1
 rw [yaC] at h2
 have h3:=(zaT (l.drop ((varR l).2.1+(varR (l.drop (varR l).2.1)).2.1))).2.1
 rw [yaC] at h3
 unfold markR
 split
 ·simp [markE]
 unfold markC
 split
 ·simp [markE]
 split
 ·unfold zcf;split
  ·simp only;omega
  ·simp [markE]
 split
 ·unfold markD
  split
  ·simp [markE]
  ·unfold zcf;split
   ·simp only;omega
   ·simp [markE]
 ·simp [markE]
theorem num_conv {u:Nat}(h:u≤1152921504606846976):IntKind.i64.wrap (u:Int)=(u:Int):=by
 rw [IntKind.wrap_i64];omega
theorem zdD (w0 w:World) (p:Nat) (r:Rd) (h:RdAt 210 w0 p r w) :
 Calls Tryz.prog 103 #[.pointer (some ⟨p,0,none⟩)] w fun z w'=>z=.returned (.int .i64 (rdNum r).1)∧RdAt 210 w0 p (rdNum r).2 w'∧Chg (·=p) w w':=by
 obtain ⟨l,bad⟩:=r
 obtain ⟨a,m,c,hb,hs⟩:=h.blk
 have H:=hid h
 have HS:=hid (hs.ext h.ext)
 have HG:=hid (h.et.ext h.ext)
 have c0:=zaa hb 0
 have hv:=zaT l
 obtain ⟨u,k,x,hV⟩:∃u k x,varR l=(u,k,x):=⟨_,_,_,rfl⟩
 rw [hV] at hv
 obtain ⟨hv1,hv2,hv3,-⟩:=hv
 simp only at hv1 hv2 hv3
 have HFIN:Hid (rdNum ⟨l,bad⟩=(if (bad || x != 0 || decide (1152921504606846976<u))=true then 0 else (u:Int),⟨l.drop k,bad || x != 0 || decide (1152921504606846976<u)⟩)):=hid (by simp [rdNum,hV])
 have HV:=hid hV
 have HK:=hid hv2
 clear h hb hs hV hv2
 go_enter Tryz.func103,Tryz.ntmps103
 go_wp2_with fail
 refine (zaB w a m c l HS.out.src HS.out.few HG.out).mono ?_
 rw [HV.out]
 rintro e w1 ⟨rfl,hx⟩
 have HX:=hid hx
 have HR:=hid (H.out.ext' hx)
 clear hx c0
 go_wp2_with fail
 refine (took_any w0 w1 p ⟨l,bad⟩ k x HR.out HK.out).mono ?_
 rintro e w2 ⟨rfl,hr,hc⟩
 have HR2:=hid hr
 have HC:=hid ((Chg.of_ext (S:=(·=p)) HX.out).trans hc (fun _ _ e=>e))
 simp only at hr
 obtain ⟨B,hB⟩:∃B,B=(bad || x != 0):=⟨_,rfl⟩
 rw [←hB] at hr HFIN
 obtain ⟨a2,m2,c2,hb2,hs2⟩:=hr.blk
 have HBX:=hid hb2
 have HR3:=hid hr
 have HSS:=hid hs2
 have c0:=zaa hb2 0
 have c1:=zaa hb2 1
 have z1:=zan hb2 1
 clear hr hc hb2 hB hs2 HR HR2
 have HGO:Hid (∀b w3,w3=w2.setCell ⟨p,1,none⟩ (.bool b)→RdAt 210 w0 p ⟨l.drop k,b⟩ w3∧Chg (·=p) w w3∧w3.cell? ⟨p,1,none⟩=some (.bool b)):=hid (by
  rintro b w3 rfl
  have b1:=zaq HBX.out (i:=1) (.bool b)
  have b2:(w2.setCell ⟨p,1,none⟩ (.bool b)).heap[p]?=some (.cells #[.slice a2 m2 c2,.bool b] 210 (0,0)):=by simpa using b1
  have hc:=zaj w2 p 1 (.bool b)
  exact ⟨⟨⟨_,_,_,b2,HSS.out⟩,HR3.out.new,rd_store HR3.out.ext HR3.out.new hc,HR3.out.et⟩,HC.out.trans hc (fun _ _ e=>e),zaa b2 1⟩)
 cases B
 ·by_cases hu:1152921504606846976<u
  ·have hd:decide (1152921504606846976<u)=true:=by simpa using hu
   have hdi:decide ((1152921504606846976:Int)<(u:Int))=true:=by simp;omega
   have HF2:Hid (rdNum ⟨l,bad⟩=(0,⟨l.drop k,true⟩)):=hid (by rw [HFIN.out,hd];simp)
   have hui:(1152921504606846976:Int)<(u:Int):=by omega
   clear hd hu HFIN
   go_upto_region 4 with fail
   generalize hw1:World.setCell _ _ _=w3
   obtain ⟨hq1,hq2,hq3⟩:=HGO.out true w3 (by rw [←hw1])
   have HQ1:=hid hq1
   have HQ2:=hid hq2
   clear c0 c1 z1 hw1 hq1 hq2
   go_wp2_with fail
   go_ret
   rw [HF2.out]
   exact ⟨rfl,HQ1.out,HQ2.out⟩
  ·have hd:decide (1152921504606846976<u)=false:=by simpa using hu
   have HF2:Hid (rdNum ⟨l,bad⟩=((u:Int),⟨l.drop k,false⟩)):=hid (by rw [HFIN.out,hd];simp)
   have hui:¬(1152921504606846976:Int)<(u:Int):=by omega
   have hcv:=num_conv (u:=u) (by omega)
   clear hd hu HFIN
   go_upto_region 4 with fail
   generalize hw1:World.setCell _ _ _=w3
   obtain ⟨hq1,hq2,hq3⟩:=HGO.out false w3 (by rw [←hw1,show decide ((1152921504606846976:Int)<(u:Int))=false by simp;omega])
   have HQ1:=hid hq1
   have HQ2:=hid hq2
   clear c0 c1 z1 hw1 hq1 hq2
   go_wp2_with fail
   go_ret
   rw [HF2.out]
   exact ⟨by simp [hcv],HQ1.out,HQ2.out⟩
 ·have HF2:Hid (rdNum ⟨l,bad⟩=(0,⟨l.drop k,true⟩)):=hid (by rw [HFIN.out];simp)
  clear HFIN
  go_upto_region 4 with fail
  generalize hw1:World.setCell _ _ _=w3
  obtain ⟨hq1,hq2,hq3⟩:=HGO.out true w3 (by rw [←hw1])
  have HQ1:=hid hq1
  have HQ2:=hid hq2
  clear c0 c1 z1 hw1 hq1 hq2
  go_wp2_with fail
  go_ret
  rw [HF2.out]
  exact ⟨rfl,HQ1.out,HQ2.out⟩
theorem rdInt_any (w0 w:World) (p:Nat) (r:Rd) (h:RdAt 210 w0 p r w) :
 Calls Tryz.prog 174 #[.pointer (some ⟨p,0,none⟩)] w fun z w'=>z=.returned (.int .i64 (rdInt r).1)∧RdAt 210 w0 p (rdInt r).2 w'∧Chg (·=p) w w':=by
 obtain ⟨l,bad⟩:=r
 obtain ⟨a,m,c,hb,hs⟩:=h.blk
 have H:=hid h
 have HS:=hid (hs.ext h.ext)
 have HG:=hid (h.et.ext h.ext)
 have c0:=zaa hb 0
 clear h hb hs
 go_enter Tryz.func174,Tryz.ntmps174
 go_wp2_with fail
 refine (zcF w a m c l HS.out.src HS.out.few HG.out).mono ?_
 rintro e w1 ⟨rfl,hx⟩
 have HX:=hid hx
 have HR:=hid (H.out.ext' hx)
 clear hx c0
 go_wp2_with fail
 refine (took_any w0 w1 p ⟨l,bad⟩ (varR l).2.1 (varR l).2.2 HR.out (zaT l).2.1).mono ?_
 rintro e w2 ⟨rfl,hr,hc⟩
 have HR2:=hid hr
 have HC:=hid ((Chg.of_ext (S:=(·=p)) HX.out).trans hc (fun _ _ e=>e))
 clear hr hc
 go_wp2_with fail
 go_ret
 exact ⟨rfl,HR2.out,HC.out⟩
theorem rdText_any (w0 w:World) (p:Nat) (r:Rd) (h:RdAt 210 w0 p r w) :
 Calls Tryz.prog 173 #[.pointer (some ⟨p,0,none⟩)] w fun z w'=>z=.returned (.string (zds r).1)∧RdAt 210 w0 p (zds r).2 w'∧Chg (·=p) w w':=by
 obtain ⟨l,bad⟩:=r
 obtain ⟨a,m,c,hb,hs⟩:=h.blk
 have H:=hid h
 have HS:=hid (hs.ext h.ext)
 have HG:=hid (h.et.ext h.ext)
 have c0:=zaa hb 0
 clear h hb hs
 go_enter Tryz.func173,Tryz.ntmps173
 go_wp2_with fail
 refine (zdd w a m c l 64 (by decide) HS.out.src HS.out.le HS.out.few HG.out).mono ?_
 rintro e w1 ⟨rfl,hx⟩
 have HX:=hid hx
 have HR:=hid (H.out.ext' hx)
 clear hx c0
 go_wp2_with fail
 refine (took_any w0 w1 p ⟨l,bad⟩ (txtR l 64).2.1 (txtR l 64).2.2 HR.out (txtR_le l)).mono ?_
 rintro e w2 ⟨rfl,hr,hc⟩
 have HR2:=hid hr
 have HC:=hid ((Chg.of_ext (S:=(·=p)) HX.out).trans hc (fun _ _ e=>e))
 clear hr hc
 go_wp2_with fail
 go_ret
 exact ⟨rfl,HR2.out,HC.out⟩
def rdFl (r:Rd):Fl×Rd :=
 (⟨(zds r).1,(rdInt (zds r).2).1,(rdInt (rdInt (zds r).2).2).1,(rdNum (rdInt (rdInt (zds r).2).2).2).1⟩,(rdNum (rdInt (rdInt (zds r).2).2).2).2)
def rdTrM (w o m:Int) (r:Rd):Tr×Rd :=
 if m=1 then (⟨w,o,(rdInt r).1,true,(zds (rdInt r).2).1⟩,(zds (rdInt r).2).2) else (⟨w,o,0,false,⟨#[]⟩⟩,r)
def rdOver (m:Int) (r:Rd):Rd:=⟨r.l,r.bad || decide (1<m)⟩
def rdTr (r:Rd):Tr×Rd :=
 rdTrM (rdNum r).1 (rdNum (rdNum r).2).1 (rdNum (rdNum (rdNum r).2).2).1 (rdOver (rdNum (rdNum (rdNum r).2).2).1 (rdNum (rdNum (rdNum r).2).2).2)
theorem mfile_info:(Tryz.prog.info? 110).map (·.size)=some 4:=by kernel_rfl
theorem tier_info:(Tryz.prog.info? 90).map (·.size)=some 5:=by kernel_rfl
theorem RdAt.lt {t:TypeId}{w0 w:World}{p:Nat}{r:Rd}(h:RdAt t w0 p r w):p<w.heap.size:=by
 obtain ⟨_,_,_,hb,_⟩:=h.blk
 exact zab hb
theorem rdMark_any (w0 w:World) (p:Nat) (r:Rd) (h:RdAt 210 w0 p r w) :
 Calls Tryz.prog 104 #[.pointer (some ⟨p,0,none⟩)] w fun z w'=>z=.returned (zdE r).1.val∧RdAt 210 w0 p (zdE r).2 w'∧Chg (·=p) w w':=by
 have HNE:=hid h.lt
 obtain ⟨l,bad⟩:=r
 obtain ⟨q,hq⟩:∃q,q=w.heap.size:=⟨_,rfl⟩
 have HQ:=hid hq
 have hxa:=(Ext.refl w).alloc (.cells #[.bool false,.int .i64 0,.int .i64 0] 46 (0,0))
 have h':=h.ext' hxa
 have hbq:(w.alloc (.cells #[.bool false,.int .i64 0,.int .i64 0] 46 (0,0))).heap[q]?=some (.cells #[.bool false,.int .i64 0,.int .i64 0] 46 (0,0)):=by rw [hq];exact heap_alloc_new w _
 have HBQ:=hid hbq
 have HXA:=hid hxa
 obtain ⟨a,m,c,hb,hs⟩:=h'.blk
 have H:=hid h'
 have HS:=hid (hs.ext h'.ext)
 have HG:=hid (h'.et.ext h'.ext)
 clear h hs h' hbq hxa
 go_enter Tryz.func104,Tryz.ntmps104
 go_upto_region 1 with fail
 rw [←hq]
 clear hq
 generalize w.alloc _=wa at *
 have c0:=zaa hb 0
 clear hb
 go_wp2_with fail
 refine (waterRead_any wa a m c l HS.out HG.out).mono ?_
 rintro e w1 ⟨rfl,hx⟩
 have HX:=hid hx
 have HR:=hid (H.out.ext' hx)
 have HBQ1:=hid (hx.keep HBQ.out)
 clear hx c0
 go_upto_region 2 with fail
 obtain ⟨g,hg⟩:∃g,g=w1.heap.size:=⟨_,rfl⟩
 rw [←hg]
 generalize hW:w1.alloc _=w2
 have hx2:Ext w1 w2:=by rw [←hW];exact (Ext.refl w1).alloc _
 have HBG:Hid (w2.heap[g]?=some (.cells #[.bool (markR l).1.s,.int .i64 (markR l).1.t,.int .i64 (markR l).1.g] 46 (0,0))):=hid (by rw [←hW,hg];exact heap_alloc_new w1 _)
 have HBQ2:=hid (hx2.keep HBQ1.out)
 have HR2:=hid (HR.out.ext' hx2)
 have HGP:Hid (g≠p∧q≠p∧q≠g):=hid (by have:=HR.out.lt;have:=zab HBQ1.out;have:=HQ.out;have:=HNE.out;omega)
 have HX2:=hid (HX.out.trans hx2)
 clear hW hx2 hg
 go_wp2_with fail
 refine (took_any w0 w2 p ⟨l,bad⟩ (markR l).2.1 (markR l).2.2 HR2.out (markR_le l)).mono ?_
 rintro e w3 ⟨rfl,hr,hc⟩
 have HR3:=hid hr
 have HC:=hid ((Chg.of_ext (S:=(·=p)) (HXA.out.trans HX2.out)).trans hc (fun _ _ e=>e))
 have HBG3:=hid ((hc.block _ (zab HBG.out) HGP.out.1).trans HBG.out)
 have HBQ3:=hid ((hc.block _ (zab HBQ2.out) HGP.out.2.1).trans HBQ2.out)
 clear hr hc
 have c0:=zaa HBG3.out 0
 have c1:=zaa HBG3.out 1
 have c2:=zaa HBG3.out 2
 go_wp2_with (first|(refine zai rfl _ _ _ rfl _ _ _ _ rfl rfl HBQ3.out rfl zaE (by simp [Value.oneCell']) ?_;rintro wx hbx hcx;have HBX:=hid hbx;have HCX:=hid hcx;clear hbx hcx))
 refine yaE (zaZ Tryz.results104 _ _ rfl HBX.out Tryz.underlying46 rfl zaE) rfl ?_
 refine ⟨rfl,HR3.out.chg HCX.out (fun e=>HGP.out.2.1 e.symm) (fun i hi=>?_),?_⟩
 ·have:=HR3.out.new;have h1:=HR3.out.ext.size;have h2:=HQ.out;have h3:=HNE.out;have h4:=HR3.out.new;omega
 ·exact HC.out.trans HCX.out (fun i hi e=>by have:=HQ.out;omega)
theorem RdAt.over {w0 w:World}{p:Nat}{r:Rd}(h:RdAt 210 w0 p r w) (b:Bool) :
 RdAt 210 w0 p ⟨r.l,b⟩ (w.setCell ⟨p,1,none⟩ (.bool b)):=by
 obtain ⟨a,n,c,hb,hs⟩:=h.blk
 have b1:=zaq hb (i:=1) (.bool b)
 exact ⟨⟨a,n,c,by simpa using b1,hs⟩,h.new,rd_store h.ext h.new (zaj w p 1 (.bool b)),h.et⟩
theorem rdFl_any (w0 w:World) (p:Nat) (r:Rd) (h:RdAt 210 w0 p r w) :
 Calls Tryz.prog 107 #[.pointer (some ⟨p,0,none⟩)] w fun z w'=>z=.returned (rdFl r).1.val∧RdAt 210 w0 p (rdFl r).2 w'∧Chg (·=p) w w':=by
 have HNE:=hid h.lt
 obtain ⟨q,hq⟩:∃q,q=w.heap.size:=⟨_,rfl⟩
 have HQ:=hid hq
 have hxa:=(Ext.refl w).alloc (.cells #[.string ⟨#[]⟩,.int .i64 0,.int .i64 0,.int .i64 0] 110 (0,0))
 have H:=hid (h.ext' hxa)
 have hbq:(w.alloc (.cells #[.string ⟨#[]⟩,.int .i64 0,.int .i64 0,.int .i64 0] 110 (0,0))).heap[q]?=some (.cells #[.string ⟨#[]⟩,.int .i64 0,.int .i64 0,.int .i64 0] 110 (0,0)):=by rw [hq];exact heap_alloc_new w _
 have HBQ:=hid hbq
 have HC:=hid (Chg.of_ext (S:=(·=p)) hxa)
 have HQP:Hid (q≠p):=hid (by have:=HNE.out;omega)
 clear h hbq hxa
 go_enter Tryz.func107,Tryz.ntmps107
 go_upto_region 1 with fail
 rw [←hq]
 clear hq
 generalize w.alloc _=wa at *
 go_wp2_with fail
 refine (rdText_any w0 wa p r H.out).mono ?_
 rintro e w1 ⟨rfl,hr,hc⟩
 have H1:=hid hr
 have HC1:=hid (HC.out.trans hc (fun _ _ e=>e))
 have HB1:=hid ((hc.block _ (zab HBQ.out) HQP.out).trans HBQ.out)
 clear hr hc HC HBQ H
 go_wp2_with fail
 refine (rdInt_any w0 w1 p _ H1.out).mono ?_
 rintro e w2 ⟨rfl,hr,hc⟩
 have H2:=hid hr
 have HC2:=hid (HC1.out.trans hc (fun _ _ e=>e))
 have HB2:=hid ((hc.block _ (zab HB1.out) HQP.out).trans HB1.out)
 clear hr hc HC1 HB1 H1
 go_wp2_with fail
 refine (rdInt_any w0 w2 p _ H2.out).mono ?_
 rintro e w3 ⟨rfl,hr,hc⟩
 have H3:=hid hr
 have HC3:=hid (HC2.out.trans hc (fun _ _ e=>e))
 have HB3:=hid ((hc.block _ (zab HB2.out) HQP.out).trans HB2.out)
 clear hr hc HC2 HB2 H2
 go_wp2_with fail
 refine (zdD w0 w3 p _ H3.out).mono ?_
 rintro e w4 ⟨rfl,hr,hc⟩
 have H4:=hid hr
 have HC4:=hid (HC3.out.trans hc (fun _ _ e=>e))
 have HB4:=hid ((hc.block _ (zab HB3.out) HQP.out).trans HB3.out)
 clear hr hc HC3 HB3 H3
 go_wp2_with (first|(refine zai rfl _ _ _ rfl _ _ _ _ rfl rfl HB4.out rfl mfile_info (by simp [Value.oneCell']) ?_;rintro wx hbx hcx;have HBX:=hid hbx;have HCX:=hid hcx;clear hbx hcx))
 refine yaE (zaZ Tryz.results107 _ _ rfl HBX.out Tryz.underlying110 rfl mfile_info) rfl ?_
 refine ⟨rfl,H4.out.chg HCX.out (fun e=>HQP.out e.symm) (fun i hi=>?_),?_⟩
 ·have:=H4.out.new;have h2:=HQ.out;have h3:=HNE.out;omega
 ·exact HC4.out.trans HCX.out (fun i hi e=>by have:=HQ.out;omega)
end
section
open Go.RowKit Go.Sort Go.Lib
theorem rdTr_any (w0 w:World) (p:Nat) (r:Rd) (h:RdAt 210 w0 p r w) :
 Calls Tryz.prog 109 #[.pointer (some ⟨p,0,none⟩)] w fun z w'=>z=.returned (rdTr r).1.val∧RdAt 210 w0 p (rdTr r).2 w'∧Chg (·=p) w w':=by
 have HNE:=hid h.lt
 obtain ⟨q,hq⟩:∃q,q=w.heap.size:=⟨_,rfl⟩
 have HQ:=hid hq
 have hxa:=(Ext.refl w).alloc (.cells #[.int .i64 0,.int .i64 0,.int .i64 0,.bool false,.string ⟨#[]⟩] 90 (0,0))
 have H:=hid (h.ext' hxa)
 have hbq:(w.alloc (.cells #[.int .i64 0,.int .i64 0,.int .i64 0,.bool false,.string ⟨#[]⟩] 90 (0,0))).heap[q]?=some (.cells #[.int .i64 0,.int .i64 0,.int .i64 0,.bool false,.string ⟨#[]⟩] 90 (0,0)):=by rw [hq];exact heap_alloc_new w _
 have HBQ:=hid hbq
 have HC:=hid (Chg.of_ext (S:=(·=p)) hxa)
 have HQP:Hid (q≠p):=hid (by have:=HNE.out;omega)
 clear h hbq hxa
 go_enter Tryz.func109,Tryz.ntmps109
 go_upto_region 1 with fail
 rw [←hq]
 clear hq
 generalize w.alloc _=wa at *
 go_wp2_with fail
 refine (zdD w0 wa p r H.out).mono ?_
 rintro e w1 ⟨rfl,hr,hc⟩
 have H1:=hid hr
 have HC1:=hid (HC.out.trans hc (fun _ _ e=>e))
 have HB1:=hid ((hc.block _ (zab HBQ.out) HQP.out).trans HBQ.out)
 clear hr hc HC HBQ H
 go_wp2_with fail
 refine (zdD w0 w1 p _ H1.out).mono ?_
 rintro e w2 ⟨rfl,hr,hc⟩
 have H2:=hid hr
 have HC2:=hid (HC1.out.trans hc (fun _ _ e=>e))
 have HB2:=hid ((hc.block _ (zab HB1.out) HQP.out).trans HB1.out)
 clear hr hc HC1 HB1 H1
 have HF:Hid (rdTr r=rdTrM (rdNum r).1 (rdNum (rdNum r).2).1 (rdNum (rdNum (rdNum r).2).2).1 (rdOver (rdNum (rdNum (rdNum r).2).2).1 (rdNum (rdNum (rdNum r).2).2).2)):=hid rfl
 generalize (rdNum (rdNum r).2).2=r2 at *
 generalize (rdNum (rdNum r).2).1=o at *
 generalize (rdNum r).1=d at *
 go_upto_region 2 with fail
 obtain ⟨g,hg⟩:∃g,g=w2.heap.size:=⟨_,rfl⟩
 rw [←hg]
 generalize hW:w2.alloc _=wb
 have hx2:Ext w2 wb:=by rw [←hW];exact (Ext.refl w2).alloc _
 have HTB:Hid (wb.heap[g]?=some (.cells #[.int .i64 d,.int .i64 o,.int .i64 0,.bool false,.string ⟨#[]⟩] 90 (0,0))):=hid (by rw [←hW,hg];exact heap_alloc_new w2 _)
 have HBB:=hid (hx2.keep HB2.out)
 have HRB:=hid (H2.out.ext' hx2)
 have HGP:Hid (q≠p∧g≠p∧q≠g∧w.heap.size≤g):=hid (by have:=H2.out.lt;have:=zab HB2.out;have:=HQ.out;have:=HNE.out;omega)
 have HCB:=hid (HC2.out.trans (Chg.of_ext hx2) (fun _ _ e=>e))
 clear hW hx2 hg HC2 HB2 H2
 go_wp2_with fail
 refine (zdD w0 wb p _ HRB.out).mono ?_
 rintro e w3 ⟨rfl,hr,hc⟩
 have HC3:=hid (HCB.out.trans hc (fun _ _ e=>e))
 have HB3:=hid ((hc.block _ (zab HBB.out) HGP.out.1).trans HBB.out)
 have HT3:=hid ((hc.block _ (zab HTB.out) HGP.out.2.1).trans HTB.out)
 generalize (rdNum r2).2=r3 at *
 generalize (rdNum r2).1=m at *
 obtain ⟨l3,b3'⟩:=r3
 have H3:=hid hr
 obtain ⟨a,n,c,hb,-⟩:=hr.blk
 have c1:=zaa hb 1
 have z1:=zan hb 1
 clear hr hc hb HCB HBB HTB HRB
 by_cases h1:m=1
 ·subst h1
  have hmd:decide ((1:Int)<1)=false:=by decide
  have HF2:Hid (rdTr r=(⟨d,o,(rdInt (rdOver 1 ⟨l3,b3'⟩)).1,true,(zds (rdInt (rdOver 1 ⟨l3,b3'⟩)).2).1⟩,(zds (rdInt (rdOver 1 ⟨l3,b3'⟩)).2).2)):=hid (by rw [HF.out];simp [rdTrM])
  clear HF
  cases b3'
  all_goals as_aux_lemma =>
   go_upto_region 4 with fail
   generalize hw5:World.setCell _ _ _=w5
   have hcm:Chg (·=p) w3 w5:=by rw [←hw5];exact zaj _ _ _ _
   have H5:Hid (RdAt 210 w0 p (rdOver 1 ⟨l3,_⟩) w5):=hid (by
    rw [←hw5]
    exact H3.out.over _)
   have HC5:=hid (HC3.out.trans hcm (fun _ _ e=>e))
   have HB5:=hid ((hcm.block _ (zab HB3.out) HGP.out.1).trans HB3.out)
   have HT5:=(hcm.block _ (zab HT3.out) HGP.out.2.1).trans HT3.out
   have z3:=zan HT5 3
   have c3:=zaa HT5 3
   have HT5:=hid HT5
   clear hw5 hcm c1 z1
   go_upto_region 5 with fail
   generalize hw6:World.setCell _ _ _=w6
   have hcm:Chg (·=g) w5 w6:=by rw [←hw6];exact zaj _ _ _ _
   have H6:=hid (H5.out.chg hcm (fun e=>HGP.out.2.1 e.symm) (fun i hi=>by have:=H5.out.new;have:=HGP.out.2.2.2;have:=HNE.out;omega))
   have HC6:=hid (HC5.out.trans hcm (fun i hi e=>by have:=HGP.out.2.2.2;omega))
   have HB6:=hid ((hcm.block _ (zab HB5.out) HGP.out.2.2.1).trans HB5.out)
   have HT6:w6.heap[g]?=some (.cells #[.int .i64 d,.int .i64 o,.int .i64 0,.bool true,.string ⟨#[]⟩] 90 (0,0)):=by
    have:=zaq HT5.out (i:=3) (.bool true)
    rw [←hw6];simpa using this
   clear hw6 hcm z3 c3 HC5 HB5 HT5 H5
   have c3:=zaa HT6 3
   have HT6:=hid HT6
   go_wp2_with fail
   refine (rdInt_any w0 w6 p _ H6.out).mono ?_
   rintro e w7 ⟨rfl,hr,hc⟩
   have H7:=hid hr
   have HC7:=hid (HC6.out.trans hc (fun _ _ e=>e))
   have HB7:=hid ((hc.block _ (zab HB6.out) HGP.out.1).trans HB6.out)
   have HT7:=hid ((hc.block _ (zab HT6.out) HGP.out.2.1).trans HT6.out)
   clear hr hc H6 HC6 HB6 HT6 c3
   go_wp2_with fail
   refine (rdText_any w0 w7 p _ H7.out).mono ?_
   rintro e w8 ⟨rfl,hr,hc⟩
   have H8:=hid hr
   have HC8:=hid (HC7.out.trans hc (fun _ _ e=>e))
   have HB8:=hid ((hc.block _ (zab HB7.out) HGP.out.1).trans HB7.out)
   have HT8:=(hc.block _ (zab HT7.out) HGP.out.2.1).trans HT7.out
   have z2:=zan HT8 2
   have z4:=zan HT8 4
   have c2:=zaa HT8 2
   have c4:=zaa HT8 4
   have HT8:=hid HT8
   generalize (rdInt (rdOver 1 _)).1=vi at *
   generalize (zds (rdInt (rdOver 1 _)).2).1=vt at *
   clear hr hc H7 HC7 HB7 HT7
   go_upto_region 7 with fail
   generalize hw9:World.setCell _ _ _=w9
   have hcm:Chg (·=g) w8 w9:=by rw [←hw9];exact (zaj _ _ _ _).trans (zaj _ _ _ _) (fun _ _ e=>e)
   have H9:=hid (H8.out.chg hcm (fun e=>HGP.out.2.1 e.symm) (fun i hi=>by have:=H8.out.new;have:=HGP.out.2.2.2;have:=HNE.out;omega))
   have HC9:=hid (HC8.out.trans hcm (fun i hi e=>by have:=HGP.out.2.2.2;omega))
   have HB9:=hid ((hcm.block _ (zab HB8.out) HGP.out.2.2.1).trans HB8.out)
   have HT9:w9.heap[g]?=some (.cells #[.int .i64 d,.int .i64 o,.int .i64 vi,.bool true,.string vt] 90 (0,0)):=by
    have h1:=zaq HT8.out (i:=2) (.int .i64 vi)
    have h2:=zaq h1 (i:=4) (.string vt)
    rw [←hw9];simpa using h2
   clear hw9 hcm z2 z4 c2 c4 HC8 HB8 HT8 H8
   have c0:=zaa HT9 0
   have c1:=zaa HT9 1
   have c2:=zaa HT9 2
   have c3:=zaa HT9 3
   have c4:=zaa HT9 4
   clear HT9
   go_wp2_with (first|(refine zai rfl _ _ _ rfl _ _ _ _ rfl rfl HB9.out rfl tier_info (by simp [Value.oneCell']) ?_;rintro wx hbx hcx;have HBX:=hid hbx;have HCX:=hid hcx;clear hbx hcx))
   refine yaE (zaZ Tryz.results109 _ _ rfl HBX.out Tryz.underlying90 rfl tier_info) rfl ?_
   rw [HF2.out]
   refine ⟨rfl,H9.out.chg HCX.out (fun e=>HGP.out.1 e.symm) (fun i hi=>?_),?_⟩
   ·have:=H9.out.new;have h2:=HQ.out;have h3:=HNE.out;omega
   ·exact HC9.out.trans HCX.out (fun i hi e=>by have:=HQ.out;omega)
 ·have HF2:Hid (rdTr r=(⟨d,o,0,false,⟨#[]⟩⟩,rdOver m ⟨l3,b3'⟩)):=hid (by rw [HF.out];simp [rdTrM,h1])
  have hme:(m==1)=false:=by simp [h1]
  clear HF h1
  cases b3'
  all_goals as_aux_lemma =>
   go_upto_region 4 with fail
   generalize hw5:World.setCell _ _ _=w5
   have hcm:Chg (·=p) w3 w5:=by rw [←hw5];exact zaj _ _ _ _
   have H5:Hid (RdAt 210 w0 p (rdOver m ⟨l3,_⟩) w5):=hid (by
    rw [←hw5]
    exact H3.out.over _)
   have HC5:=hid (HC3.out.trans hcm (fun _ _ e=>e))
   have HB5:=hid ((hcm.block _ (zab HB3.out) HGP.out.1).trans HB3.out)
   have HT5:=(hcm.block _ (zab HT3.out) HGP.out.2.1).trans HT3.out
   have z3:=zan HT5 3
   have c3:=zaa HT5 3
   have HT5:=hid HT5
   clear hw5 hcm c1 z1
   go_upto_region 5 with fail
   generalize hw6:World.setCell _ _ _=w6
   have hcm:Chg (·=g) w5 w6:=by rw [←hw6];exact zaj _ _ _ _
   have H6:=hid (H5.out.chg hcm (fun e=>HGP.out.2.1 e.symm) (fun i hi=>by have:=H5.out.new;have:=HGP.out.2.2.2;have:=HNE.out;omega))
   have HC6:=hid (HC5.out.trans hcm (fun i hi e=>by have:=HGP.out.2.2.2;omega))
   have HB6:=hid ((hcm.block _ (zab HB5.out) HGP.out.2.2.1).trans HB5.out)
   have HT6:w6.heap[g]?=some (.cells #[.int .i64 d,.int .i64 o,.int .i64 0,.bool false,.string ⟨#[]⟩] 90 (0,0)):=by
    have:=zaq HT5.out (i:=3) (.bool false)
    rw [←hw6];simpa [hme] using this
   clear hw6 hcm z3 c3 HC5 HB5 HT5 H5
   have c0:=zaa HT6 0
   have c1:=zaa HT6 1
   have c2:=zaa HT6 2
   have c3:=zaa HT6 3
   have c4:=zaa HT6 4
   clear HT6
   go_wp2_with (first|(refine zai rfl _ _ _ rfl _ _ _ _ rfl rfl HB6.out rfl tier_info (by simp [Value.oneCell']) ?_;rintro wx hbx hcx;have HBX:=hid hbx;have HCX:=hid hcx;clear hbx hcx))
   refine yaE (zaZ Tryz.results109 _ _ rfl HBX.out Tryz.underlying90 rfl tier_info) rfl ?_
   rw [HF2.out]
   refine ⟨rfl,H6.out.chg HCX.out (fun e=>HGP.out.1 e.symm) (fun i hi=>?_),?_⟩
   ·have:=H6.out.new;have h2:=HQ.out;have h3:=HNE.out;omega
   ·exact HC6.out.trans HCX.out (fun i hi e=>by have:=HQ.out;omega)
end
end Go.Proofs.YtlmfhjipbjkcbaaGreatDoor
