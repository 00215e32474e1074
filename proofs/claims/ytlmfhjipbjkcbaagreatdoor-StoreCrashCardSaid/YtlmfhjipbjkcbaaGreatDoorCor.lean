/- x -/
import Derived.Test.YtlmfhjipbjkcbaaGreatDoorPtc
import Derived.Deep.CutBlock
set_option maxHeartbeats 2000000
set_option maxRecDepth 100000
set_option linter.unusedSimpArgs false
set_option linter.unusedVariables false
namespace Go.Proofs.YtlmfhjipbjkcbaaGreatDoor
open Go.RowKit Go.Sort Go.Lib
structure OkAt (l:List Pt) (k:Nat) (t:Int):Prop where
 ok:okV (l.take k)=(true,t)
 low:-1152921504606846977≤t
 z:k=0→t=-1152921504606846977
 p:∀q,0<k→l[k-1]?=some q→q.t=t
theorem OkAt.next {l:List Pt}{k:Nat}{t:Int}{p:Pt}(h:OkAt l k t) (hp:l[k]?=some p) (hs:stepV t p=true):OkAt l (k+1) p.t:=by
 refine ⟨by rw [okV_next hp,h.ok,hs];rfl,?_,fun e=>by omega,fun q _ hq=>?_⟩
 ·unfold stepV at hs
  simp at hs
  have:=h.low
  omega
 ·rw [Nat.add_sub_cancel,hp] at hq
  cases hq;rfl
theorem OkAt.bad {l:List Pt}{k:Nat}{t:Int}{p:Pt}(h:OkAt l k t) (hp:l[k]?=some p) (hs:stepV t p=false):colV l=false:=by
 have h1:(okV (l.take (k+1))).1=false:=by rw [okV_next hp,h.ok,hs];rfl
 unfold colV
 rw [okV_false h1];rfl
theorem refValid_any (w:World) (a:Option Addr) (n c:Nat) (l:List Pt) (hl:Src w 3 (.slice a n c) n (pts l)) (hn:n<4398046511104) :
 Calls Tryz.prog 23 #[.slice a n c] w fun e w'=>e=.returned (.bool (colV l))∧Ext w w':=by
 have HL:=hid hl
 have LN:=hid (zbI hl)
 clear hl
 go_enter Tryz.func23,Tryz.ntmps23
 go_wp2_with fail
 go_loopw [2,3] (fun s2 s3 wr=>∃k:Nat,s2=.bool false∧s3=.int .i64 (k:Int)∧k≤n∧Hid ((∃t,OkAt l k t)∧Ext w wr)) (fun _ i _=>n-(RowKit.intOf i).toNat)
 case atStart=>exact ⟨0,rfl,rfl,Nat.zero_le _,hid ⟨⟨_,⟨rfl,by decide,fun _=>rfl,fun q h=>by omega⟩⟩,Ext.refl _⟩⟩
 case round =>
  obtain ⟨k,rfl,rfl,hk,HI⟩:=hrel
  by_cases hlt:k<n
  ·obtain ⟨pb,po,p,rfl,hp,p0,p1,p2⟩:=zbz (HL.out.ext HI.out.2) hlt
   have HP:=hid hp
   obtain ⟨t,hok⟩:=HI.out.1
   have HOK:=hid hok
   have HLOW:=hok.low
   have HB0:=hid (fun h=>hok.bad hp (p:=p) h)
   clear hp p1 hok
   by_cases h1:p.t < -1152921504606846976
   ·have d1:decide (p.t < -1152921504606846976)=true:=decide_eq_true h1
    have HE:=hid (HB0.out (by unfold stepV;simp;omega))
    clear h1 HLOW
    (
      clear HB0
      go_upto_region 4 with fail
      go_big_quiet (fail)
      go_wp2_with fail
      go_ret
      exact ⟨by rw [HE.out];rfl,HI.out.2.trans (Ext.drewN _ _)⟩)
   ·have d1:decide (p.t < -1152921504606846976)=false:=decide_eq_false h1
    by_cases h2:1152921504606846976<p.t
    ·have d2:decide (1152921504606846976<p.t)=true:=decide_eq_true h2
     have HE:=hid (HB0.out (by unfold stepV;simp;omega))
     clear h1 h2 HLOW
     (
       clear HB0
       go_upto_region 4 with fail
       go_big_quiet (fail)
       go_wp2_with fail
       go_ret
       exact ⟨by rw [HE.out];rfl,HI.out.2.trans (Ext.drewN _ _)⟩)
    ·have d2:decide (1152921504606846976<p.t)=false:=decide_eq_false h2
     by_cases h3:p.s<0
     ·have d3:decide (p.s<0)=true:=decide_eq_true h3
      have HE:=hid (HB0.out (by unfold stepV;simp;omega))
      clear h1 h2 h3 HLOW
      (
        clear HB0
        go_upto_region 4 with fail
        go_big_quiet (fail)
        go_wp2_with fail
        go_ret
        exact ⟨by rw [HE.out];rfl,HI.out.2.trans (Ext.drewN _ _)⟩)
     ·have d3:decide (p.s<0)=false:=decide_eq_false h3
      by_cases h4:1152921504606846976<p.s
      ·have d4:decide (1152921504606846976<p.s)=true:=decide_eq_true h4
       have HE:=hid (HB0.out (by unfold stepV;simp;omega))
       clear h1 h2 h3 h4 HLOW
       (
         clear HB0
         go_upto_region 4 with fail
         go_big_quiet (fail)
         go_wp2_with fail
         go_ret
         exact ⟨by rw [HE.out];rfl,HI.out.2.trans (Ext.drewN _ _)⟩)
      ·have d4:decide (1152921504606846976<p.s)=false:=decide_eq_false h4
       rcases Nat.eq_zero_or_pos k with h5|h5
       ·have d5:decide ((0:Int)<(k:Int))=false:=by simp;omega
        have d5':decide (0<k)=false:=decide_eq_false (by omega)
        have HE:=hid (HOK.out.next HP.out (by unfold stepV;have:=HOK.out.z h5;simp;omega))
        clear h1 h2 h3 h4 h5 HLOW
        (
          clear HB0
          go_upto_region 4 with fail
          go_big_quiet (fail)
          go_wp2_with fail
          go_roundw
          case rel=>exact ⟨k+1,rfl,by go_num,by omega,hid ⟨⟨_,HE.out⟩,HI.out.2.trans (Ext.drewN _ _)⟩⟩
          case measure=>simp [RowKit.intOf];omega)
       ·have d5:decide ((0:Int)<(k:Int))=true:=by simp;omega
        have d5':decide (0<k)=true:=decide_eq_true h5
        obtain ⟨j,hj⟩:∃j,j=k-1:=⟨_,rfl⟩
        obtain ⟨qb,qo,q,hqa,hq,q0,_,_⟩:=zbz (HL.out.ext HI.out.2) (show j<n by omega)
        simp only [Option.some.injEq,Addr.mk.injEq,and_true] at hqa
        obtain ⟨rfl,rfl⟩:=hqa
        have hqt:q.t=t:=HOK.out.p q h5 (by rw [←hj];exact hq)
        have hwj:IntKind.i64.wrap ((k:Int)-1)=(j:Int):=by rw [IntWalk.i64_in _ (by omega)];omega
        have hjn:j<n:=by omega
        by_cases h6:p.t≤q.t
        ·have d6:decide (p.t≤q.t)=true:=decide_eq_true h6
         have HE:=hid (HB0.out (by unfold stepV;simp;omega))
         clear h1 h2 h3 h4 h5 h6 HLOW hqt hq hj
         (
           clear HB0
           go_upto_region 4 with fail
           go_big_quiet (fail)
           go_wp2_with fail
           go_ret
           exact ⟨by rw [HE.out];rfl,HI.out.2.trans (Ext.drewN _ _)⟩)
        ·have d6:decide (p.t≤q.t)=false:=decide_eq_false h6
         have HE:=hid (HOK.out.next HP.out (by unfold stepV;simp;omega))
         clear h1 h2 h3 h4 h5 h6 HLOW hqt hq hj
         (
           clear HB0
           go_upto_region 4 with fail
           go_big_quiet (fail)
           go_wp2_with fail
           go_roundw
           case rel=>exact ⟨k+1,rfl,by go_num,by omega,hid ⟨⟨_,HE.out⟩,HI.out.2.trans (Ext.drewN _ _)⟩⟩
           case measure=>simp [RowKit.intOf];omega)
  ·have HT:Hid ((okV l).1=true):=hid (by obtain ⟨t,h⟩:=HI.out.1;have:=h.ok;rw [yai (by have:=LN.out;omega)] at this;rw [this])
   by_cases h0:n=0
   ·have HE:Hid (colV l=false):=hid (by unfold colV;rw [LN.out,h0];simp)
    have hn0:¬(1:Int)≤(n:Int):=by omega
    clear h0
    go_wp2_with fail
    go_ret
    exact ⟨by rw [HE.out];rfl,HI.out.2⟩
   ·have hn0:(1:Int)≤(n:Int):=by omega
    by_cases h5:n≤4096
    ·have HE:Hid (colV l=true):=hid (by unfold colV;rw [HT.out,LN.out];simp;omega)
     have hn5:(n:Int)≤4096:=by omega
     clear h0
     go_wp2_with fail
     go_ret
     exact ⟨by rw [HE.out];first|rfl|simp [hn5],HI.out.2⟩
    ·have HE:Hid (colV l=false):=hid (by unfold colV;rw [LN.out];simp;omega)
     have hn5:¬(n:Int)≤4096:=by omega
     clear h0
     go_wp2_with fail
     go_ret
     exact ⟨by rw [HE.out];first|rfl|simp [hn5]|(simp;omega),HI.out.2⟩
end Go.Proofs.YtlmfhjipbjkcbaaGreatDoor
