/- x -/
import Derived.Test.YtlmfhjipbjkcbaaGreatDoorDiskC0
import Derived.Test.YtlmfhjipbjkcbaaGreatDoorPln2
set_option maxHeartbeats 8000000
set_option maxRecDepth 100000
set_option linter.unusedSimpArgs false
set_option linter.unusedVariables false
namespace Go.Proofs.YtlmfhjipbjkcbaaGreatDoor
open Go.RowKit Go.Sort Go.Lib
theorem FileAt.ext' {w w':World}{x:FileX}(h:FileAt w x) (hc:Ext w w'):FileAt w' x:=h.chg (Chg.of_ext (S:=fun _=>False) hc) (fun _ _=>id)
theorem src_bytes_pre {w:World}{a:Option Addr}{n c N:Nat}{v:Value}{l:List UInt8}(h:Row w 5 1 v l.length (u8s l)) (hv:v=.slice a n c) (hN:N≤l.length) :
 Src w 1 (.slice a N c) N (u8s (l.take N))∧N≤c:=by
 subst hv
 obtain ⟨_,⟨e,h0⟩|⟨g,cap,cur,e,_,hb,h1,h2,h3,h4⟩⟩:=h
 ·cases e
  have:N=0:=by omega
  subst this
  exact ⟨.inl ⟨rfl,rfl,by simp [u8s]⟩,Nat.le_refl _⟩
 ·cases e
  refine ⟨.inr ⟨_,_,rfl,by rw [zaI];simp;omega,fun j u hj=>?_,zaH _⟩,by omega⟩
  have hj':j<N:=by
   have:=(yad.1 hj).1
   rw [zaI] at this;simp at this;omega
  rw [yak,Nat.zero_add,zaa hb]
  have e2:=congrArg (fun l=>l[j]?) h4
  simp only [yaT,Nat.mul_one] at e2
  rw [if_pos (by omega)] at e2
  rw [u8s,List.map_take,yaT,if_pos hj'] at hj
  rw [←Array.getElem?_toList,e2]
  exact hj
theorem elem_du8:ElemOk Tryz.prog 51 5 1 1 :=
 ⟨Tryz.underlying51,by
   obtain ⟨i0,hi,hz0,hz1,hz2⟩:=info_parts info_u8
   exact ⟨i0,_,hi,hz0,hz1,hz2,rfl⟩,by decide⟩
theorem keepF_some {keep:List Int}{k:Nat}{f:FileS}(h:0<keepN keep k f∨f.synced=true):keepF keep k f=some ⟨f.bytes.take (keepN keep k f),keepN keep k f,true⟩:=by
 unfold keepF
 rw [if_pos h]
structure CrashR (w:World) (dn mn:Nat) (S:DiskS) (keep:List Int) (k:Nat) (wr:World):Prop where
 rep:∃E,DiskRep wr dn mn E S.room (sumF (zaN S keep k)) (-1) 0∧fs E=zaN S keep k∧∀b∈foot dn mn E,w.heap.size≤b
 ext:Ext w wr
theorem DiskRep.dm {w:World}{d mb:Nat}{E:List (ByteArray×FileX)}{room used left ops:Int}(h:DiskRep w d mb E room used left ops):d≠mb:=by
 have hap:=h.apart
 simp only [foot,yaU,yaq,not_or] at hap
 exact hap.1.1
theorem crash_add {w wr W W5 w4:World}{dn mn fb k N us:Nat}{S:DiskS}{keep:List Int}{EN:List (ByteArray×FileX)}{s:ByteArray}{x:FileX}{a3:Option Addr}{c3:Nat}
 (hx0:Ext w wr) (hxw:Ext wr W) (hr2:DiskRep W dn mn EN S.room (sumF (zaN S keep k)) (-1) 0) (hfn:fs EN=zaN S keep k) (hft:∀b∈foot dn mn EN,w.heap.size≤b) (hnew:aget (zaN S keep k) s=none)
 (hc:zaN S keep (k+1)=zaN S keep k++found s (keepF keep k x.f)) (hkf:keepF keep k x.f=some ⟨x.f.bytes.take N,N,true⟩) (hx5:Ext W W5)
 (hb5:W5.heap[fb]?=some (.cells #[.slice a3 N c3,.int .i64 (N:Int),.bool true] 118 (0,0))) (hrow5:Row W5 5 1 (.slice a3 N c3) N (u8s (x.f.bytes.take N))) (hf5:∀g,(Value.slice a3 N c3).ownBlock=some g→g≠fb)
 (hfb:W.heap.size≤fb) (ho3:∀g,(Value.slice a3 N c3).ownBlock=some g→W.heap.size≤g) (hmap:MapIs (fun s:ByteArray=>Value.string s) w4 mn (aput (ptrs EN) s (.pointer (some ⟨fb,0,none⟩)))) (hch:Chg (·=mn) W5 w4)
 (hus:us=sumF (zaN S keep k)) (hdb:w4.heap[dn]?=some (.cells #[.map (some mn),.int .i64 S.room,.int .i64 (us:Int),.int .i64 (-1),.int .i64 0] 94 (0,0))) (hN:N≤x.f.bytes.length) :
 CrashR w dn mn S keep (k+1) (w4.setCell ⟨dn,2,none⟩ (.int .i64 ((us:Int)+(N:Int))))∧Chg (fun b=>b=dn∨b=mn) wr (w4.setCell ⟨dn,2,none⟩ (.int .i64 ((us:Int)+(N:Int)))):=by
 have hlt:=hr2.foot_lt
 have hdl:=hlt dn (by simp [foot])
 have hml:=hlt mn (by simp [foot])
 have hdw:=hft dn (by simp [foot])
 have hmw:=hft mn (by simp [foot])
 have hdm:=hr2.dm
 have hC0:Chg (fun b=>b=dn∨b=mn) W w4:=(Chg.of_ext (S:=fun b=>b=dn∨b=mn) hx5).trans hch (fun _ _ e=>.inr e)
 have hC:Chg (fun b=>b=dn∨b=mn) W (w4.setCell ⟨dn,2,none⟩ (.int .i64 ((us:Int)+(N:Int)))):=hC0.trans (zaj _ _ _ _) (fun _ _ e=>.inl e)
 have hC5:Chg (fun b=>b=dn∨b=mn) W5 (w4.setCell ⟨dn,2,none⟩ (.int .i64 ((us:Int)+(N:Int)))):=(hch.mono (fun _ _ e=>.inr e)).trans (zaj _ _ _ _) (fun _ _ e=>.inl e)
 have hlen:(x.f.bytes.take N).length=N:=by simp;omega
 have hsum:(us:Int)+(N:Int)=((sumF (zaN S keep (k+1)):Nat):Int):=by
  rw [hc,hkf,sumF_append,←hus]
  simp [found,sumF]
  omega
 obtain ⟨r1,r2⟩:=hr2.add (w':=w4.setCell ⟨dn,2,none⟩ (.int .i64 ((us:Int)+(N:Int)))) (name:=s) (x':=⟨fb,.slice a3 N c3,⟨x.f.bytes.take N,N,true⟩⟩) (room':=S.room) (used':=(us:Int)+(N:Int)) (left':=-1) (ops':=0)
  (by rw [←hfn,fs,zaL] at hnew;simpa using hnew) hC (fun _ h=>h)
  (by have:=zaq (i:=2) hdb (.int .i64 ((us:Int)+(N:Int)));simpa using this)
  (hmap.chg (zaj _ _ _ _) (fun e=>hdm e.symm))
  ⟨by rw [hC5.block fb (zab hb5) (by omega)];exact hb5,by
    have:=hrow5.chg hC5 (fun g hg e=>by have:=ho3 g hg;omega)
    simpa [hlen] using this⟩
  (fun b hb=>by
    simp only [FileX.blocks,yaq,Option.mem_toList] at hb
    rcases hb with rfl|hb
    ·exact hfb
    ·exact ho3 b hb)
  (fun e=>hf5 _ e rfl)
 refine ⟨⟨⟨_,by rw [←hsum];exact r1,?_,fun b hb=>?_⟩,?_⟩,?_⟩
 ·rw [fs,←zdo,←fs,hfn,hc,hkf,zcs _ hnew];rfl
 ·rcases r2 b hb with h|h
  ·exact hft b h
  ·have:=hx0.size;have:=hxw.size;omega
 ·exact ((Chg.of_ext (S:=fun b=>b=dn∨b=mn) (hx0.trans hxw)).trans hC (fun _ _ e=>e)).ext (fun i hi e=>by omega)
 ·exact (Chg.of_ext hxw).trans hC (fun _ _ e=>e)
theorem disk_crash {w:World}{d:Nat}{S:DiskS}{B:List Nat}(ok:S.Ok) (h:zbj w d S B) (a:Option Addr) (n c:Nat) (keep:List Int) (hk:Src w 1 (.slice a n c) n (zints keep)) (hn:n≤9223372036854775807) :
 Calls Tryz.prog 24 #[.pointer (some ⟨d,0,none⟩),.slice a n c] w fun e w'=>∃dn B',e=.returned (.tuple #[.pointer (some ⟨dn,0,none⟩),.int .i64 0])∧zbj w' dn (S.crash keep) B'∧Ext w w'∧∀b∈B',w.heap.size≤b:=by
 have HA:=hid h
 have HK:=hid hk
 have HO:=hid ok
 obtain ⟨mb,E,h,hfs,rfl⟩:=h
 have c0:w.cell? ⟨d,0,none⟩=some (.map (some mb)):=by rw [zaa h.head];rfl
 have c1:w.cell? ⟨d,1,none⟩=some (.int .i64 S.room):=by rw [zaa h.head];rfl
 have r0:=ok.room0
 have r1:=ok.room1
 have HR:=hid h
 have HF:=hid hfs
 clear h hfs hk ok
 go_enter Tryz.func24,Tryz.ntmps24
 go_wp2_with (first
  | (go_at_call 40;refine (zdk c0).mono ?_;rintro e w' ⟨rfl,rfl⟩)
  | (go_at_call 9;refine (disk_new r0 r1 w).mono ?_;rintro e w1 ⟨rfl,hd1,hx1⟩;have HD1:=hid hd1;have HX1:=hid hx1;clear hd1 hx1)
  | fail)
 refine (disk_list HO.out (HA.out.ext HX1.out) ⟨#[]⟩).mono ?_
 rintro e w2 ⟨v2,rfl,hto⟩
 obtain ⟨dn,hdn⟩:∃dn,dn=w.heap.size+1:=⟨_,rfl⟩
 obtain ⟨mn,hmn⟩:∃mn,mn=w.heap.size:=⟨_,rfl⟩
 have HI0:Hid (CrashR w dn mn S keep 0 w2):=hid (by
  obtain ⟨mb',E',hr,hf,hft⟩:=HD1.out
  have hE:E'=[]:=by
   cases E' with
   | nil=>rfl
   | cons p E'=>simp [fs,amap,zbP] at hf
  subst hE
  have:mb'=w.heap.size:=by simp [foot] at hft;omega
  subst this
  subst hdn hmn
  exact ⟨⟨[],hr.ext hto.ext,rfl,fun b hb=>by simp [foot] at hb;omega⟩,HX1.out.trans hto.ext⟩)
 obtain ⟨a2,c2,rfl⟩:=hto.row.shape
 have HT:=hid hto
 obtain ⟨m,hm⟩:∃m,m=(S.list ⟨#[]⟩).length:=⟨_,rfl⟩
 have hml:m≤512:=by rw [hm];exact list_len HO.out
 rw [←hm,←hdn]
 have HM:=hid hm
 have HDM:Hid (dn<w1.heap.size∧mn<w1.heap.size):=hid (by
  have h1:=HD1.out.lt (w.heap.size+1) (by simp)
  omega)
 clear hto hdn hmn hm HD1
 go_wp2_with fail
 go_loopw [25] (fun i wr=>∃k:Nat,k≤m∧i=.int .i64 k∧Hid (CrashR w dn mn S keep k wr)∧Hid (Chg (fun b=>b=dn∨b=mn) w2 wr)) (fun i _=>m-(RowKit.intOf i).toNat)
 case atStart=>exact ⟨0,by omega,rfl,HI0,hid (Chg.refl _ _)⟩
 case round =>
  clear HI0
  obtain ⟨k,hk,rfl,HI,HX2⟩:=hrel
  by_cases hlt:k<m
  ·obtain ⟨b5,o5,s,rfl,hs,c5⟩:=strs_src ((HT.out.row.chg HX2.out (fun g hg e=>by have h1:=HT.out.own g hg;have h2:=HDM.out;omega)).strs_src) (show k<(S.list ⟨#[]⟩).length by rw [←HM.out];exact hlt)
   obtain ⟨f,hf⟩:=list_mem hs
   obtain ⟨x,hxE,rfl⟩:∃x,aget E s=some x∧x.f=f:=by
    rw [←HF.out,fs,zaL] at hf
    simpa using hf
   have hsm:=HO.out.small _ (zaY hf)
   have hla:=HO.out.lasts _ (zaY hf)
   simp only at hsm hla
   have HREP:=hid (HR.out.ext HI.out.ext)
   have hfa:FileAt wr x:=HREP.out.files (s,x) (zaY hxE)
   have hzf:∀w:World,(zeroValue 116).run Tryz.prog w=.ok (.pointer none) w:=fun _=>by kernel_rfl
   have hlk:(Instr.lookup 92 (.map (some mb)) (.string s) false).run Tryz.prog wr=.ok (.pointer (some ⟨x.fb,0,none⟩)) wr:=by
    have:=HREP.out.map.lookup (P:=Tryz.prog) (zaz Tryz.underlying9) Tryz.underlying92 (.pointer none) (hzf _) s false
    rw [ptrs,zaL,hxE] at this
    simpa only [Option.map_some,Option.getD_some,Bool.false_eq_true,if_false] using this
   have d0:wr.cell? ⟨d,0,none⟩=some (.map (some mb)):=by rw [zaa HREP.out.head];rfl
   obtain ⟨xa,xc,hxv⟩:=hfa.row.shape
   have x0:wr.cell? ⟨x.fb,0,none⟩=some (.slice xa x.f.bytes.length xc):=by rw [zaa hfa.head,←hxv];rfl
   have x1:wr.cell? ⟨x.fb,1,none⟩=some (.int .i64 (x.f.lasts:Int)):=by rw [zaa hfa.head];rfl
   have x2:wr.cell? ⟨x.fb,2,none⟩=some (.bool x.f.synced):=by rw [zaa hfa.head];rfl
   have HFA:=hid hfa
   have HXV:=hid hxv
   obtain ⟨N,hN⟩:∃N,N=keepN keep k x.f:=⟨_,rfl⟩
   have hNl:N≤x.f.bytes.length:=by rw [hN];exact keepN_le keep k hla
   have HN:=hid hN
   have HC:Hid (zaN S keep (k+1)=zaN S keep k++found s (keepF keep k x.f)):=hid (by rw [zaN,crashStep,hs];simp only [hf,Option.getD_some])
   have HNEW:=hid (crashTo_new HO.out keep hs)
   clear hf hs hxE hfa hxv hN
   obtain ⟨lasts,hlas⟩:∃l,l=x.f.lasts:=⟨_,rfl⟩
   obtain ⟨bs,hbs⟩:∃l,l=x.f.bytes.length:=⟨_,rfl⟩
   rw [←hlas] at hla x1
   rw [←hbs] at hla hsm x0 hNl
   have HLAS:=hid hlas
   have HBS:=hid hbs
   clear hlas hbs
   obtain ⟨EN,hrn,hfn,hft⟩:=HI.out.rep
   have HRN:=hid hrn
   have HFN:=hid hfn
   have HFT:=hid hft
   have hun:=crashTo_sum HO.out keep k
   obtain ⟨us,hus⟩:∃us,us=sumF (zaN S keep k):=⟨_,rfl⟩
   rw [←hus] at hun
   have HUS:=hid hus
   have hfx:=HFA.out.head
   obtain ⟨sy,hsy⟩:∃sy,sy=x.f.synced:=⟨_,rfl⟩
   rw [←hsy] at x2
   have HSY:=hid hsy
   have HCW:Hid (∀W,Ext wr W→W.cell? ⟨x.fb,0,none⟩=some (.slice xa bs xc)∧W.cell? ⟨x.fb,2,none⟩=some (.bool sy)∧W.cell? ⟨dn,0,none⟩=some (.map (some mn))∧W.cell? ⟨dn,2,none⟩=some (.int .i64 (us:Int))∧W.frozen? ⟨dn,2,none⟩=false):=hid (fun W hx=>by
    have hl:=zab hfx
    have hr2:=HRN.out.ext hx
    refine ⟨(hx.cell (p:=⟨x.fb,0,none⟩) hl).trans x0,(hx.cell (p:=⟨x.fb,2,none⟩) hl).trans x2,?_,?_,zan hr2.head 2⟩
    ·rw [zaa hr2.head];rfl
    ·rw [zaa hr2.head,HUS.out];rfl)
   clear hrn hfn hft hus hsy hfx
   have hcase:(0<N)∨(¬0<N∧sy=true)∨(¬0<N∧sy=false):=by
    by_cases h:0<N
    ·exact .inl h
    ·cases sy
     ·exact .inr (.inr ⟨h,rfl⟩)
     ·exact .inr (.inl ⟨h,rfl⟩)
   obtain ⟨sy0,hsy0⟩:∃sy0,sy0=sy:=⟨_,rfl⟩
   have HSYX:Hid (sy0=x.f.synced):=hid (by rw [hsy0];exact HSY.out)
   have HSY0:Hid (sy0=sy):=hid hsy0
   clear hsy0
   rcases hcase with hg|⟨hg,rfl⟩|⟨hg,rfl⟩
   all_goals
    rcases Nat.lt_or_ge k n with hkn|hkn
   all_goals
    first
     | (have hkn1:k<n:=hkn
        clear hkn
        obtain ⟨b6,o6,z,rfl,hz,c6⟩:=zcZ (HK.out.ext HI.out.ext) hkn1
        have hv:N=lasts+(max 0 (min z ((bs-lasts:Nat):Int))).toNat:=by
         rw [HN.out,keepN,HLAS.out,HBS.out,yas,hz];rfl
        have hw1:IntKind.i64.wrap ((bs:Int)-(lasts:Int))=((bs-lasts:Nat):Int):=by rw [IntWalk.i64_in _ (by omega)];omega
        have hw2:IntKind.i64.wrap ((lasts:Int)+max 0 (min z ((bs-lasts:Nat):Int)))=(N:Int):=by rw [IntWalk.i64_in _ (by omega)];omega
        clear hz hv
        generalize bs-lasts=q at *
        go_wp2_with fail
        clear hlk hzf d0 c5
        go_big_quiet (fail)
        generalize hW:World.drewN wr _=W
        have HXW:Hid (Ext wr W):=hid (by rw [←hW];exact Ext.drewN _ _)
        clear hW hw1 hw2 c6 x0 x1 x2 hkn1
        obtain ⟨y0,y2,e0,e2,e3⟩:=HCW.out W HXW.out
        go_wp2_with fail)
     | (have hkn':¬k<n:=by omega
        have hv:N=lasts:=by
         rw [HN.out,keepN,HLAS.out,yas,List.getElem?_eq_none (by rw [zdJ HK.out];exact hkn)]
         simp only [Option.getD_none]
         omega
        subst hv
        obtain ⟨y0,y2,e0,e2,e3⟩:=HCW.out wr (Ext.refl _)
        clear x0 x2
        go_wp2_with fail
        clear hlk hzf d0 c5 x1 hkn hkn' y0 y2 e0 e2 e3
        obtain ⟨W,hW⟩:∃W,W=wr:=⟨_,rfl⟩
        have HXW:Hid (Ext wr W):=hid (by rw [hW];exact Ext.refl _)
        rw [←hW]
        clear hW
        obtain ⟨y0,y2,e0,e2,e3⟩:=HCW.out W HXW.out)
   rotate_right 2
   iterate 2
    ·go_roundw
     case rel=>exact ⟨k+1,by omega,by go_num,hid ⟨by
      have hk0:keepF keep k x.f=none:=by
       unfold keepF
       rw [if_neg (by rintro (h|h);{ rw [←HN.out] at h;exact hg h };{ rw [←HSY.out] at h;cases h })]
      rw [HC.out,hk0,found,List.append_nil]
      refine ⟨EN,?_,HFN.out,HFT.out⟩
      have h2:=HRN.out.ext HXW.out
      exact h2,HI.out.ext.trans HXW.out⟩,hid (HX2.out.trans (Chg.of_ext HXW.out) (fun _ _ e=>e))⟩
     case measure=>simp [RowKit.intOf];omega
   all_goals
    have hor:0<N∨sy0=true:=by first|exact .inl hg|exact .inr HSY0.out
    have HKF:Hid (keepF keep k x.f=some ⟨x.f.bytes.take N,N,true⟩):=hid (by
     rw [HN.out]
     refine keepF_some (hor.imp (fun h=>?_) (fun h=>?_))
     ·rw [←HN.out];exact h
     ·rw [←HSYX.out];exact h)
    have HSRC:Hid (Src W 1 (.slice xa N xc) N (u8s (x.f.bytes.take N))∧N≤xc):=hid (src_bytes_pre (HFA.out.ext' HXW.out).row HXV.out (by have:=HBS.out;omega))
    have hNc:=HSRC.out.2
    have HR2:=hid (HRN.out.ext HXW.out)
    have f0:=zaf (T:=fun _=>false) y0 rfl
    have f1:=zaf (T:=fun _=>false) e0 rfl
    clear y0 y2 e0 e2 e3
    refine zao 16 (fun w'=>∃p:Turned,w'=turned W (fun _=>false) p.d p.f p.os) (.reads [0,1,2,3,4,6,7,8,9,10,11,13] (.one 5 (.one 12 (.reads [14] (.one 15 (.one 16 .done)))))) (by kernel_rfl) (by kernel_rfl) (fun _ _ dd _ _ hh=>by cases dd<;>exact hh) ?_ ?_
    ·exact zad (Ext.drewN W 1)
    refine zak ?_
    simp only [zac,yab,yaa]
    repeat (go_big_quiet_step (fail))
    refine yaF ?_
    refine zae ?_
    simp only [zac,yab,yaa]
    clear f0 f1
    go_wp2_with fail
    refine zal (zad (((Ext.refl W).alloc _).drew)) (zae ?_)
    simp only [zac,yab,yaa]
    refine zah (n:=0) (m:=N) elem_du8 rfl _ _ rfl (v:=.slice _ _ _) rfl rfl (row_made (W:=(W.alloc (.cells #[] 5 (0,0))).drew) (heap_alloc_new W _) 1) (HSRC.out.1.ext (((Ext.refl W).alloc _).drew)) (by unfold maxLen;omega) (by omega) ?_
    intro v3 w3 happ
    rw [Nat.zero_add,yaP] at happ
    have hx3:Ext W w3:=Chg.ext ((Chg.of_ext (((Ext.refl W).alloc _).drew)).trans happ.chg (fun _ _ h=>h)) (fun i hi e=>by simp [Value.ownBlock] at e;omega)
    have ho3:∀g,v3.ownBlock=some g→W.heap.size≤g:=fun g hg=>by
     rcases happ.loc with e|e
     ·rw [e] at hg;simp [Value.ownBlock] at hg;omega
     ·rw [e] at hg;simp at hg;omega
    have hrow3:=happ.row
    obtain ⟨a3,c3,rfl⟩:=happ.row.shape
    have HX3:=hid hx3
    have HO3:=hid ho3
    have HROW3:=hid hrow3
    clear happ hx3 ho3 hrow3
    go_wp2_with fail
    refine zal (zad HX3.out) (zak ?_)
    simp only [zac,yab,yaa]
    repeat (go_big_quiet_step (fail))
    refine yaF ?_
    refine zae ?_
    simp only [zac,yab,yaa]
    go_wp2_with fail
    refine zal (zad (HX3.out.alloc _)) (zae ?_)
    simp only [zac,yab,yaa]
    generalize hW5:World.alloc w3 _=W5
    have HX5:Hid (Ext W W5):=hid (by rw [←hW5];exact HX3.out.alloc _)
    have HB5:Hid (W5.heap[w3.heap.size]?=some (.cells #[.slice a3 N c3,.int .i64 (N:Int),.bool true] 118 (0,0))):=hid (by rw [←hW5];exact heap_alloc_new _ _)
    have HROW5:Hid (Row W5 5 1 (.slice a3 N c3) N (u8s (x.f.bytes.take N))):=hid (HROW3.out.ext (by rw [←hW5];exact (Ext.refl _).alloc _))
    have HF5:Hid (∀g,(Value.slice a3 N c3).ownBlock=some g→g≠w3.heap.size):=hid (fun g hg e=>by have:=HROW3.out.lt hg;omega)
    have HFB:Hid (W.heap.size≤w3.heap.size):=hid HX3.out.size
    clear hW5 HROW3 HX3
    generalize w3.heap.size=fb at *
    have HR5:=hid (HR2.out.ext HX5.out)
    obtain ⟨w4,hup,hmap,hchg⟩:=HR5.out.map.update (P:=Tryz.prog) (zaz Tryz.underlying9) Tryz.underlying92 s (.pointer (some ⟨fb,0,none⟩))
    have HMAP:=hid hmap
    have HCH:=hid hchg
    clear hmap hchg
    go_wp2_with fail
    refine zau (zav ?_)
    clear hup
    have hdm:=HR5.out.dm
    have hdb:=(HCH.out.block dn (zab HR5.out.head) hdm).trans HR5.out.head
    rw [←HUS.out] at hdb
    have HDB:=hid hdb
    have g0:w4.cell? ⟨dn,2,none⟩=some (.int .i64 (us:Int)):=by rw [zaa hdb];rfl
    have g1:w4.frozen? ⟨dn,2,none⟩=false:=zan hdb 2
    clear hdb hdm
    go_wp2_with fail
    have KK:=hid (crash_add HI.out.ext HXW.out HR2.out HFN.out HFT.out HNEW.out HC.out HKF.out HX5.out HB5.out HROW5.out HF5.out HFB.out HO3.out HMAP.out HCH.out HUS.out HDB.out (by have:=HBS.out;omega))
    go_roundw
    case rel=>exact ⟨k+1,by omega,by go_num,hid KK.out.1,hid (HX2.out.trans KK.out.2 (fun _ _ e=>e))⟩
    case measure=>simp [RowKit.intOf];omega
  ·go_wp2_with fail
   go_ret2
   obtain ⟨EN,h1,h2,h3⟩:=HI.out.rep
   have hkm:k=(S.list ⟨#[]⟩).length:=by have:=HM.out;omega
   subst hkm
   exact ⟨dn,foot dn mn EN,rfl,⟨mn,EN,h1,h2,rfl⟩,HI.out.ext,h3⟩
end Go.Proofs.YtlmfhjipbjkcbaaGreatDoor
