/- x -/
import Derived.Test.YtlmfhjipbjkcbaaGreatDoorAgg
import Derived.Test.YtlmfhjipbjkcbaaGreatDoorVbq
import Derived.Deep.CutBlock
import Derived.Test.YtlmfhjipbjkcbaaGreatDoorMake
set_option maxHeartbeats 4000000
set_option maxRecDepth 100000
set_option linter.unusedSimpArgs false
set_option linter.unusedVariables false
namespace Go.Proofs.YtlmfhjipbjkcbaaGreatDoor
section
open Go.RowKit Go.Sort Go.Lib
abbrev putV (b:Nat):Value:=.func (Fn.func 263) #[.pointer (some ⟨b,0,none⟩)] #[]
structure WAt (b:Nat) (o:Option Nat) (L:List Bool) (w:World):Prop where
 blk:∃(a:Option Addr) (n c:Nat) (B:List UInt8),w.heap[b]?=some (.cells #[putV b,.slice a n c,.int .i64 (L.length:Int)] 390 (0,0))∧Row w 5 1 (.slice a n c) n (u8s B)∧Bits B L∧(Value.slice a n c).ownBlock=o
 ne:o≠some b
def WTo (b:Nat) (o:Option Nat) (L:List Bool) (w w':World):Prop:=∃o',WAt b o' L w'∧(o'=o∨∃k,o'=some k∧w.heap.size≤k)∧Chg (fun k=>k=b∨o=some k) w w'
theorem WTo.refl {b:Nat}{o:Option Nat}{L:List Bool}{w:World}(h:WAt b o L w):WTo b o L w w:=⟨o,h,.inl rfl,Chg.refl _ _⟩
theorem WTo.next {b:Nat}{o o1:Option Nat}{L:List Bool}{w w1 w2:World}(ho:o1=o∨∃k,o1=some k∧w.heap.size≤k) (hc:Chg (fun k=>k=b∨o=some k) w w1) (h:WTo b o1 L w1 w2):WTo b o L w w2:=by
 obtain ⟨o2,h1,h2,h3⟩:=h
 have hs:=hc.size
 refine ⟨o2,h1,?_,hc.trans h3 (fun i hi e=>?_)⟩
 ·rcases h2 with rfl|⟨k,rfl,hk⟩
  ·exact ho
  ·exact .inr ⟨k,rfl,by omega⟩
 ·rcases e with e|e
  ·exact .inl e
  ·rcases ho with rfl|⟨k,rfl,hk⟩
   ·exact .inr e
   ·cases e;omega
theorem sl_info:(Tryz.prog.info? 51).map (·.size)=some 1:=by kernel_rfl
theorem int_info1:(Tryz.prog.info? 3).map (·.size)=some 1:=by kernel_rfl
theorem fn_info:(Tryz.prog.info? 388).map (·.size)=some 1:=by kernel_rfl
theorem newWriter_any (w:World):Calls Tryz.prog 220 #[] w fun e w'=>e=.returned (.pointer (some ⟨w.heap.size,0,none⟩))∧WAt w.heap.size none [] w'∧Ext w w':=by
 have HB:=hid (heap_alloc_new w (.cells #[.nilFunc,.slice none 0 0,.int .i64 0] 390 (0,0)))
 go_enter Tryz.func220,Tryz.ntmps220
 go_wp2_with (first|(refine zap rfl _ _ _ rfl _ _ _ #[putV w.heap.size,.slice none 0 0,.int .i64 0] _ _ rfl rfl rfl rfl HB.out (by simp) rfl fn_info ?_;rintro w1 hb1 hc1 _he;have HB1:=hid hb1;have HX1:Hid (Ext w w1):=hid (((Chg.of_ext (S:=fun _=>False) ((Ext.refl w).alloc _)).trans hc1 (fun i hi e=>by omega)).ext (fun _ _ e=>e));clear hb1 hc1 _he))
 go_ret
 exact ⟨rfl,⟨⟨none,0,0,[],HB1.out,Row.nil _ _ _,Bits.nil,rfl⟩,by simp⟩,HX1.out⟩
theorem bits_or_u8_nat (a b:Nat) (ha:a<256) (hb:b<256):bits .or .u8 (a:Int) (b:Int)=((a ||| b:Nat):Int):=by
 have hx:a ||| b<2 ^ 8:=Nat.or_lt_two_pow (by omega) (by omega)
 have h1:(BitVec.ofInt 8 (a:Int)).toNat=a:=by
  rw [BitVec.ofInt_natCast,BitVec.toNat_ofNat];exact Nat.mod_eq_of_lt (by omega)
 have h2:(BitVec.ofInt 8 (b:Int)).toNat=b:=by
  rw [BitVec.ofInt_natCast,BitVec.toNat_ofNat];exact Nat.mod_eq_of_lt (by omega)
 show IntKind.u8.wrap ((BitVec.ofInt 8 (a:Int) ||| BitVec.ofInt 8 (b:Int)).toNat:Int)=_
 rw [BitVec.toNat_or,h1,h2,IntKind.wrap_u8]
 omega
theorem or_byte (x:Bool) (s:Nat) (y:UInt8) (hs:s≤7):bits .or .u8 (y.toNat:Int) (IntKind.u64.wrap ((x.toNat:Int)*2 ^ s)%256)=((y ||| UInt8.ofNat (x.toNat*2 ^ s)).toNat:Int):=by
 have h1:x.toNat*2 ^ s<256:=by
  have:2 ^ s≤2 ^ 7:=yaQ (by omega) hs
  cases x<;>simp<;>omega
 have e:IntKind.u64.wrap ((x.toNat:Int)*2 ^ s)%256=((x.toNat*2 ^ s:Nat):Int):=by
  rw [IntKind.wrap_u64,show (x.toNat:Int)*2 ^ s=((x.toNat*2 ^ s:Nat):Int) by push_cast;rfl]
  omega
 rw [e,bits_or_u8_nat _ _ (by have:=y.toNat_lt;omega) h1,UInt8.toNat_or,UInt8.toNat_ofNat',Nat.mod_eq_of_lt (by simpa using h1)]
theorem row_some {w:World}{e:TypeId}{size:Nat}{a:Option Addr}{n c:Nat}{xs:List Value}(h:Row w e size (.slice a n c) n xs) (h0:0<n):∃g,a=some ⟨g,0,none⟩:=by
 obtain ⟨_,⟨e',h⟩|⟨g,cap,cur,e',_⟩⟩:=h
 ·omega
 ·simp only [Value.slice.injEq] at e'
  exact ⟨g,e'.1⟩
theorem zdX {w:World}{t:TypeId}{g n c q:Nat}{B:List UInt8}{y:UInt8}(h:Row w t 1 (.slice (some ⟨g,0,none⟩) n c) n (u8s B)) (hy:B[q]?=some y):w.cell? ⟨g,q,none⟩=some (.int .u8 (y.toNat:Int))∧w.frozen? ⟨g,q,none⟩=false:=by
 obtain ⟨hl,⟨e',_⟩|⟨g',cap,cur,e',hb0,hb,h1,h2,h3,h4⟩⟩:=h
 ·cases e'
 ·simp only [Value.slice.injEq,Option.some.injEq,Addr.mk.injEq,and_true,true_and] at e'
  obtain ⟨rfl,rfl⟩:=e'
  have e0:(u8s B)[q]?=some (.int .u8 (y.toNat:Int)):=by simp [u8s,hy]
  rw [←h4,yaT] at e0
  split at e0
  ·exact ⟨by rw [zaa hb];simpa using e0,zan hb q⟩
  ·cases e0
theorem Row.setU8 {w:World}{t:TypeId}{g n c:Nat}{B:List UInt8}(h:Row w t 1 (.slice (some ⟨g,0,none⟩) n c) n (u8s B)) (q:Nat) (y:UInt8) :
 Row (w.setCell ⟨g,q,none⟩ (.int .u8 (y.toNat:Int))) t 1 (.slice (some ⟨g,0,none⟩) n c) n (u8s (B.set q y)):=by
 obtain ⟨hl,⟨e',_⟩|⟨g',cap,cur,e',hb0,hb,h1,h2,h3,h4⟩⟩:=h
 ·cases e'
 ·simp only [Value.slice.injEq,Option.some.injEq,Addr.mk.injEq,and_true,true_and] at e'
  obtain ⟨rfl,rfl⟩:=e'
  refine ⟨by rw [zaI,List.length_set];rw [zaI] at hl;exact hl,.inr ⟨g,c,_,rfl,hb0,zaq hb _,h1,h2,by simpa using h3,?_⟩⟩
  rw [Array.toList_setIfInBounds,List.take_set,h4]
  simp [u8s,List.map_set]
theorem wone_any (w:World) (b:Nat) (o:Option Nat) (L:List Bool) (x:Bool) (h:WAt b o L w) (hlen:L.length<8388608) :
 Calls Tryz.prog 263 #[.pointer (some ⟨b,0,none⟩),.int .u64 (x.toNat:Int)] w fun e w'=>e=.returned (.tuple #[])∧WTo b o (L++[x]) w w':=by
 obtain ⟨a,n,c,B,hb,hr,hB,ho⟩:=h.blk
 have HB:=hid hb
 have HR:=hid hr
 have HBI:=hid hB
 have HO:=hid (And.intro ho h.ne)
 obtain ⟨k,hk⟩:∃k,k=L.length:=⟨_,rfl⟩
 have HK:=hid hk
 rw [←hk] at HB hlen
 have c1:=zaa HB.out 1
 have c2:=zaa HB.out 2
 simp at c1 c2
 obtain ⟨r,hr8⟩:∃r,r=k%8:=⟨_,rfl⟩
 obtain ⟨q,hq8⟩:∃q,q=k/8:=⟨_,rfl⟩
 have htm:((k:Int).tmod 8)=(r:Int):=by rw [Int.tmod_eq_emod_of_nonneg (by omega)];omega
 have htd:((k:Int).tdiv 8)=(q:Int):=by rw [Int.tdiv_eq_ediv_of_nonneg (by omega)];omega
 have HQ:=hid (And.intro hr8 hq8)
 have hr7:r≤7:=by omega
 have hn:n=(k+7)/8:=by
  have h1:=hr.len
  rw [zaI] at h1
  have h2:=hB.len
  omega
 have hBn:B.length=n:=by
  have h1:=hr.len
  rw [zaI] at h1
  omega
 have HN:=hid (And.intro hn hBn)
 have hn2:n≤1048576:=by omega
 have hwq:wrap64 (q:Int)=(q:Int):=by unfold wrap64;omega
 obtain ⟨s,hs⟩:∃s,s=7-r:=⟨_,rfl⟩
 have hws:IntKind.i64.wrap (7-(r:Int))=(s:Int):=by rw [IntWalk.i64_in _ (by omega)];omega
 have HS:=hid hs
 have hs7:s≤7:=by omega
 have HOR:Hid (∀y:UInt8,bits .or .u8 (y.toNat:Int) (IntKind.u64.wrap ((x.toNat:Int)*2 ^ s)%256)=((y ||| UInt8.ofNat (x.toNat*2 ^ s)).toNat:Int)):=hid (fun y=>or_byte x s y hs7)
 clear h hb hr hB ho hk hr8 hq8 hn hBn hs
 go_enter Tryz.func263,Tryz.ntmps263
 by_cases h0:r=0
 ·have HNQ:Hid (n=q):=hid (by have:=HN.out.1;have:=HQ.out;omega)
  have hb0:((r:Int)==0)=true:=beq_iff_eq.2 (by omega)
  have H0:=hid h0
  clear h0
  go_upto_region 2 with (first|(at_builtin;go_must (refine zah elem_u8 rfl _ _ rfl (n:=n) (m:=1) (v:=.slice _ _ _) rfl rfl (HR.out.alloc _) (src_byte (x:=0) (heap_alloc_new _ _)) (by unfold maxLen;omega) (by omega) ?_;intro v' w4 happ);have HA:=hid happ;obtain ⟨a1,d1,rfl⟩:=happ.row.shape;have HC4:Hid (Chg (fun k=>k=b∨o=some k) w w4):=hid ((Chg.of_ext ((Ext.refl w).alloc _)).trans happ.chg (fun i _ e=>.inr (by rw [←HO.out.1];exact e)));have HB4:Hid (w4.heap[b]?=some (.cells #[putV b,.slice a n c,.int .i64 (k:Int)] 390 (0,0))):=hid ((happ.chg.block b (yan (zab HB.out) ((Ext.refl w).alloc _).size) (fun e=>HO.out.2 (by rw [←HO.out.1];exact e))).trans ((((Ext.refl w).alloc _).block (zab HB.out)).trans HB.out));clear happ)|(refine zap rfl _ _ _ rfl b 1 _ #[putV b,.slice a1 (n+1) d1,.int .i64 (k:Int)] _ _ rfl rfl rfl rfl HB4.out (by simp) rfl sl_info ?_;rintro X hbX hcX _he;have HBX:=hid hbX;have HCS:=hid hcX;clear hbX hcX _he))
  clear hb0
  obtain ⟨g,hg⟩:=row_some HA.out.row (by omega)
  subst hg
  obtain ⟨B0,hB0⟩:∃B0:List UInt8,B0=B++[0]:=⟨_,rfl⟩
  have HY:Hid (B0[q]?=some 0):=hid (by rw [hB0];rw [yaz (by have:=HN.out.2;have:=HNQ.out;omega),show q-B.length=0 by have:=HN.out.2;have:=HNQ.out;omega];rfl)
  obtain ⟨y,hy⟩:∃y:UInt8,y=0:=⟨_,rfl⟩
  rw [←hy] at HY
  have HBS:Hid (Bits (B0.set q (y ||| UInt8.ofNat (x.toNat*2 ^ s))) (L++[x])):=hid (by
   have h1:=HBI.out.new x (by rw [←HK.out];have:=HQ.out;have:=H0.out;omega)
   rw [HS.out,hy,hB0,H0.out]
   have e:(B++[0]).set q (0 ||| UInt8.ofNat (x.toNat*2 ^ (7-0)))=B++[UInt8.ofNat (x.toNat*2 ^ 7)]:=by
    rw [List.set_append_right _ _ (by have:=HN.out.2;have:=HNQ.out;omega),show q-B.length=0 by have:=HN.out.2;have:=HNQ.out;omega]
    simp
   rw [e]
   exact h1)
  have hgb:g≠b:=fun e=>by
   rcases HA.out.loc with h|h
   ·exact HO.out.2 (by rw [←HO.out.1,←h,e];rfl)
   ·have h2:=zab HB.out
    have h3:=((Ext.refl w).alloc (.cells #[.int .u8 0] 5 (0,0))).size
    have h4:g=_:=yaG h
    omega
  have HCX:Hid (Chg (fun k=>k=b∨o=some k) w X):=hid (HC4.out.trans HCS.out (fun i _ e=>.inl e))
  have HOX:Hid (some g=o∨∃k,some g=some k∧w.heap.size≤k):=hid (by
   rcases HA.out.loc with h|h
   ·exact .inl (by rw [←HO.out.1,←h];rfl)
   ·have h3:=((Ext.refl w).alloc (.cells #[.int .u8 0] 5 (0,0))).size
    have h4:g=_:=yaG h
    exact .inr ⟨g,rfl,by omega⟩)
  obtain ⟨m,hm⟩:∃m,m=n+1:=⟨_,rfl⟩
  obtain ⟨c',hc'⟩:∃c',c'=d1:=⟨_,rfl⟩
  have hqm:q<m:=by have:=HNQ.out;omega
  have HRX:Hid (Row X 5 1 (.slice (some ⟨g,0,none⟩) m c') m (u8s B0)):=hid (by
   have h1:=HA.out.row.chg HCS.out (fun i hi e=>hgb (by cases hi;exact e))
   rw [hm,hc',hB0,zbE]
   exact h1)
  rw [←hm,←hc'] at HBX
  clear hm hc' hy hB0 c1 c2
  (
    obtain ⟨Y,hY⟩:∃Y:UInt8,Y=y ||| UInt8.ofNat (x.toNat*2 ^ s):=⟨_,rfl⟩
    have HOY:Hid (bits .or .u8 (y.toNat:Int) (IntKind.u64.wrap ((x.toNat:Int)*2 ^ s)%256)=(Y.toNat:Int)):=hid (by rw [hY];exact HOR.out y)
    rw [←hY] at HBS
    clear hY
    (try dsimp only [Act.put])
    have x1:=zaf (T:=fun _=>false) (show X.cell? ⟨b,1,none⟩=some (.slice (some ⟨g,0,none⟩) m c') by have:=zaa HBX.out 1;simpa using this) rfl
    have x2:=zaf (T:=fun _=>false) (show X.cell? ⟨b,2,none⟩=some (.int .i64 (k:Int)) by have:=zaa HBX.out 2;simpa using this) rfl
    have y0:=zaf (T:=fun _=>false) (zdX HRX.out HY.out).1 rfl
    refine zao 22 (fun w'=>∃z:Turned,w'=turned X (fun _=>false) z.d z.f z.os) (.reads [0,1,2,3,4,5,6,7,8,9,10,11,12,13,14,15,16,17,18,19,20,21] (.one 22 .done)) (by kernel_rfl) (by kernel_rfl) (fun _ _ dd _ _ hh=>by cases dd<;>exact hh) ?_ ?_
    ·exact zad (Ext.drewN X 1)
    refine zak ?_
    simp only [zac,yab,yaa]
    repeat (go_big_quiet_step (fail))
    refine yaF ?_
    clear x1 x2 y0
    change zaA _ _ _ _ _ _ _ _ (X.drewN 1)
    rw [HOY.out]
    have HXd:Hid (Ext X (X.drewN 1)):=hid (Ext.drewN X 1)
    generalize X.drewN 1=Wd at HXd ⊢
    have HRW:=hid (HRX.out.ext HXd.out)
    have HBW:=hid ((HXd.out.block (zab HBX.out)).trans HBX.out)
    have y1:=(zdX HRW.out HY.out).1
    have y2:=(zdX HRW.out HY.out).2
    refine zae ?_
    simp only [zac,yab,yaa]
    go_wp2_with fail
    refine zau (zav ?_)
    have HRZ:=hid (HRW.out.setU8 q Y)
    have HCZ:Hid (Chg (fun k=>k=b∨some g=some k) X (Wd.setCell ⟨g,q,none⟩ (.int .u8 (Y.toNat:Int)))):=hid ((Chg.of_ext HXd.out).trans (zaj _ _ _ _) (fun i _ e=>.inr (by rw [e])))
    have HBZ:Hid ((Wd.setCell ⟨g,q,none⟩ (.int .u8 (Y.toNat:Int))).heap[b]?=some (.cells #[putV b,.slice (some ⟨g,0,none⟩) m c',.int .i64 (k:Int)] 390 (0,0))):=hid (((zaj Wd g q _).block b (zab HBW.out) (fun e=>hgb e.symm)).trans HBW.out)
    generalize Wd.setCell ⟨g,q,none⟩ (.int .u8 (Y.toNat:Int))=Z at HRZ HCZ HBZ ⊢
    have k2:Z.cell? ⟨b,2,none⟩=some (.int .i64 (k:Int)):=by have:=zaa HBZ.out 2;simpa using this
    clear y1 y2
    go_wp2_with (first|(refine zap rfl _ _ _ rfl b 2 _ #[putV b,.slice (some ⟨g,0,none⟩) m c',.int .i64 ((k:Int)+1)] _ _ rfl rfl rfl rfl HBZ.out (by simp) rfl int_info1 ?_;rintro V hbV hcV _he;have HBV:=hid hbV;have HCV:=hid hcV;clear hbV hcV _he))
    go_end0
    refine ⟨rfl,some g,⟨⟨some ⟨g,0,none⟩,m,c',_,by have h1:=HBV.out;rw [yae,←HK.out];simpa using h1,HRZ.out.chg HCV.out (fun i hi e=>hgb (by cases hi;exact e)),HBS.out,rfl⟩,by simpa using hgb⟩,HOX.out,?_⟩
    refine (HCX.out.trans ((HCZ.out).trans HCV.out (fun i _ e=>.inl e)) (fun i hi e=>?_))
    rcases e with e|e
    ·exact .inl e
    ·rcases HOX.out with h|⟨k',h,hk'⟩
     ·exact .inr (by rw [←h];exact e)
     ·exfalso;rw [h] at e;cases e;omega)
 ·have hm0:¬(r:Int)=0:=by omega
  obtain ⟨g,hg⟩:=row_some HR.out (by have:=HN.out.1;have:=HQ.out;omega)
  subst hg
  obtain ⟨y,hy⟩:∃y,B[q]?=some y:=⟨_,yac (by have:=HN.out;have:=HQ.out;omega)⟩
  have HY:=hid hy
  have HBS:Hid (Bits (B.set q (y ||| UInt8.ofNat (x.toNat*2 ^ s))) (L++[x])):=hid (by
   rw [HS.out]
   have h1:=HBI.out.set x (by rw [←HK.out];have:=HQ.out;omega)
   rw [←HK.out,←HQ.out.1,←HQ.out.2,yas,HY.out] at h1
   exact h1)
  go_upto_region 2 with fail
  obtain ⟨X,hX⟩:∃X,X=w:=⟨_,rfl⟩
  have HCX:Hid (Chg (fun k=>k=b∨o=some k) w X):=hid (by rw [hX];exact Chg.refl _ _)
  have HOX:Hid (some g=o∨∃k,some g=some k∧w.heap.size≤k):=hid (.inl HO.out.1)
  obtain ⟨m,hm⟩:∃m,m=n:=⟨_,rfl⟩
  obtain ⟨c',hc'⟩:∃c',c'=c:=⟨_,rfl⟩
  have hqm:q<m:=by have:=HN.out;have:=HQ.out;omega
  have HBX:=HB
  have HRX:=HR
  have hgb:g≠b:=fun e=>HO.out.2 (by rw [←HO.out.1,e];rfl)
  rw [←hX,←hm,←hc'] at HBX HRX
  rw [←hX]
  clear hX hm hc' c1 c2 hy
  (
    obtain ⟨Y,hY⟩:∃Y:UInt8,Y=y ||| UInt8.ofNat (x.toNat*2 ^ s):=⟨_,rfl⟩
    have HOY:Hid (bits .or .u8 (y.toNat:Int) (IntKind.u64.wrap ((x.toNat:Int)*2 ^ s)%256)=(Y.toNat:Int)):=hid (by rw [hY];exact HOR.out y)
    rw [←hY] at HBS
    clear hY
    (try dsimp only [Act.put])
    have x1:=zaf (T:=fun _=>false) (show X.cell? ⟨b,1,none⟩=some (.slice (some ⟨g,0,none⟩) m c') by have:=zaa HBX.out 1;simpa using this) rfl
    have x2:=zaf (T:=fun _=>false) (show X.cell? ⟨b,2,none⟩=some (.int .i64 (k:Int)) by have:=zaa HBX.out 2;simpa using this) rfl
    have y0:=zaf (T:=fun _=>false) (zdX HRX.out HY.out).1 rfl
    refine zao 22 (fun w'=>∃z:Turned,w'=turned X (fun _=>false) z.d z.f z.os) (.reads [0,1,2,3,4,5,6,7,8,9,10,11,12,13,14,15,16,17,18,19,20,21] (.one 22 .done)) (by kernel_rfl) (by kernel_rfl) (fun _ _ dd _ _ hh=>by cases dd<;>exact hh) ?_ ?_
    ·exact zad (Ext.drewN X 1)
    refine zak ?_
    simp only [zac,yab,yaa]
    repeat (go_big_quiet_step (fail))
    refine yaF ?_
    clear x1 x2 y0
    change zaA _ _ _ _ _ _ _ _ (X.drewN 1)
    rw [HOY.out]
    have HXd:Hid (Ext X (X.drewN 1)):=hid (Ext.drewN X 1)
    generalize X.drewN 1=Wd at HXd ⊢
    have HRW:=hid (HRX.out.ext HXd.out)
    have HBW:=hid ((HXd.out.block (zab HBX.out)).trans HBX.out)
    have y1:=(zdX HRW.out HY.out).1
    have y2:=(zdX HRW.out HY.out).2
    refine zae ?_
    simp only [zac,yab,yaa]
    go_wp2_with fail
    refine zau (zav ?_)
    have HRZ:=hid (HRW.out.setU8 q Y)
    have HCZ:Hid (Chg (fun k=>k=b∨some g=some k) X (Wd.setCell ⟨g,q,none⟩ (.int .u8 (Y.toNat:Int)))):=hid ((Chg.of_ext HXd.out).trans (zaj _ _ _ _) (fun i _ e=>.inr (by rw [e])))
    have HBZ:Hid ((Wd.setCell ⟨g,q,none⟩ (.int .u8 (Y.toNat:Int))).heap[b]?=some (.cells #[putV b,.slice (some ⟨g,0,none⟩) m c',.int .i64 (k:Int)] 390 (0,0))):=hid (((zaj Wd g q _).block b (zab HBW.out) (fun e=>hgb e.symm)).trans HBW.out)
    generalize Wd.setCell ⟨g,q,none⟩ (.int .u8 (Y.toNat:Int))=Z at HRZ HCZ HBZ ⊢
    have k2:Z.cell? ⟨b,2,none⟩=some (.int .i64 (k:Int)):=by have:=zaa HBZ.out 2;simpa using this
    clear y1 y2
    go_wp2_with (first|(refine zap rfl _ _ _ rfl b 2 _ #[putV b,.slice (some ⟨g,0,none⟩) m c',.int .i64 ((k:Int)+1)] _ _ rfl rfl rfl rfl HBZ.out (by simp) rfl int_info1 ?_;rintro V hbV hcV _he;have HBV:=hid hbV;have HCV:=hid hcV;clear hbV hcV _he))
    go_end0
    refine ⟨rfl,some g,⟨⟨some ⟨g,0,none⟩,m,c',_,by have h1:=HBV.out;rw [yae,←HK.out];simpa using h1,HRZ.out.chg HCV.out (fun i hi e=>hgb (by cases hi;exact e)),HBS.out,rfl⟩,by simpa using hgb⟩,HOX.out,?_⟩
    refine (HCX.out.trans ((HCZ.out).trans HCV.out (fun i _ e=>.inl e)) (fun i hi e=>?_))
    rcases e with e|e
    ·exact .inl e
    ·rcases HOX.out with h|⟨k',h,hk'⟩
     ·exact .inr (by rw [←h];exact e)
     ·exfalso;rw [h] at e;cases e;omega)
theorem WAt.ext {b:Nat}{o:Option Nat}{L:List Bool}{w w':World}(h:WAt b o L w) (hx:Ext w w'):WAt b o L w':=by
 obtain ⟨⟨a,n,c,B,hb,hr,hB,ho⟩,hne⟩:=h
 exact ⟨⟨a,n,c,B,(hx.block (zab hb)).trans hb,hr.ext hx,hB,ho⟩,hne⟩
theorem WAt.lt {b:Nat}{o:Option Nat}{L:List Bool}{w:World}(h:WAt b o L w):b<w.heap.size∧∀k,o=some k→k<w.heap.size:=by
 obtain ⟨⟨a,n,c,B,hb,hr,hB,ho⟩,hne⟩:=h
 exact ⟨zab hb,fun k hk=>hr.lt (ho.trans hk)⟩
theorem bit_at (v i:Nat) (hv:v<18446744073709551616):bits .and .u64 ((v:Int)/2 ^ i) 1=((v.testBit i).toNat:Int):=by
 rw [show (v:Int)/2 ^ i=((v/2 ^ i:Nat):Int) by push_cast;rfl]
 have h1:v/2 ^ i<18446744073709551616:=Nat.lt_of_le_of_lt (Nat.div_le_self _ _) hv
 have:=bits_and_u64_nat (v/2 ^ i) 1 h1 (by decide)
 rw [show ((1:Nat):Int)=1 from rfl] at this
 rw [this,Nat.and_one_is_mod,Nat.testBit_eq_decide_div_mod_eq]
 rcases (show v/2 ^ i%2=0∨v/2 ^ i%2=1 by omega) with h|h<;>simp [h]
theorem putBit_any (w:World) (x v i:Nat) (hx:w.cell? ⟨x,0,none⟩=some (.int .u64 (v:Int))) (hv:v<18446744073709551616) (hi:i<64) :
 Calls Tryz.prog 265 #[.int .i64 (i:Int),.pointer (some ⟨x,0,none⟩)] w fun e w'=>e=.returned (.int .u64 ((v.testBit i).toNat:Int))∧w=w':=by
 have HV:=hid (bit_at v i hv)
 go_enter Tryz.func265,Tryz.ntmps265
 go_wp2_with fail
 go_ret
 exact ⟨congrArg (fun z=>Ending.returned (.int .u64 z)) HV.out,rfl⟩
theorem eqNil_fn (b:Nat) (w:World):(binOp .eql 388 (putV b) .nilFunc).run Tryz.prog w=.ok (.bool false) w:=by kernel_rfl
theorem wnone_any (w:World) (b:Nat) (o:Option Nat) (L:List Bool) (h:WAt b o L w) :
 Calls Tryz.prog 264 #[.pointer (some ⟨b,0,none⟩)] w fun e w'=>e=.returned (.bool false)∧w=w':=by
 obtain ⟨a,n,c,B,hb,hr,hB,ho⟩:=h.blk
 have c0:=zaa hb 0
 simp at c0
 have hq:=eqNil_fn b w
 clear h hb hr hB ho
 go_enter Tryz.func264,Tryz.ntmps264
 go_wp2_with fail
 go_ret
 exact ⟨rfl,rfl⟩
theorem hi_parts {n v j:Nat}{K:List Bool}(h:hiL n v=K++hiL (j+1) v):hiL n v=(K++[v.testBit j])++hiL j v:=by
 rw [h];simp [hiL]
theorem zbZ (w:World) (b:Nat) (o:Option Nat) (L:List Bool) (v n:Nat) (h:WAt b o L w) (hv:v<18446744073709551616) (hn:n≤64) (hlen:L.length+n≤8388608) :
 Calls Tryz.prog 221 #[.pointer (some ⟨b,0,none⟩),.int .u64 (v:Int),.int .i64 (n:Int)] w fun e w'=>e=.returned (.int .i64 0)∧WTo b o (L++hiL n v) w w':=by
 have HL:=hid h.lt
 have HW:=hid h
 have HX0:=hid ((Ext.refl w).alloc (.cells #[.int .u64 (v:Int)] 186 (0,0)))
 have HW1:=hid (h.ext HX0.out)
 have HV:=hid hv
 have hlen':¬8388608-(L.length:Int)<(n:Int):=by omega
 obtain ⟨k,hk⟩:∃k,k=L.length:=⟨_,rfl⟩
 have HK:=hid hk
 have c2:(w.alloc (.cells #[.int .u64 (v:Int)] 186 (0,0))).cell? ⟨b,2,none⟩=some (.int .i64 (k:Int)):=by
  obtain ⟨a,n',c,B,hb,_⟩:=HW1.out.blk
  have:=zaa hb 2
  rw [hk];simpa using this
 rw [←hk] at hlen'
 have hk2:k≤8388608:=by omega
 have hn1:¬(n:Int)<0:=by omega
 have hn2:¬64<(n:Int):=by omega
 have HLEN:=hid hlen
 clear h hv hk hlen
 go_enter Tryz.func221,Tryz.ntmps221
 go_wp2_with fail
 refine (wnone_any _ b o L HW1.out).mono ?_
 rintro e w1 ⟨rfl,rfl⟩
 go_wp2_with fail
 generalize hX:w.alloc (.cells #[.int .u64 (v:Int)] 186 (0,0))=X at HX0 HW1 c2 ⊢
 have HBX:Hid (X.heap[w.heap.size]?=some (.cells #[.int .u64 (v:Int)] 186 (0,0))):=hid (by rw [←hX];exact heap_alloc_new w _)
 clear hX c2 hlen' hn1 hn2
 go_loopw [8] (fun s8 wr=>∃(j:Nat) (K:List Bool) (z:Int),s8=.int .i64 z∧Hid (z=(j:Int)-1)∧j≤n∧Hid (hiL n v=K++hiL j v∧WTo b o (L++K) X wr)) (fun t _=>(RowKit.intOf t+1).toNat)
 case atStart=>exact ⟨n,[],_,rfl,hid rfl,Nat.le_refl _,hid ⟨by simp,by simpa using WTo.refl HW1.out⟩⟩
 case round =>
  obtain ⟨j,K,z,rfl,HZ,hj,HI⟩:=hrel
  rcases Nat.eq_zero_or_pos j with h0|h0
  ·have hz:z<0:=by have:=HZ.out;omega
   have HE:Hid (hiL n v=K):=hid (by have:=HI.out.1;rw [h0] at this;simpa [hiL] using this)
   go_wp2_with fail
   go_ret
   refine ⟨rfl,WTo.next (.inl rfl) (Chg.of_ext HX0.out) ?_⟩
   rw [HE.out]
   exact HI.out.2
  ·obtain ⟨i,hi⟩:∃i,i=j-1:=⟨_,rfl⟩
   have hz:z=(i:Int):=by have:=HZ.out;omega
   subst hz
   have hi64:i<64:=by omega
   have hin:i≤n:=by omega
   have HJ:Hid (hiL n v=(K++[v.testBit i])++hiL i v):=hid (hi_parts (by have:=HI.out.1;rw [show j=i+1 by omega] at this;exact this))
   obtain ⟨o1,hw1,ho1,hc1⟩:=HI.out.2
   have HWR:=hid hw1
   have HO1:=hid ho1
   have HC1:=hid hc1
   obtain ⟨a',n',c',B',hb',_⟩:=hw1.blk
   have HXB:Hid (wr.heap[w.heap.size]?=some (.cells #[.int .u64 (v:Int)] 186 (0,0))):=hid ((hc1.block _ (zab HBX.out) (fun e=>by
    rcases e with e|e
    ·have:=HL.out.1;omega
    ·have:=HL.out.2 _ e;omega)).trans HBX.out)
   have f0:=zaf (T:=fun _=>false) (show wr.cell? ⟨b,0,none⟩=some (putV b) by have:=zaa hb' 0;simpa using this) rfl
   have HPB:=hid (fun W (hx:Ext wr W)=>putBit_any W w.heap.size v i (by have:=zaa ((hx.block (zab HXB.out)).trans HXB.out) 0;simpa using this) HV.out hi64)
   have HON:=hid (fun W (hx:Ext wr W)=>wone_any W b o1 (L++K) (v.testBit i) (HWR.out.ext hx) (by
    have h1:=HJ.out
    have h2:=congrArg List.length h1
    rw [zaG] at h2
    simp [zaG] at h2 ⊢
    have:=HLEN.out
    omega))
   clear hw1 ho1 hc1 hb' hi h0 HZ
   go_upto_region 11 with fail
   refine zao 7 (fun w'=>∃z:Turned,w'=turned wr (fun _=>false) z.d z.f z.os) (.reads [0,1,2,3,4,5] (.one 6 (.one 7 .done))) (by kernel_rfl) (by kernel_rfl) (fun _ _ dd _ _ hh=>by cases dd<;>exact hh) ?_ ?_
   ·exact zad (Ext.drewN wr 1)
   refine zak ?_
   simp only [zac,yab,yaa]
   repeat (go_big_quiet_step (fail))
   refine yaF ?_
   clear f0
   change zaA _ _ _ _ _ _ _ _ (wr.drewN 1)
   have HXd:Hid (Ext wr (wr.drewN 1)):=hid (Ext.drewN wr 1)
   generalize wr.drewN 1=Wd at HXd ⊢
   refine zae ?_
   simp only [zac,yab,yaa]
   go_wp2_with fail
   refine (HPB.out _ HXd.out).mono ?_
   rintro e w5 ⟨rfl,rfl⟩
   go_wp2_with fail
   refine zal (zad HXd.out) (zae ?_)
   simp only [zac,yab,yaa]
   go_wp2_with fail
   refine (HON.out _ HXd.out).mono ?_
   rintro e w6 ⟨rfl,hw6⟩
   have HW6:=hid (WTo.next HO1.out HC1.out (WTo.next (.inl rfl) (Chg.of_ext HXd.out) hw6))
   clear hw6
   go_wp2_with fail
   refine zau (zav ?_)
   go_wp2_with fail
   go_roundw
   case rel=>exact ⟨i,K++[v.testBit i],_,rfl,hid (by go_num),by omega,hid ⟨HJ.out,by rw [←yaj];exact HW6.out⟩⟩
   case measure=>simp [RowKit.intOf]
theorem u8_info1:(Tryz.prog.info? 5).map (·.size)=some 1:=by kernel_rfl
theorem wbytes_any (w:World) (b:Nat) (o:Option Nat) (L:List Bool) (h:WAt b o L w) (hlen:L.length≤8388608) :
 Calls Tryz.prog 224 #[.pointer (some ⟨b,0,none⟩)] w fun e w'=>∃(a:Option Addr) (n c:Nat) (B:List UInt8),e=.returned (.slice a n c)∧Bits B L∧B.length=n∧MadeTo w 5 1 (.slice a n c) n (u8s B) w':=by
 have HW:=hid h
 obtain ⟨a,n,c,B,hb,hr,hB,ho⟩:=h.blk
 have hBn:B.length=n:=by have:=hr.len;rw [zaI] at this;omega
 have hn:n≤1048576:=by have:=hB.len;omega
 have HB:=hid hb
 have HR:=hid hr
 have HBI:=hid (And.intro hB hBn)
 have c1:=zaa hb 1
 simp at c1
 obtain ⟨w2,hmk,hrow,hx2⟩:=make_bytes w n (by omega)
 have HM:=hid hrow
 have HX:=hid hx2
 have HC:=hid (copy_any (P:=Tryz.prog) (dT:=51) 3 Tryz.underlying51 u8_info1 hrow ((hr.ext hx2).src (zaH B)) (zaH B))
 have c2:=(hx2.cell (yaf _ _ c1)).trans c1
 clear h hb hr hB ho hBn hrow hx2
 go_enter Tryz.func224,Tryz.ntmps224
 go_wp2_with fail
 refine (wnone_any _ b o L HW.out).mono ?_
 rintro e w1 ⟨rfl,rfl⟩
 obtain ⟨w3,hcp,hr3,hc3⟩:=HC.out
 have HR3:=hid hr3
 have HX3:Hid (Ext w w3):=hid (((Chg.of_ext (S:=fun _=>False) HX.out).trans hc3 (fun i hi e=>by omega)).ext (fun _ _ e=>e))
 clear hr3 hc3
 go_wp2_with (at_make;refine zcg rfl _ _ _ rfl _ _ _ w2 rfl rfl hmk ?_;clear c1 hmk)
 go_ret
 exact ⟨_,_,_,B,rfl,HBI.out.1,HBI.out.2,HR3.out,fun g hg=>by cases hg;exact Nat.le_refl _,HX3.out⟩
structure RAt (b:Nat) (B:List UInt8) (i:Nat) (w:World):Prop where
 blk:∃(a:Option Addr) (n c:Nat),w.heap[b]?=some (.cells #[.bool true,.slice a n c,.int .i64 (i:Int),.int .i64 ((8*n:Nat):Int)] 394 (0,0))∧Row w 5 1 (.slice a n c) n (u8s B)∧(∀g,(Value.slice a n c).ownBlock=some g→g<b)∧B.length=n
theorem bits_and_u8_nat (a b:Nat) (ha:a<256) (hb:b<256):bits .and .u8 (a:Int) (b:Int)=((a &&& b:Nat):Int):=by
 have hx:a &&& b<2 ^ 8:=Nat.and_lt_two_pow _ (by omega)
 have h1:(BitVec.ofInt 8 (a:Int)).toNat=a:=by
  rw [BitVec.ofInt_natCast,BitVec.toNat_ofNat];exact Nat.mod_eq_of_lt (by omega)
 have h2:(BitVec.ofInt 8 (b:Int)).toNat=b:=by
  rw [BitVec.ofInt_natCast,BitVec.toNat_ofNat];exact Nat.mod_eq_of_lt (by omega)
 show IntKind.u8.wrap ((BitVec.ofInt 8 (a:Int) &&& BitVec.ofInt 8 (b:Int)).toNat:Int)=_
 rw [BitVec.toNat_and,h1,h2,IntKind.wrap_u8]
 omega
theorem get_bits (x s:Nat) (y:UInt8) (hx:x<9223372036854775808):bits .or .u64 ((x:Int)*2) (IntKind.u64.wrap (bits .and .u8 ((y.toNat:Int)/2 ^ s) 1))=((2*x+(y.toNat.testBit s).toNat:Nat):Int):=by
 have hy:=y.toNat_lt
 have h1:y.toNat/2 ^ s<256:=Nat.lt_of_le_of_lt (Nat.div_le_self _ _) (by omega)
 have e1:=bits_and_u8_nat (y.toNat/2 ^ s) 1 h1 (by decide)
 rw [show ((1:Nat):Int)=1 from rfl] at e1
 rw [show (y.toNat:Int)/2 ^ s=((y.toNat/2 ^ s:Nat):Int) by push_cast;rfl,e1,Nat.and_one_is_mod,Nat.testBit_eq_decide_div_mod_eq]
 have e2:∀d:Nat,d<2→bits .or .u64 ((x:Int)*2) (IntKind.u64.wrap (d:Int))=((2*x+d:Nat):Int):=fun d hd=>by
  rw [show IntKind.u64.wrap (d:Int)=(d:Int) by rw [IntKind.wrap_u64];omega,show (x:Int)*2=((2*x:Nat):Int) by omega,bits_or_u64_nat _ _ (by omega) (by omega)]
  congr 1
  rcases (show d=0∨d=1 by omega) with rfl|rfl
  ·simp
  ·have:=Nat.two_pow_add_eq_or_of_lt (i:=1) (b:=1) (by decide) x
   simpa using this.symm
 rcases (show y.toNat/2 ^ s%2=0∨y.toNat/2 ^ s%2=1 by omega) with h|h
 ·rw [h];simpa using e2 0 (by decide)
 ·rw [h];simpa using e2 1 (by decide)
theorem RAt.ext {b i:Nat}{B:List UInt8}{w w':World}(h:RAt b B i w) (hx:Ext w w'):RAt b B i w':=by
 obtain ⟨a,n,c,hb,hr,ho,hn⟩:=h.blk
 exact ⟨a,n,c,(hx.block (zab hb)).trans hb,hr.ext hx,ho,hn⟩
theorem RAt.above {b i:Nat}{B:List UInt8}{S:Nat→Prop}{w w':World}(h:RAt b B i w) (hc:Chg S w w') (hS:∀k,S k→b<k):RAt b B i w':=by
 obtain ⟨a,n,c,hb,hr,ho,hn⟩:=h.blk
 exact ⟨a,n,c,(hc.block b (zab hb) (fun e=>by have:=hS b e;omega)).trans hb,hr.chg hc (fun g hg e=>by have:=hS g e;have:=ho g hg;omega),ho,hn⟩
theorem RAt.lt {b i:Nat}{B:List UInt8}{w:World}(h:RAt b B i w):b<w.heap.size:=by
 obtain ⟨a,n,c,hb,_⟩:=h.blk
 exact zab hb
theorem get_any (w:World) (b:Nat) (B:List UInt8) (i m:Nat) (h:RAt b B i w) (hm:m≤64) (hi:i+m≤8*B.length) (hBl:B.length≤1048576) :
 Calls Tryz.prog 233 #[.pointer (some ⟨b,0,none⟩),.int .i64 (m:Int)] w fun e w'=>e=.returned (.tuple #[.int .u64 (numAt B i m:Int),.int .i64 0])∧RAt b B (i+m) w'∧Chg (·=b) w w':=by
 have HW:=hid h
 obtain ⟨a,n,c,hb,hr,ho,hn⟩:=h.blk
 have c0:=zaa hb 0
 have c2:=zaa hb 2
 have c3:=zaa hb 3
 simp at c0 c2 c3
 have hm1:¬(m:Int)<0:=by omega
 have hm2:¬64<(m:Int):=by omega
 have hlt:decide (8*(n:Int)-(i:Int)<(m:Int))=false:=by simp;omega
 have hw1:IntKind.i64.wrap (8*(n:Int)-(i:Int))=8*(n:Int)-(i:Int):=IntWalk.i64_in _ (by omega)
 have HI:=hid (And.intro hi hn)
 clear h hb hr ho
 go_enter Tryz.func233,Tryz.ntmps233
 go_upto_region 5 with fail
 go_big_quiet (fail)
 generalize hW1:w.drewN nq=W1
 have HX1:Hid (Ext w W1):=hid (by subst hW1;exact Ext.drewN _ _)
 have HW1:=hid (HW.out.ext HX1.out)
 clear hW1 nq c0 c2 c3 hm1 hm2 hlt hw1
 go_wp2_with fail
 go_loopw [6,37] (fun s6 s37 wr=>∃j x:Nat,s6=.int .u64 (x:Int)∧s37=.int .i64 (j:Int)∧j≤m∧Hid (x=numAt B i j∧RAt b B (i+j) wr∧Chg (·=b) w wr)) (fun _ t _=>m-(RowKit.intOf t).toNat)
 case atStart=>exact ⟨0,0,rfl,rfl,Nat.zero_le _,hid ⟨rfl,HW1.out,Chg.of_ext HX1.out⟩⟩
 case round =>
  obtain ⟨j,x,rfl,rfl,hj,HR⟩:=hrel
  by_cases hlt:j<m
  ·obtain ⟨a',n',c',hb,hr,ho,hn'⟩:=HR.out.2.1.blk
   obtain ⟨k,hk⟩:∃k,k=i+j:=⟨_,rfl⟩
   rw [←hk] at hb
   obtain ⟨q,hq⟩:∃q,q=k/8:=⟨_,rfl⟩
   obtain ⟨r,hr8⟩:∃r,r=k%8:=⟨_,rfl⟩
   obtain ⟨s,hs⟩:∃s,s=7-r:=⟨_,rfl⟩
   have hqn:q<n':=by have:=HI.out.1;omega
   obtain ⟨g,hg⟩:=row_some hr (by omega)
   subst hg
   obtain ⟨y,hy⟩:∃y,B[q]?=some y:=⟨_,yac (by omega)⟩
   have hx63:x<9223372036854775808:=by
    have h1:=numAt_lt B i j
    have h2:2 ^ j≤2 ^ 63:=yaQ (by omega) (by omega)
    have:=HR.out.1
    omega
   have htm:((k:Int).tmod 8)=(r:Int):=by rw [Int.tmod_eq_emod_of_nonneg (by omega)];omega
   have htd:((k:Int).tdiv 8)=(q:Int):=by rw [Int.tdiv_eq_ediv_of_nonneg (by omega)];omega
   have hk8:k≤8388608:=by have:=HI.out.1;omega
   have hwq:wrap64 (q:Int)=(q:Int):=by unfold wrap64;omega
   have hws:IntKind.i64.wrap (7-(r:Int))=(s:Int):=by rw [IntWalk.i64_in _ (by omega)];omega
   have hs7:s≤7:=by omega
   have HB:=hid hb
   have HRW:=hid hr
   have HOB:=hid ho
   have HN:=hid hn'
   have HQ:=hid (And.intro hk (And.intro hq (And.intro hr8 (And.intro hs hy))))
   have x1:wr.cell? ⟨b,1,none⟩=some (.slice (some ⟨g,0,none⟩) n' c'):=by have:=zaa hb 1;simpa using this
   have x2:wr.cell? ⟨b,2,none⟩=some (.int .i64 (k:Int)):=by have:=zaa hb 2;simpa using this
   have y0:=(zdX hr hy).1
   clear hb hr ho hn' hk hq hr8 hs hy
   go_upto_region 10 with fail
   go_big_quiet (fail)
   have HV:Hid (bits .or .u64 ((x:Int)*2) (IntKind.u64.wrap (bits .and .u8 ((y.toNat:Int)/2 ^ s) 1))=((numAt B i (j+1):Nat):Int)):=hid (by
    rw [get_bits x s y hx63,numAt_succ,←HR.out.1]
    congr 2
    unfold bitB
    rw [←HQ.out.1,←HQ.out.2.1,←HQ.out.2.2.1,←HQ.out.2.2.2.1,yas,HQ.out.2.2.2.2]
    rfl)
   rw [HV.out]
   generalize hWz:wr.drewN nq=Wd
   have HXd:Hid (Ext wr Wd):=hid (by subst hWz;exact Ext.drewN _ _)
   clear hWz nq x1 x2 y0 hwq hws htm htd
   have HBW:=hid ((HXd.out.block (zab HB.out)).trans HB.out)
   have k2:Wd.cell? ⟨b,2,none⟩=some (.int .i64 (k:Int)):=by have:=zaa HBW.out 2;simpa using this
   go_wp2_with (first|(refine zap rfl _ _ _ rfl b 2 _ #[.bool true,.slice (some ⟨g,0,none⟩) n' c',.int .i64 ((k:Int)+1),.int .i64 ((8*n':Nat):Int)] _ _ rfl rfl rfl rfl HBW.out (by simp) rfl int_info1 ?_;rintro V hbV hcV _he;have HBV:=hid hbV;have HCV:=hid hcV;clear hbV hcV _he))
   go_roundw
   case rel =>
    refine ⟨j+1,_,rfl,by go_num,by omega,hid ⟨rfl,⟨_,_,_,?_,(HRW.out.ext HXd.out).chg HCV.out (fun i hi e=>by have:=HOB.out i hi;omega),HOB.out,HN.out⟩,HR.out.2.2.trans ((Chg.of_ext HXd.out).trans HCV.out (fun _ _ e=>e)) (fun _ _ e=>e)⟩⟩
    have h1:=HBV.out
    rw [show ((i+(j+1):Nat):Int)=(k:Int)+1 by have:=HQ.out.1;omega]
    exact h1
   case measure=>simp [RowKit.intOf];omega
  ·have hjm:j=m:=by omega
   subst hjm
   have HE:=hid HR.out.1.symm
   go_wp2_with fail
   go_ret2
   rw [HE.out]
   exact ⟨rfl,HR.out.2.1,HR.out.2.2⟩
abbrev widthsV:Value:=.agg #[.int .i64 0,.int .i64 7,.int .i64 12,.int .i64 32,.int .i64 64]
theorem wid_info:(Tryz.prog.info? 391).map (·.size)=some 5:=by kernel_rfl
theorem zcx (w:World):Calls Tryz.prog 268 #[] w fun e w'=>e=.returned widthsV∧Ext w w':=by
 have HB:=hid (heap_alloc_new w (.cells #[.int .i64 0,.int .i64 0,.int .i64 0,.int .i64 0,.int .i64 0] 391 (0,0)))
 go_enter Tryz.func268,Tryz.ntmps268
 go_wp2_with (first|(refine zai rfl _ _ _ rfl _ _ #[.int .i64 0,.int .i64 7,.int .i64 12,.int .i64 32,.int .i64 64] _ rfl rfl HB.out rfl wid_info (by simp [Value.oneCell']) ?_;rintro w5 hb5 hc5;have HB5:=hid hb5;have HX5:Hid (Ext w w5):=hid (((Chg.of_ext (S:=fun _=>False) ((Ext.refl w).alloc _)).trans hc5 (fun i hi e=>by omega)).ext (fun _ _ e=>e));clear hb5 hc5))
 exact yaE (zaZ Tryz.results268 _ _ rfl HB5.out Tryz.underlying391 rfl wid_info) rfl ⟨rfl,HX5.out⟩
theorem wid_at0 (w:World):(Instr.index 391 widthsV (.int .i64 0)).run Tryz.prog w=.ok (.int .i64 0) w:=by kernel_rfl
theorem wid_at1 (w:World):(Instr.index 391 widthsV (.int .i64 1)).run Tryz.prog w=.ok (.int .i64 7) w:=by kernel_rfl
theorem wid_at2 (w:World):(Instr.index 391 widthsV (.int .i64 2)).run Tryz.prog w=.ok (.int .i64 12) w:=by kernel_rfl
theorem wid_at3 (w:World):(Instr.index 391 widthsV (.int .i64 3)).run Tryz.prog w=.ok (.int .i64 32) w:=by kernel_rfl
theorem wid_at4 (w:World):(Instr.index 391 widthsV (.int .i64 4)).run Tryz.prog w=.ok (.int .i64 64) w:=by kernel_rfl
theorem wid_at (k:Nat) (hk:k≤4) (w:World):(Instr.index 391 widthsV (.int .i64 (k:Int))).run Tryz.prog w=.ok (.int .i64 (clsW k:Int)) w:=by
 rcases (show k=0∨k=1∨k=2∨k=3∨k=4 by omega) with rfl|rfl|rfl|rfl|rfl
 ·exact wid_at0 w
 ·exact wid_at1 w
 ·exact wid_at2 w
 ·exact wid_at3 w
 ·exact wid_at4 w
theorem cls_lt (z j:Nat) (hj:j≤3):(z/2 ^ clsW j=0↔clsN z≤j)∧clsW j≠64∧clsW j≤32:=by
 rcases (show j=0∨j=1∨j=2∨j=3 by omega) with rfl|rfl|rfl|rfl
 all_goals
  refine ⟨?_,by decide,by decide⟩
  rw [Nat.div_eq_zero_iff]
  unfold clsN clsW
  simp
  repeat' split
  all_goals omega
theorem zcE (z:Nat) (w:World) (hz:z<18446744073709551616):Calls Tryz.prog 266 #[.int .u64 (z:Int)] w fun e w'=>e=.returned (.int .i64 (clsN z:Int))∧Ext w w':=by
 go_enter Tryz.func266,Tryz.ntmps266
 go_wp2_with fail
 refine (zcx w).mono ?_
 rintro e w1 ⟨rfl,hx1⟩
 have HX1:=hid hx1
 clear hx1
 go_wp2_with fail
 go_loopw [2,6] (fun s2 s6 wr=>∃j:Nat,s2=.int .i64 0∧s6=.int .i64 (j:Int)∧j≤clsN z∧wr=w1) (fun _ t _=>5-(RowKit.intOf t).toNat)
 case atStart=>exact ⟨0,rfl,rfl,Nat.zero_le _,rfl⟩
 case round =>
  obtain ⟨j,rfl,rfl,hj,rfl⟩:=hrel
  have hj4:j≤4:=Nat.le_trans hj (clsN_le z)
  have hI:=wid_at j hj4 wr
  obtain ⟨W,hW⟩:∃W,W=clsW j:=⟨_,rfl⟩
  rw [←hW] at hI
  have HJ:=hid hj
  clear hj
  by_cases h4:j=4
  ·have HE:Hid ((clsN z:Int)=(j:Int)):=hid (by have:=HJ.out;have:=clsN_le z;omega)
   have hb:((W:Int)==64)=true:=by rw [hW,h4];rfl
   have hj5:(j:Int)<5:=by omega
   clear h4 hW
   go_wp2_with fail
   go_ret
   rw [HE.out]
   exact ⟨rfl,HX1.out⟩
  ·obtain ⟨c1,c2,c3⟩:=cls_lt z j (by omega)
   have hb:((W:Int)==64)=false:=yam.2 (by omega)
   have hj5:(j:Int)<5:=by omega
   have hsh:(z:Int)/2 ^ W=((z/2 ^ W:Nat):Int):=by push_cast;rfl
   rw [←hW] at c1 c2 c3
   by_cases hq:z/2 ^ W=0
   ·have HE:Hid ((clsN z:Int)=(j:Int)):=hid (by have:=HJ.out;have:=c1.1 hq;omega)
    have hz0:((z:Int)/2 ^ W==0)=true:=by rw [hsh,hq];rfl
    clear h4 hW c1 c2 hsh hq
    go_wp2_with fail
    go_ret
    rw [HE.out]
    exact ⟨rfl,HX1.out⟩
   ·have HE:Hid (j+1≤clsN z):=hid (by
     rcases Nat.lt_or_ge j (clsN z) with h|h
     ·exact h
     ·exact absurd (c1.2 h) hq)
    have hz0:((z:Int)/2 ^ W==0)=false:=by rw [hsh];exact yam.2 (by omega)
    clear h4 hW c1 c2 hsh hq
    go_wp2_with fail
    go_roundw
    case rel=>exact ⟨j+1,rfl,by go_num,HE.out,trivial⟩
    case measure=>simp [RowKit.intOf];omega
theorem ahead_any (k:Nat) (w:World) (hk:k≤4):Calls Tryz.prog 267 #[.int .i64 (k:Int)] w fun e w'=>e=.returned (.int .i64 ((min (k+1) 4:Nat):Int))∧w=w':=by
 rcases (show k=0∨k=1∨k=2∨k=3∨k=4 by omega) with rfl|rfl|rfl|rfl|rfl
 all_goals
  go_enter Tryz.func267,Tryz.ntmps267
  go_wp2_with fail
  go_ret
  exact ⟨rfl,rfl⟩
theorem dput_0 (w:World) (b:Nat) (o:Option Nat) (L:List Bool) (z:Nat) (h:WAt b o L w) (hz:z<18446744073709551616) (hlen:L.length+68≤8388608) (hk:clsN z=0) :
 Calls Tryz.prog 223 #[.pointer (some ⟨b,0,none⟩),.int .u64 (z:Int)] w fun e w'=>e=.returned (.tuple #[])∧WTo b o (L++stepD z) w w':=by
 have HST:Hid (stepD z=zaJ 0++hiL 0 z):=hid (by unfold stepD;rw [hk];rfl)
 have HCL:Hid (∀W,Calls Tryz.prog 266 #[.int .u64 (z:Int)] W fun e w'=>e=.returned (.int .i64 0)∧Ext W w'):=hid (fun W=>by have:=zcE z W hz;rw [hk] at this;exact this)
 have HAH:Hid (∀W,Calls Tryz.prog 267 #[.int .i64 0] W fun e w'=>e=.returned (.int .i64 1)∧W=w'):=hid (fun W=>ahead_any 0 W (by decide))
 have HWD:=hid wid_at0
 have HP1:Hid (∀W,Ext w W→Calls Tryz.prog 221 #[.pointer (some ⟨b,0,none⟩),.int .u64 0,.int .i64 1] W fun e w'=>e=.returned (.int .i64 0)∧WTo b o (L++zaJ 0) W w'):=hid (fun W hx=>zbZ W b o L 0 1 (h.ext hx) (by decide) (by decide) (by omega))
 have HP2:Hid (∀W o',WAt b o' (L++zaJ 0) W→Calls Tryz.prog 221 #[.pointer (some ⟨b,0,none⟩),.int .u64 (z:Int),.int .i64 0] W fun e w'=>e=.returned (.int .i64 0)∧WTo b o' (L++zaJ 0++hiL 0 z) W w'):=hid (fun W o' h'=>zbZ W b o' (L++zaJ 0) z 0 h' hz (by decide) (by rw [yae,show (zaJ 0).length=1 from rfl];omega))
 clear h hz hk hlen
 (
   go_enter Tryz.func223,Tryz.ntmps223
   go_wp2_with fail
   refine (HCL.out w).mono ?_
   rintro e w1 ⟨rfl,hx1⟩
   have HX1:=hid hx1
   clear hx1
   go_wp2_with fail
   refine (HAH.out _).mono ?_
   rintro e w2 ⟨rfl,rfl⟩
   go_wp2_with fail
   refine (HAH.out _).mono ?_
   rintro e w2 ⟨rfl,rfl⟩
   go_wp2_with fail
   refine (HP1.out _ HX1.out).mono ?_
   rintro e w3 ⟨rfl,o3,hw3,ho3,hc3⟩
   have HW3:=hid hw3
   have HO3:=hid ho3
   have HC3:=hid hc3
   clear hw3 ho3 hc3
   go_wp2_with fail
   refine (zcx w3).mono ?_
   rintro e w4 ⟨rfl,hx4⟩
   have HX4:=hid hx4
   have hI:=HWD.out w4
   clear hx4
   go_wp2_with fail
   refine (HP2.out w4 o3 (HW3.out.ext HX4.out)).mono ?_
   rintro e w5 ⟨rfl,hw5⟩
   have HW5:=hid (WTo.next (.inl rfl) (Chg.of_ext HX1.out) (WTo.next HO3.out HC3.out (WTo.next (.inl rfl) (Chg.of_ext HX4.out) hw5)))
   clear hw5 hI
   go_wp2_with fail
   go_end0
   exact ⟨rfl,by rw [HST.out,←yaj];exact HW5.out⟩)
theorem dput_1 (w:World) (b:Nat) (o:Option Nat) (L:List Bool) (z:Nat) (h:WAt b o L w) (hz:z<18446744073709551616) (hlen:L.length+68≤8388608) (hk:clsN z=1) :
 Calls Tryz.prog 223 #[.pointer (some ⟨b,0,none⟩),.int .u64 (z:Int)] w fun e w'=>e=.returned (.tuple #[])∧WTo b o (L++stepD z) w w':=by
 have HST:Hid (stepD z=zaJ 1++hiL 7 z):=hid (by unfold stepD;rw [hk];rfl)
 have HCL:Hid (∀W,Calls Tryz.prog 266 #[.int .u64 (z:Int)] W fun e w'=>e=.returned (.int .i64 1)∧Ext W w'):=hid (fun W=>by have:=zcE z W hz;rw [hk] at this;exact this)
 have HAH:Hid (∀W,Calls Tryz.prog 267 #[.int .i64 1] W fun e w'=>e=.returned (.int .i64 2)∧W=w'):=hid (fun W=>ahead_any 1 W (by decide))
 have HWD:=hid wid_at1
 have HP1:Hid (∀W,Ext w W→Calls Tryz.prog 221 #[.pointer (some ⟨b,0,none⟩),.int .u64 2,.int .i64 2] W fun e w'=>e=.returned (.int .i64 0)∧WTo b o (L++zaJ 1) W w'):=hid (fun W hx=>zbZ W b o L 2 2 (h.ext hx) (by decide) (by decide) (by omega))
 have HP2:Hid (∀W o',WAt b o' (L++zaJ 1) W→Calls Tryz.prog 221 #[.pointer (some ⟨b,0,none⟩),.int .u64 (z:Int),.int .i64 7] W fun e w'=>e=.returned (.int .i64 0)∧WTo b o' (L++zaJ 1++hiL 7 z) W w'):=hid (fun W o' h'=>zbZ W b o' (L++zaJ 1) z 7 h' hz (by decide) (by rw [yae,show (zaJ 1).length=2 from rfl];omega))
 clear h hz hk hlen
 (
   go_enter Tryz.func223,Tryz.ntmps223
   go_wp2_with fail
   refine (HCL.out w).mono ?_
   rintro e w1 ⟨rfl,hx1⟩
   have HX1:=hid hx1
   clear hx1
   go_wp2_with fail
   refine (HAH.out _).mono ?_
   rintro e w2 ⟨rfl,rfl⟩
   go_wp2_with fail
   refine (HAH.out _).mono ?_
   rintro e w2 ⟨rfl,rfl⟩
   go_wp2_with fail
   refine (HP1.out _ HX1.out).mono ?_
   rintro e w3 ⟨rfl,o3,hw3,ho3,hc3⟩
   have HW3:=hid hw3
   have HO3:=hid ho3
   have HC3:=hid hc3
   clear hw3 ho3 hc3
   go_wp2_with fail
   refine (zcx w3).mono ?_
   rintro e w4 ⟨rfl,hx4⟩
   have HX4:=hid hx4
   have hI:=HWD.out w4
   clear hx4
   go_wp2_with fail
   refine (HP2.out w4 o3 (HW3.out.ext HX4.out)).mono ?_
   rintro e w5 ⟨rfl,hw5⟩
   have HW5:=hid (WTo.next (.inl rfl) (Chg.of_ext HX1.out) (WTo.next HO3.out HC3.out (WTo.next (.inl rfl) (Chg.of_ext HX4.out) hw5)))
   clear hw5 hI
   go_wp2_with fail
   go_end0
   exact ⟨rfl,by rw [HST.out,←yaj];exact HW5.out⟩)
theorem dput_2 (w:World) (b:Nat) (o:Option Nat) (L:List Bool) (z:Nat) (h:WAt b o L w) (hz:z<18446744073709551616) (hlen:L.length+68≤8388608) (hk:clsN z=2) :
 Calls Tryz.prog 223 #[.pointer (some ⟨b,0,none⟩),.int .u64 (z:Int)] w fun e w'=>e=.returned (.tuple #[])∧WTo b o (L++stepD z) w w':=by
 have HST:Hid (stepD z=zaJ 2++hiL 12 z):=hid (by unfold stepD;rw [hk];rfl)
 have HCL:Hid (∀W,Calls Tryz.prog 266 #[.int .u64 (z:Int)] W fun e w'=>e=.returned (.int .i64 2)∧Ext W w'):=hid (fun W=>by have:=zcE z W hz;rw [hk] at this;exact this)
 have HAH:Hid (∀W,Calls Tryz.prog 267 #[.int .i64 2] W fun e w'=>e=.returned (.int .i64 3)∧W=w'):=hid (fun W=>ahead_any 2 W (by decide))
 have HWD:=hid wid_at2
 have HP1:Hid (∀W,Ext w W→Calls Tryz.prog 221 #[.pointer (some ⟨b,0,none⟩),.int .u64 6,.int .i64 3] W fun e w'=>e=.returned (.int .i64 0)∧WTo b o (L++zaJ 2) W w'):=hid (fun W hx=>zbZ W b o L 6 3 (h.ext hx) (by decide) (by decide) (by omega))
 have HP2:Hid (∀W o',WAt b o' (L++zaJ 2) W→Calls Tryz.prog 221 #[.pointer (some ⟨b,0,none⟩),.int .u64 (z:Int),.int .i64 12] W fun e w'=>e=.returned (.int .i64 0)∧WTo b o' (L++zaJ 2++hiL 12 z) W w'):=hid (fun W o' h'=>zbZ W b o' (L++zaJ 2) z 12 h' hz (by decide) (by rw [yae,show (zaJ 2).length=3 from rfl];omega))
 clear h hz hk hlen
 (
   go_enter Tryz.func223,Tryz.ntmps223
   go_wp2_with fail
   refine (HCL.out w).mono ?_
   rintro e w1 ⟨rfl,hx1⟩
   have HX1:=hid hx1
   clear hx1
   go_wp2_with fail
   refine (HAH.out _).mono ?_
   rintro e w2 ⟨rfl,rfl⟩
   go_wp2_with fail
   refine (HAH.out _).mono ?_
   rintro e w2 ⟨rfl,rfl⟩
   go_wp2_with fail
   refine (HP1.out _ HX1.out).mono ?_
   rintro e w3 ⟨rfl,o3,hw3,ho3,hc3⟩
   have HW3:=hid hw3
   have HO3:=hid ho3
   have HC3:=hid hc3
   clear hw3 ho3 hc3
   go_wp2_with fail
   refine (zcx w3).mono ?_
   rintro e w4 ⟨rfl,hx4⟩
   have HX4:=hid hx4
   have hI:=HWD.out w4
   clear hx4
   go_wp2_with fail
   refine (HP2.out w4 o3 (HW3.out.ext HX4.out)).mono ?_
   rintro e w5 ⟨rfl,hw5⟩
   have HW5:=hid (WTo.next (.inl rfl) (Chg.of_ext HX1.out) (WTo.next HO3.out HC3.out (WTo.next (.inl rfl) (Chg.of_ext HX4.out) hw5)))
   clear hw5 hI
   go_wp2_with fail
   go_end0
   exact ⟨rfl,by rw [HST.out,←yaj];exact HW5.out⟩)
theorem dput_3 (w:World) (b:Nat) (o:Option Nat) (L:List Bool) (z:Nat) (h:WAt b o L w) (hz:z<18446744073709551616) (hlen:L.length+68≤8388608) (hk:clsN z=3) :
 Calls Tryz.prog 223 #[.pointer (some ⟨b,0,none⟩),.int .u64 (z:Int)] w fun e w'=>e=.returned (.tuple #[])∧WTo b o (L++stepD z) w w':=by
 have HST:Hid (stepD z=zaJ 3++hiL 32 z):=hid (by unfold stepD;rw [hk];rfl)
 have HCL:Hid (∀W,Calls Tryz.prog 266 #[.int .u64 (z:Int)] W fun e w'=>e=.returned (.int .i64 3)∧Ext W w'):=hid (fun W=>by have:=zcE z W hz;rw [hk] at this;exact this)
 have HAH:Hid (∀W,Calls Tryz.prog 267 #[.int .i64 3] W fun e w'=>e=.returned (.int .i64 4)∧W=w'):=hid (fun W=>ahead_any 3 W (by decide))
 have HWD:=hid wid_at3
 have HP1:Hid (∀W,Ext w W→Calls Tryz.prog 221 #[.pointer (some ⟨b,0,none⟩),.int .u64 14,.int .i64 4] W fun e w'=>e=.returned (.int .i64 0)∧WTo b o (L++zaJ 3) W w'):=hid (fun W hx=>zbZ W b o L 14 4 (h.ext hx) (by decide) (by decide) (by omega))
 have HP2:Hid (∀W o',WAt b o' (L++zaJ 3) W→Calls Tryz.prog 221 #[.pointer (some ⟨b,0,none⟩),.int .u64 (z:Int),.int .i64 32] W fun e w'=>e=.returned (.int .i64 0)∧WTo b o' (L++zaJ 3++hiL 32 z) W w'):=hid (fun W o' h'=>zbZ W b o' (L++zaJ 3) z 32 h' hz (by decide) (by rw [yae,show (zaJ 3).length=4 from rfl];omega))
 clear h hz hk hlen
 (
   go_enter Tryz.func223,Tryz.ntmps223
   go_wp2_with fail
   refine (HCL.out w).mono ?_
   rintro e w1 ⟨rfl,hx1⟩
   have HX1:=hid hx1
   clear hx1
   go_wp2_with fail
   refine (HAH.out _).mono ?_
   rintro e w2 ⟨rfl,rfl⟩
   go_wp2_with fail
   refine (HAH.out _).mono ?_
   rintro e w2 ⟨rfl,rfl⟩
   go_wp2_with fail
   refine (HP1.out _ HX1.out).mono ?_
   rintro e w3 ⟨rfl,o3,hw3,ho3,hc3⟩
   have HW3:=hid hw3
   have HO3:=hid ho3
   have HC3:=hid hc3
   clear hw3 ho3 hc3
   go_wp2_with fail
   refine (zcx w3).mono ?_
   rintro e w4 ⟨rfl,hx4⟩
   have HX4:=hid hx4
   have hI:=HWD.out w4
   clear hx4
   go_wp2_with fail
   refine (HP2.out w4 o3 (HW3.out.ext HX4.out)).mono ?_
   rintro e w5 ⟨rfl,hw5⟩
   have HW5:=hid (WTo.next (.inl rfl) (Chg.of_ext HX1.out) (WTo.next HO3.out HC3.out (WTo.next (.inl rfl) (Chg.of_ext HX4.out) hw5)))
   clear hw5 hI
   go_wp2_with fail
   go_end0
   exact ⟨rfl,by rw [HST.out,←yaj];exact HW5.out⟩)
theorem dput_4 (w:World) (b:Nat) (o:Option Nat) (L:List Bool) (z:Nat) (h:WAt b o L w) (hz:z<18446744073709551616) (hlen:L.length+68≤8388608) (hk:clsN z=4) :
 Calls Tryz.prog 223 #[.pointer (some ⟨b,0,none⟩),.int .u64 (z:Int)] w fun e w'=>e=.returned (.tuple #[])∧WTo b o (L++stepD z) w w':=by
 have HST:Hid (stepD z=zaJ 4++hiL 64 z):=hid (by unfold stepD;rw [hk];rfl)
 have HCL:Hid (∀W,Calls Tryz.prog 266 #[.int .u64 (z:Int)] W fun e w'=>e=.returned (.int .i64 4)∧Ext W w'):=hid (fun W=>by have:=zcE z W hz;rw [hk] at this;exact this)
 have HAH:Hid (∀W,Calls Tryz.prog 267 #[.int .i64 4] W fun e w'=>e=.returned (.int .i64 4)∧W=w'):=hid (fun W=>ahead_any 4 W (by decide))
 have HWD:=hid wid_at4
 have HP1:Hid (∀W,Ext w W→Calls Tryz.prog 221 #[.pointer (some ⟨b,0,none⟩),.int .u64 15,.int .i64 4] W fun e w'=>e=.returned (.int .i64 0)∧WTo b o (L++zaJ 4) W w'):=hid (fun W hx=>zbZ W b o L 15 4 (h.ext hx) (by decide) (by decide) (by omega))
 have HP2:Hid (∀W o',WAt b o' (L++zaJ 4) W→Calls Tryz.prog 221 #[.pointer (some ⟨b,0,none⟩),.int .u64 (z:Int),.int .i64 64] W fun e w'=>e=.returned (.int .i64 0)∧WTo b o' (L++zaJ 4++hiL 64 z) W w'):=hid (fun W o' h'=>zbZ W b o' (L++zaJ 4) z 64 h' hz (by decide) (by rw [yae,show (zaJ 4).length=4 from rfl];omega))
 clear h hz hk hlen
 (
   go_enter Tryz.func223,Tryz.ntmps223
   go_wp2_with fail
   refine (HCL.out w).mono ?_
   rintro e w1 ⟨rfl,hx1⟩
   have HX1:=hid hx1
   clear hx1
   go_wp2_with fail
   refine (HAH.out _).mono ?_
   rintro e w2 ⟨rfl,rfl⟩
   go_wp2_with fail
   refine (HAH.out _).mono ?_
   rintro e w2 ⟨rfl,rfl⟩
   go_wp2_with fail
   refine (HP1.out _ HX1.out).mono ?_
   rintro e w3 ⟨rfl,o3,hw3,ho3,hc3⟩
   have HW3:=hid hw3
   have HO3:=hid ho3
   have HC3:=hid hc3
   clear hw3 ho3 hc3
   go_wp2_with fail
   refine (zcx w3).mono ?_
   rintro e w4 ⟨rfl,hx4⟩
   have HX4:=hid hx4
   have hI:=HWD.out w4
   clear hx4
   go_wp2_with fail
   refine (HP2.out w4 o3 (HW3.out.ext HX4.out)).mono ?_
   rintro e w5 ⟨rfl,hw5⟩
   have HW5:=hid (WTo.next (.inl rfl) (Chg.of_ext HX1.out) (WTo.next HO3.out HC3.out (WTo.next (.inl rfl) (Chg.of_ext HX4.out) hw5)))
   clear hw5 hI
   go_wp2_with fail
   go_end0
   exact ⟨rfl,by rw [HST.out,←yaj];exact HW5.out⟩)
theorem dput_any (w:World) (b:Nat) (o:Option Nat) (L:List Bool) (z:Nat) (h:WAt b o L w) (hz:z<18446744073709551616) (hlen:L.length+68≤8388608) :
 Calls Tryz.prog 223 #[.pointer (some ⟨b,0,none⟩),.int .u64 (z:Int)] w fun e w'=>e=.returned (.tuple #[])∧WTo b o (L++stepD z) w w':=by
 have hk4:=clsN_le z
 rcases (show clsN z=0∨clsN z=1∨clsN z=2∨clsN z=3∨clsN z=4 by omega) with hk|hk|hk|hk|hk
 ·exact dput_0 w b o L z h hz hlen hk
 ·exact dput_1 w b o L z h hz hlen hk
 ·exact dput_2 w b o L z h hz hlen hk
 ·exact dput_3 w b o L z h hz hlen hk
 ·exact dput_4 w b o L z h hz hlen hk
theorem wordSub_any (x y:Int) (w:World):Calls Tryz.prog 222 #[.int .i64 x,.int .i64 y] w fun e w'=>e=.returned (.int .i64 (IntKind.i64.wrap (x-y)))∧w=w':=by
 go_enter Tryz.func222,Tryz.ntmps222
 go_wp2_with fail
 go_ret
 exact ⟨congrArg (fun z=>Ending.returned (.int .i64 z)) (show wrap64 (IntKind.u64.wrap (IntKind.u64.wrap x-IntKind.u64.wrap y))=_ by unfold wrap64;simp only [IntKind.wrap_u64,IntKind.wrap_i64];omega),rfl⟩
theorem wordAdd_any (x y:Int) (w:World):Calls Tryz.prog 235 #[.int .i64 x,.int .i64 y] w fun e w'=>e=.returned (.int .i64 (IntKind.i64.wrap (x+y)))∧w=w':=by
 go_enter Tryz.func235,Tryz.ntmps235
 go_wp2_with fail
 go_ret
 exact ⟨congrArg (fun z=>Ending.returned (.int .i64 z)) (show wrap64 (IntKind.u64.wrap (IntKind.u64.wrap x+IntKind.u64.wrap y))=_ by unfold wrap64;simp only [IntKind.wrap_u64,IntKind.wrap_i64];omega),rfl⟩
theorem i64_wrap_in (z:Int):-9223372036854775808≤IntKind.i64.wrap z∧IntKind.i64.wrap z≤9223372036854775807:=by
 rw [IntKind.wrap_i64];omega
theorem tm_at_len (l:List Int) (i:Nat):(tmS (l.take i)).bits.length≤68*i:=by
 have h:=tm_len (l.take i) ⟨[],0,none⟩
 have h2:=List.length_take_le i l
 simp at h
 unfold tmS
 have:68*(min i l.length)≤68*i:=Nat.mul_le_mul_left _ (by omega)
 omega
theorem WTo.ext_new {b:Nat}{L:List Bool}{w w1 w2:World}(hx:Ext w w1) (hb:w.heap.size≤b) (h:WTo b none L w1 w2):Ext w w2:=by
 obtain ⟨o,h1,h2,h3⟩:=h
 exact ((Chg.of_ext (S:=fun k=>k=b∨none=some k) hx).trans h3 (fun _ _ e=>e)).ext (fun i hi e=>by rcases e with e|e;omega;cases e)
theorem dencode_any (w:World) (a:Option Addr) (n c:Nat) (l:List Int) (hl:Src w 1 (.slice a n c) n (zints l)) (hn:n≤4096) :
 Calls Tryz.prog 183 #[.slice a n c] w fun e w'=>∃(a':Option Addr) (m c':Nat) (B:List UInt8),e=.returned (.tuple #[.slice a' m c',.int .i64 0])∧Bits B (zcv l)∧B.length=m∧MadeTo w 5 1 (.slice a' m c') m (u8s B) w':=by
 have HL:=hid hl
 have LN:=hid (zdJ hl)
 have hn':¬4096<(n:Int):=by omega
 clear hl
 go_enter Tryz.func183,Tryz.ntmps183
 go_wp2_with fail
 refine (newWriter_any w).mono ?_
 rintro e w1 ⟨rfl,hw1,hx1⟩
 have HW1:=hid hw1
 have HX1:=hid hx1
 obtain ⟨b,hb⟩:∃b,b=w.heap.size:=⟨_,rfl⟩
 rw [←hb] at HW1 ⊢
 have HB:Hid (w.heap.size≤b):=hid (by omega)
 clear hw1 hx1 hn' hb
 go_wp2_with fail
 go_loopw [5,15] (fun s5 s15 wr=>∃(i:Nat) (p:Int),s5=.int .i64 p∧s15=.int .i64 (i:Int)∧i≤n∧Hid (p=(tmS (l.take i)).step∧WTo b none (tmS (l.take i)).bits w1 wr)) (fun _ t _=>n-(RowKit.intOf t).toNat)
 case atStart=>exact ⟨0,0,rfl,rfl,Nat.zero_le _,hid ⟨by simp [tmS],by simpa [tmS] using WTo.refl HW1.out⟩⟩
 case round =>
  obtain ⟨i,p,rfl,rfl,hi,HI⟩:=hrel
  by_cases hlt:i<n
  ·obtain ⟨tb,tof,t,rfl,ht,t0⟩:=zcZ (HL.out.ext (WTo.ext_new HX1.out HB.out HI.out.2)) hlt
   have HT:=hid ht
   have HBL:=hid (tm_at_len l i)
   have HLA:=hid (tmS_last (l:=l) (i:=i) (by have:=LN.out;omega))
   have HNX:=hid (tmS_next ht)
   obtain ⟨o1,hwa,ho1,hc1⟩:=HI.out.2
   have HWA:=hid hwa
   have HOC:=hid (And.intro ho1 hc1)
   clear ht hwa ho1 hc1
   by_cases h0:i=0
   ·have hb0:((i:Int)==0)=true:=beq_iff_eq.2 (by omega)
    have HPT:Hid (zch (tmS (l.take i)) t=hiL 64 (u64N t)):=hid (by unfold zch;rw [HLA.out,if_pos h0])
    have HSP:Hid ((zcK (tmS (l.take i)) t).step=p):=hid (by unfold zcK;simp only;rw [HLA.out,if_pos h0,HI.out.1,h0];rfl)
    clear h0
    go_wp2_with fail
    rw [u64N_u64]
    refine (zbZ wr b o1 _ (u64N t) 64 HWA.out (u64N_lt t) (by decide) (by have:=HBL.out;omega)).mono ?_
    rintro e w3 ⟨rfl,hw3⟩
    have HW3:=hid (WTo.next HOC.out.1 HOC.out.2 hw3)
    clear hw3
    go_wp2_with fail
    go_roundw
    case rel=>exact ⟨i+1,p,rfl,by go_num,by omega,hid ⟨by rw [HNX.out,HSP.out],by rw [HNX.out];show WTo b none (_++zch _ t) _ _;rw [HPT.out];exact HW3.out⟩⟩
    case measure=>simp [RowKit.intOf];omega
   ·obtain ⟨j,hj⟩:∃j,j=i-1:=⟨_,rfl⟩
    obtain ⟨pb,pof,q,hpa,hq,q0⟩:=zcZ (HL.out.ext (WTo.ext_new HX1.out HB.out HI.out.2)) (show j<n by omega)
    simp only [Option.some.injEq,Addr.mk.injEq,and_true] at hpa
    obtain ⟨rfl,rfl⟩:=hpa
    have hij:(i:Int)-1=(j:Int):=by omega
    have hjn:j<n:=by omega
    have hb0:((i:Int)==0)=false:=yam.2 (by omega)
    obtain ⟨x,hx⟩:∃x,x=IntKind.i64.wrap (t-q):=⟨_,rfl⟩
    have HXX:=hid hx
    obtain ⟨d,hd⟩:∃d,d=IntKind.i64.wrap (x-p):=⟨_,rfl⟩
    have HDD:=hid hd
    have HPT:Hid (zch (tmS (l.take i)) t=stepD (zig d)):=hid (by unfold zch;rw [HLA.out,if_neg h0,←hj,hq,hd,HI.out.1,hx])
    have HSP:Hid ((zcK (tmS (l.take i)) t).step=x):=hid (by unfold zcK;simp only;rw [HLA.out,if_neg h0,←hj,hq,hx])
    have hdr:=i64_wrap_in (x-p)
    rw [←hd] at hdr
    have HZI:=hid (fun W=>zig_any d W hdr.1 hdr.2)
    have HZL:=hid (zig_lt hdr.1 hdr.2)
    clear hq hj hx hd h0 hdr
    go_wp2_with fail
    refine (wordSub_any t q _).mono ?_
    rintro e w3 ⟨rfl,rfl⟩
    rw [←HXX.out]
    go_wp2_with fail
    refine (wordSub_any x p _).mono ?_
    rintro e w3 ⟨rfl,rfl⟩
    rw [←HDD.out]
    go_wp2_with fail
    refine (HZI.out _).mono ?_
    rintro e w3 ⟨rfl,rfl⟩
    go_wp2_with fail
    refine (dput_any wr b o1 _ (zig d) HWA.out HZL.out (by have:=HBL.out;omega)).mono ?_
    rintro e w3 ⟨rfl,hw3⟩
    have HW3:=hid (WTo.next HOC.out.1 HOC.out.2 hw3)
    clear hw3 hij
    go_wp2_with fail
    go_roundw
    case rel=>exact ⟨i+1,x,rfl,by go_num,by omega,hid ⟨by rw [HNX.out,HSP.out],by rw [HNX.out];show WTo b none (_++zch _ t) _ _;rw [HPT.out];exact HW3.out⟩⟩
    case measure=>simp [RowKit.intOf];omega
  ·have HE:Hid ((tmS (l.take i)).bits=zcv l):=hid (by rw [yai (by have:=LN.out;omega)];rfl)
   have HX2:=hid (WTo.ext_new HX1.out HB.out HI.out.2)
   obtain ⟨o1,hwa,_,_⟩:=HI.out.2
   rw [HE.out] at hwa
   have HWA:=hid hwa
   clear hwa
   go_wp2_with fail
   refine (wbytes_any wr b o1 (zcv l) HWA.out (by have:=zcX l;have:=LN.out;omega)).mono ?_
   rintro e w4 ⟨a4,m4,c4,B,rfl,hB,hBl,hm⟩
   have HBB:=hid (And.intro hB hBl)
   have HM:=hid (MadeTo.mk (w0:=w) hm.row (fun g hg=>Nat.le_trans HX2.out.size (hm.own g hg)) (HX2.out.trans hm.ext))
   clear hB hBl hm
   go_wp2_with fail
   go_ret2
   exact ⟨_,_,_,B,rfl,HBB.out.1,HBB.out.2,HM.out⟩
theorem newReader_any (w:World) (a:Option Addr) (n c:Nat) (B:List UInt8) (hs:Src w 1 (.slice a n c) n (u8s B)) (hn:n≤1048576) :
 Calls Tryz.prog 231 #[.slice a n c,.int .i64 (8*(n:Int))] w fun e w'=>∃b,e=.returned (.tuple #[.pointer (some ⟨b,0,none⟩),.int .i64 0])∧w.heap.size≤b∧RAt b B 0 w'∧Ext w w':=by
 have HS:=hid hs
 have LN:=hid (zax hs)
 have h1:¬8*(n:Int)<0:=by omega
 have hw:IntKind.i64.wrap (8*(n:Int))=8*(n:Int):=IntWalk.i64_in _ (by omega)
 clear hs
 go_enter Tryz.func231,Tryz.ntmps231
 go_wp2_with (at_builtin;go_must (refine zah elem_u8 rfl _ _ rfl (n:=0) (m:=n) (v:=.slice _ _ _) rfl rfl (row_empty (heap_alloc_new _ _)) (HS.out.ext ((Ext.refl w).alloc _)) (by unfold maxLen;omega) (by omega) ?_;intro v' w4 happ);have HM:=hid (MadeTo.app (w0:=w) (fun g hg=>by simp [Value.ownBlock] at hg;omega) ((Ext.refl w).alloc _) happ);obtain ⟨va,vc,rfl⟩:=happ.row.shape;clear happ)
 go_ret2
 rw [Nat.zero_add] at HM
 refine ⟨w4.heap.size,rfl,HM.out.ext.size,⟨va,n,vc,?_,HM.out.row.ext ((Ext.refl _).alloc _),fun g hg=>HM.out.row.lt hg,LN.out⟩,HM.out.ext.alloc _⟩
 ·have:=heap_alloc_new w4 (.cells #[.bool true,.slice va n vc,.int .i64 0,.int .i64 (8*(n:Int))] 394 (0,0))
  simpa using this
theorem left_any (w:World) (b:Nat) (B:List UInt8) (i:Nat) (h:RAt b B i w) (hi:i≤8*B.length) (hBl:B.length≤1048576) :
 Calls Tryz.prog 239 #[.pointer (some ⟨b,0,none⟩)] w fun e w'=>e=.returned (.int .i64 ((8*B.length-i:Nat):Int))∧Ext w w':=by
 obtain ⟨a,n,c,hb,hr,ho,hn⟩:=h.blk
 have c0:=zaa hb 0
 have c2:=zaa hb 2
 have c3:=zaa hb 3
 simp at c0 c2 c3
 have hw1:IntKind.i64.wrap (8*(n:Int)-(i:Int))=8*(n:Int)-(i:Int):=IntWalk.i64_in _ (by omega)
 have HE:Hid (((8*B.length-i:Nat):Int)=8*(n:Int)-(i:Int)):=hid (by omega)
 rw [HE.out]
 clear h hb hr ho hn
 go_enter Tryz.func239,Tryz.ntmps239
 go_upto_region 3 with fail
 go_big_quiet (fail)
 go_wp2_with fail
 go_ret
 exact ⟨rfl,Ext.drewN _ _⟩
theorem mark_drop {L R:List Bool}{i k:Nat}(hk:k≤4) (h:L.drop i=zaJ k++R):∀j,j<k→∃R',L.drop (i+j)=true::R':=by
 intro j hj
 unfold zaJ at h
 have e:L.drop (i+j)=List.replicate (k-j) true++((if k<4 then [false] else [])++R):=by
  rw [←List.drop_drop,h,yaj,List.drop_append_of_le_length (by simp;omega),List.drop_replicate]
 rw [e,show k-j=(k-j-1)+1 by omega,List.replicate_succ,yaO]
 exact ⟨_,rfl⟩
theorem mark_end {L R:List Bool}{i k:Nat}(hk:k<4) (h:L.drop i=zaJ k++R):∃R',L.drop (i+k)=false::R':=by
 unfold zaJ at h
 rw [if_pos hk] at h
 refine ⟨R,?_⟩
 rw [←List.drop_drop,h,yaj,List.drop_left' (by simp)]
 rfl
theorem num_one {B:List UInt8}{L R:List Bool}{i:Nat}{x:Bool}(h:Bits B L) (hd:L.drop i=x::R):numAt B i 1=x.toNat:=by
 have:=h.num (K:=[x]) hd
 simpa [bnumL] using this
theorem zby {B:List UInt8}{L K R:List Bool}{i:Nat}(h:Bits B L) (hd:L.drop i=K++R) (hK:K≠[]):i+K.length≤8*B.length:=by
 have h1:=congrArg List.length hd
 rw [yaC,yae] at h1
 have h2:=h.len
 have h3:0<K.length:=List.length_pos_iff.2 hK
 omega
theorem dmark_any (w:World) (b:Nat) (B:List UInt8) (L R:List Bool) (i k:Nat) (h:RAt b B i w) (hB:Bits B L) (hd:L.drop i=zaJ k++R) (hk:k≤4) (hBl:B.length≤1048576) :
 Calls Tryz.prog 271 #[.pointer (some ⟨b,0,none⟩)] w fun e w'=>e=.returned (.tuple #[.int .i64 (k:Int),.int .i64 0])∧RAt b B (i+(zaJ k).length) w'∧Chg (·=b) w w':=by
 have HW:=hid h
 have hroom:=zby hB hd (by unfold zaJ;rcases (show k=0∨k=1∨k=2∨k=3∨k=4 by omega) with rfl|rfl|rfl|rfl|rfl<;>simp)
 have hml:=markD_len hk
 have HG:=hid (fun j (hj:j<min (k+1) 4) W (hR:RAt b B (i+j) W)=>get_any W b B (i+j) 1 hR (by decide) (by omega) hBl)
 have HV:Hid (∀j,j<k→numAt B (i+j) 1=1):=hid (fun j hj=>by
  obtain ⟨R',hR'⟩:=mark_drop hk hd j hj
  exact num_one hB hR')
 have HZ:Hid (k<4→numAt B (i+k) 1=0):=hid (fun hk4=>by
  obtain ⟨R',hR'⟩:=mark_end hk4 hd
  exact num_one hB hR')
 have HML:=hid hml
 clear h hB hd hBl hroom hml
 go_enter Tryz.func271,Tryz.ntmps271
 go_wp2_with fail
 go_loopw [2,3,4] (fun s2 s3 s4 wr=>∃j:Nat,s2=.int .i64 0∧s3=.int .i64 0∧s4=.int .i64 (j:Int)∧j≤k∧Hid (RAt b B (i+j) wr∧Chg (·=b) w wr)) (fun _ _ t _=>4-(RowKit.intOf t).toNat)
 case atStart=>exact ⟨0,rfl,rfl,rfl,Nat.zero_le _,hid ⟨HW.out,Chg.refl _ _⟩⟩
 case round =>
  obtain ⟨j,rfl,rfl,rfl,hj,HR⟩:=hrel
  by_cases hlt:j<k
  ·have hj4:(j:Int)<4:=by omega
   have HGJ:=hid (HG.out j (by omega))
   rw [HV.out j hlt] at HGJ
   go_wp2_with fail
   refine (HGJ.out wr HR.out.1).mono ?_
   rintro e w3 ⟨rfl,hr3,hc3⟩
   have HR3:=hid (And.intro hr3 (HR.out.2.trans hc3 (fun _ _ e=>e)))
   clear hr3 hc3
   go_wp2_with fail
   go_roundw
   case rel=>exact ⟨j+1,rfl,rfl,by go_num,by omega,by rw [←Nat.add_assoc];exact HR3⟩
   case measure=>simp [RowKit.intOf];omega
  ·have hjk:j=k:=by omega
   subst hjk
   by_cases h4:j<4
   ·have hj4:(j:Int)<4:=by omega
    have HGJ:=hid (HG.out j (by omega))
    rw [HZ.out h4] at HGJ
    have HE:Hid ((zaJ j).length=j+1):=hid (by rw [HML.out];omega)
    go_wp2_with fail
    refine (HGJ.out wr HR.out.1).mono ?_
    rintro e w3 ⟨rfl,hr3,hc3⟩
    have HR3:=hid (And.intro hr3 (HR.out.2.trans hc3 (fun _ _ e=>e)))
    clear hr3 hc3
    go_wp2_with fail
    go_ret2
    exact ⟨rfl,by rw [HE.out,←Nat.add_assoc];exact HR3.out.1,HR3.out.2⟩
   ·have hj4:¬(j:Int)<4:=by omega
    have hj44:j=4:=by omega
    have HE:Hid ((zaJ j).length=j):=hid (by rw [HML.out];omega)
    have HJ:Hid ((j:Int)=4):=hid (by omega)
    clear hj44 h4
    go_wp2_with fail
    go_ret2
    exact ⟨by rw [HJ.out];rfl,by rw [HE.out];exact HR.out.1,HR.out.2⟩
theorem dtake_any (w:World) (b:Nat) (B:List UInt8) (L R:List Bool) (i z:Nat) (h:RAt b B i w) (hB:Bits B L) (hd:L.drop i=stepD z++R) (hz:z<18446744073709551616) (hBl:B.length≤1048576) :
 Calls Tryz.prog 234 #[.pointer (some ⟨b,0,none⟩)] w fun e w'=>e=.returned (.tuple #[.int .i64 (zag z),.int .i64 0])∧RAt b B (i+(stepD z).length) w'∧Chg (fun k=>k=b) w w':=by
 obtain ⟨k,hk⟩:∃k,k=clsN z:=⟨_,rfl⟩
 have hk4:k≤4:=by rw [hk];exact clsN_le z
 have hst:stepD z=zaJ k++hiL (clsW k) z:=by rw [hk];rfl
 rw [hst,yaj] at hd
 have hd2:=zdj hd
 have HMK:=hid (dmark_any w b B L _ i k h hB hd hk4 hBl)
 have hnum:numAt B (i+(zaJ k).length) (clsW k)=z:=by
  have h1:=hB.num hd2
  rw [zaG,num_hiL,Nat.mod_eq_of_lt (by rw [hk];exact cls_fits z hz)] at h1
  exact h1
 have hroom:i+(zaJ k).length+clsW k≤8*B.length:=by
  have h0:=zby hB hd (by unfold zaJ;rcases (show k=0∨k=1∨k=2∨k=3∨k=4 by omega) with rfl|rfl|rfl|rfl|rfl<;>simp)
  by_cases h1:hiL (clsW k) z=[]
  ·have h2:=congrArg List.length h1
   rw [zaG] at h2
   simp at h2
   omega
  ·have h2:=zby hB hd2 h1
   rw [zaG] at h2
   exact h2
 have HGT:=hid (fun W (hR:RAt b B (i+(zaJ k).length) W)=>get_any W b B _ (clsW k) hR (clsW_le k) hroom hBl)
 rw [hnum] at HGT
 have HCL:=hid (fun W=>zcE z W hz)
 rw [←hk] at HCL
 have HZG:=hid (fun W=>zag_any z W hz)
 have HE:Hid (i+(stepD z).length=i+(zaJ k).length+clsW k):=hid (by rw [hst,yae,zaG];omega)
 obtain ⟨W5,hW5⟩:∃x,x=clsW k:=⟨_,rfl⟩
 have HI:=hid (fun W=>wid_at k hk4 W)
 rw [←hW5] at HGT HE HI
 clear h hB hd hd2 hst hnum hroom hz hk hBl hW5
 go_enter Tryz.func234,Tryz.ntmps234
 go_wp2_with fail
 refine HMK.out.mono ?_
 rintro e w1 ⟨rfl,hr1,hc1⟩
 have HR1:=hid (And.intro hr1 hc1)
 clear hr1 hc1
 go_wp2_with fail
 refine (zcx w1).mono ?_
 rintro e w2 ⟨rfl,hx2⟩
 have HX2:=hid hx2
 have hI:=HI.out w2
 clear hx2
 go_wp2_with fail
 refine (HGT.out w2 (HR1.out.1.ext HX2.out)).mono ?_
 rintro e w3 ⟨rfl,hr3,hc3⟩
 have HR3:=hid (And.intro hr3 (HR1.out.2.trans ((Chg.of_ext HX2.out).trans hc3 (fun _ _ e=>e)) (fun _ _ e=>e)))
 clear hr3 hc3 hI
 go_wp2_with fail
 refine (HCL.out w3).mono ?_
 rintro e w4 ⟨rfl,hx4⟩
 have HX4:=hid hx4
 clear hx4
 go_wp2_with fail
 refine (HZG.out w4).mono ?_
 rintro e w5 ⟨rfl,rfl⟩
 go_wp2_with fail
 go_ret2
 exact ⟨rfl,by rw [HE.out];exact HR3.out.1.ext HX4.out,HR3.out.2.trans (Chg.of_ext (S:=fun _=>False) HX4.out) (fun _ _ e=>e.elim)⟩
theorem dended_any (w:World) (b:Nat) (B:List UInt8) (L:List Bool) (h:RAt b B L.length w) (hB:Bits B L) (hBl:B.length≤1048576) :
 Calls Tryz.prog 236 #[.pointer (some ⟨b,0,none⟩)] w fun e w'=>e=.returned (.bool true)∧Chg (fun k=>k=b) w w':=by
 have hlen:=hB.len
 obtain ⟨t,ht⟩:∃t,t=8*B.length-L.length:=⟨_,rfl⟩
 have ht8:t<8:=by omega
 have HLF:=hid (left_any w b B L.length h (by omega) hBl)
 rw [←ht] at HLF
 have HGT:=hid (fun W (hR:RAt b B L.length W)=>get_any W b B L.length t hR (by omega) (by omega) hBl)
 rw [hB.num0 (Nat.le_refl _)] at HGT
 have HW:=hid h
 have ht8':(t:Int)<8:=by omega
 have hmin:min (t:Int) 64=(t:Int):=by omega
 clear h hB hlen ht hBl
 go_enter Tryz.func236,Tryz.ntmps236
 go_wp2_with fail
 refine HLF.out.mono ?_
 rintro e w1 ⟨rfl,hx1⟩
 have HX1:=hid hx1
 clear hx1
 go_wp2_with fail
 refine (HGT.out w1 (HW.out.ext HX1.out)).mono ?_
 rintro e w2 ⟨rfl,hr2,hc2⟩
 have HC2:=hid ((Chg.of_ext HX1.out).trans hc2 (fun _ _ e=>e))
 clear hr2 hc2
 go_wp2_with fail
 go_ret
 exact ⟨rfl,HC2.out⟩
structure DecAt (w:World) (b rb ob sb:Nat) (B:List UInt8) (l:List Int) (i:Nat) (w':World):Prop where
 ord:w.heap.size≤b∧b<rb∧rb<ob∧ob<sb
 rd:RAt b B (tmS (l.take i)).bits.length w'
 r:w'.heap[rb]?=some (.cells #[.pointer (some ⟨b,0,none⟩)] 355 (0,0))
 o:∃(a:Option Addr) (c:Nat),w'.heap[ob]?=some (.cells #[.slice a i c] 39 (0,0))∧Row w' 3 1 (.slice a i c) i (zints (l.take i))∧∀g,(Value.slice a i c).ownBlock=some g→sb<g
 s:w'.heap[sb]?=some (.cells #[.int .i64 (tmS (l.take i)).step] 3 (0,0))
 ext:Ext w w'
theorem zdG (l:List Int):∀u∈zints l,u.oneCell'=true:=by
 intro u hu
 obtain ⟨c,_,rfl⟩:=yap.1 hu
 rfl
theorem dnext_any (w0 w:World) (b rb ob sb:Nat) (B:List UInt8) (l:List Int) (i:Nat) (t:Int) (h:DecAt w0 b rb ob sb B l i w) (hB:Bits B (zcv l)) (ht:l[i]?=some t)
 (h1:-9223372036854775808≤t) (h2:t≤9223372036854775807) (hi:i≤4096) (hBl:B.length≤1048576) :
 Calls Tryz.prog 232 #[.pointer (some ⟨ob,0,none⟩),.pointer (some ⟨rb,0,none⟩),.pointer (some ⟨sb,0,none⟩)] w fun e w'=>e=.returned (.tuple #[.int .i64 t,.int .i64 0])∧RAt b B (tmS (l.take (i+1))).bits.length w' ∧
  w'.heap[sb]?=some (.cells #[.int .i64 (tmS (l.take (i+1))).step] 3 (0,0))∧Chg (fun k=>k=b∨k=sb) w w':=by
 have H:=hid h
 obtain ⟨R,hd⟩:=tm_at ht
 have hil:=(yad.1 ht).1
 have HLA:=hid (tmS_last (l:=l) (i:=i) (by omega))
 have HNX:=hid (tmS_next ht)
 obtain ⟨a,c,hob,hrow,hown⟩:=h.o
 have HOB:=hid hob
 have HROW:=hid hrow
 have o0:=zaa hob 0
 have r0:=zaa h.r 0
 simp at o0 r0
 by_cases h0:i=0
 ·have hpt:zch (tmS (l.take i)) t=hiL 64 (u64N t):=by unfold zch;rw [HLA.out,if_pos h0]
  have HSP:Hid ((zcK (tmS (l.take i)) t).step=(tmS (l.take i)).step):=hid (by unfold zcK;simp only;rw [HLA.out,if_pos h0,h0];rfl)
  rw [hpt] at hd
  have hnum:=hB.num hd
  rw [zaG,num_hiL,Nat.mod_eq_of_lt (u64N_lt t)] at hnum
  have hroom:=zby hB hd (by intro e;have:=congrArg List.length e;rw [zaG] at this;simp at this)
  rw [zaG] at hroom
  have HGT:=hid (get_any w b B _ 64 h.rd (by decide) hroom hBl)
  rw [hnum] at HGT
  have HLEN:Hid ((tmS (l.take (i+1))).bits.length=(tmS (l.take i)).bits.length+64):=hid (by rw [HNX.out];show ((tmS (l.take i)).bits++zch _ t).length=_;rw [yae,hpt,zaG])
  have HWR:Hid (wrap64 ((u64N t:Nat):Int)=t):=hid (by have:=u64N_wrap h1 h2;rw [IntKind.wrap_i64] at this;unfold wrap64;exact this)
  have hb0:((i:Int)==0)=true:=beq_iff_eq.2 (by omega)
  clear h ht hd hob hrow hown hpt hnum hroom h0 hB hBl
  go_enter Tryz.func232,Tryz.ntmps232
  go_wp2_with fail
  refine HGT.out.mono ?_
  rintro e w1 ⟨rfl,hr1,hc1⟩
  have HR1:=hid (And.intro hr1 hc1)
  clear hr1 hc1
  go_wp2_with fail
  rw [HWR.out]
  go_ret2
  refine ⟨rfl,by rw [HLEN.out];exact HR1.out.1,?_,HR1.out.2.mono (fun k _ e=>.inl e)⟩
  rw [HNX.out,HSP.out]
  have ho:=H.out.ord
  exact (HR1.out.2.block sb (zab H.out.s) (fun e=>by omega)).trans H.out.s
 ·obtain ⟨j,hj⟩:∃j,j=i-1:=⟨_,rfl⟩
  obtain ⟨p,hp⟩:∃p,p=(tmS (l.take i)).step:=⟨_,rfl⟩
  obtain ⟨q,hq⟩:∃q,l[j]?=some q:=⟨_,yac (by omega)⟩
  obtain ⟨x,hx⟩:∃x,x=IntKind.i64.wrap (t-q):=⟨_,rfl⟩
  obtain ⟨d,hdd⟩:∃d,d=IntKind.i64.wrap (x-p):=⟨_,rfl⟩
  have hpt:zch (tmS (l.take i)) t=stepD (zig d):=by unfold zch;rw [HLA.out,if_neg h0,←hj,hq,hdd,hx,hp]
  have HSP:Hid ((zcK (tmS (l.take i)) t).step=x):=hid (by unfold zcK;simp only;rw [HLA.out,if_neg h0,←hj,hq,hx])
  have hdr:=i64_wrap_in (x-p)
  rw [←hdd] at hdr
  rw [hpt] at hd
  have HTK:=hid (dtake_any w b B (zcv l) R _ (zig d) h.rd hB hd (zig_lt hdr.1 hdr.2) hBl)
  have hzz:zag (zig d)=d:=zag_zig d
  rw [hzz] at HTK
  have hback:=tm_back (p:=q) (s:=p) (t:=t) h1 h2
  rw [zag_zig,←hx,←hdd] at hback
  have HA1:Hid (∀W,Calls Tryz.prog 235 #[.int .i64 p,.int .i64 d] W fun e w'=>e=.returned (.int .i64 x)∧W=w'):=hid (fun W=>by have:=wordAdd_any p d W;rw [hback.1] at this;exact this)
  have HA2:Hid (∀W,Calls Tryz.prog 235 #[.int .i64 q,.int .i64 x] W fun e w'=>e=.returned (.int .i64 t)∧W=w'):=hid (fun W=>by have:=wordAdd_any q x W;rw [hback.2] at this;exact this)
  have HLEN:Hid ((tmS (l.take (i+1))).bits.length=(tmS (l.take i)).bits.length+(stepD (zig d)).length):=hid (by rw [HNX.out];show ((tmS (l.take i)).bits++zch _ t).length=_;rw [yae,hpt])
  have hb0:((i:Int)==0)=false:=yam.2 (by omega)
  have hjn:j<i:=by omega
  have hwj:IntKind.i64.wrap ((i:Int)-1)=(j:Int):=by rw [IntWalk.i64_in _ (by omega)];omega
  have HSB:Hid (w.heap[sb]?=some (.cells #[.int .i64 p] 3 (0,0))):=hid (by rw [hp];exact h.s)
  have HQ:Hid ((l.take i)[j]?=some q):=hid (by rw [yaT,if_pos hjn];exact hq)
  have HO:=hid h.ord
  clear h ht hd hob hrow hown hpt h0 hB hBl hj hp hq hx hdd hdr hzz hback
  go_enter Tryz.func232,Tryz.ntmps232
  go_wp2_with fail
  refine HTK.out.mono ?_
  rintro e w1 ⟨rfl,hr1,hc1⟩
  have HR1:=hid hr1
  have HC1:=hid hc1
  have HSB1:=hid ((hc1.block sb (zab HSB.out) (fun e=>by have:=HO.out;omega)).trans HSB.out)
  have s0:=zaa HSB1.out 0
  simp at s0
  clear hr1 hc1
  go_wp2_with fail
  refine (HA1.out w1).mono ?_
  rintro e w2 ⟨rfl,rfl⟩
  go_upto_region 6 with (first|(refine zap rfl _ _ _ rfl sb 0 _ #[.int .i64 x] _ _ rfl rfl rfl rfl HSB1.out (by simp) rfl int_info1 ?_;rintro V hbV hcV _he;have HBV:=hid hbV;have HCV:=hid hcV;clear hbV hcV _he))
  (try dsimp only [Act.put])
  have HCC:Hid (Chg (fun k=>k=b∨k=sb) w V):=hid ((HC1.out.mono (fun k _ e=>.inl e)).trans HCV.out (fun i _ e=>.inr e))
  have HOV:=hid ((HCC.out.block ob (zab HOB.out) (fun e=>by have:=HO.out;omega)).trans HOB.out)
  have HOW:=HOB
  obtain ⟨a',c',hob2,hrow2,hown2⟩:=H.out.o
  have hsame:a'=a∧c'=c:=by
   have:=hob2
   rw [HOB.out] at this
   simp only [Option.some.injEq,Obj.cells.injEq,and_true] at this
   have:=congrArg (fun z=>z[0]?) this
   simp only [List.getElem?_toArray,yaa,Option.some.injEq,Value.slice.injEq] at this
   exact ⟨this.1.symm,this.2.2.symm⟩
  obtain ⟨rfl,rfl⟩:=hsame
  have HRV:=hid (hrow2.chg HCC.out (fun g hg e=>by have:=hown2 g hg;have:=HO.out;omega))
  obtain ⟨zb,zo,z,hza,hz,z0⟩:=zcZ (HRV.out.src (zdG _)) hjn
  obtain rfl:z=q:=by have:=HQ.out;rw [hz] at this;exact yaG this
  subst hza
  have x0:=zaf (T:=fun _=>false) (show V.cell? ⟨ob,0,none⟩=some (.slice (some ⟨zb,zo,none⟩) i c') by have:=zaa HOV.out 0;simpa using this) rfl
  have x1:=zaf (T:=fun _=>false) (show V.cell? ⟨sb,0,none⟩=some (.int .i64 x) by have:=zaa HBV.out 0;simpa using this) rfl
  have x2:=zaf (T:=fun _=>false) z0 rfl
  clear hz hob2 hrow2 hown2 s0
  refine zao 10 (fun w'=>∃z:Turned,w'=turned V (fun _=>false) z.d z.f z.os) (.reads [0,1,2,3,4,5,6,8] (.one 7 (.one 9 (.one 10 .done)))) (by kernel_rfl) (by kernel_rfl) (fun _ _ dd _ _ hh=>by cases dd<;>exact hh) ?_ ?_
  ·exact zad (Ext.drewN V 1)
  refine zak ?_
  simp only [zac,yab,yaa]
  repeat (go_big_quiet_step (fail))
  refine yaF ?_
  clear x0 x1 x2 z0 hwj
  change zaA _ _ _ _ _ _ _ _ (V.drewN 1)
  have HXd:Hid (Ext V (V.drewN 1)):=hid (Ext.drewN V 1)
  generalize V.drewN 1=Wd at HXd ⊢
  refine zae ?_
  simp only [zac,yab,yaa]
  go_wp2_with fail
  refine (HA2.out Wd).mono ?_
  rintro e w5 ⟨rfl,rfl⟩
  go_wp2_with fail
  refine zal (zad HXd.out) (zae ?_)
  simp only [zac,yab,yaa]
  go_wp2_with fail
  refine zal (zad HXd.out) (zae ?_)
  simp only [zac,yab,yaa]
  go_wp2_with fail
  refine zau (zav ?_)
  go_wp2_with fail
  go_ret2
  refine ⟨rfl,?_,?_,HCC.out.trans (Chg.of_ext (S:=fun _=>False) HXd.out) (fun _ _ e=>e.elim)⟩
  ·rw [HLEN.out]
   exact (HR1.out.above HCV.out (fun k e=>by have:=HO.out;omega)).ext HXd.out
  ·rw [HNX.out,HSP.out]
   exact (HXd.out.block (zab HBV.out)).trans HBV.out
theorem zl_info:(Tryz.prog.info? 39).map (·.size)=some 1:=by kernel_rfl
theorem elem_zi:ElemOk Tryz.prog 39 3 1 8 :=
 ⟨Tryz.underlying39,by
   obtain ⟨i0,hi,hz0,hz1,hz2⟩:=info_parts (show (Tryz.prog.info? 3).map (fun i=>(i.zero,i.size,i.bytes))=some (some (.int .i64 0),1,8) from by kernel_rfl)
   exact ⟨i0,_,hi,hz0,hz1,hz2,rfl⟩,by decide⟩
theorem src_zi {W:World}{b:Nat}{z:Int}{t:TypeId}{fr:Nat×Nat}(h:W.heap[b]?=some (.cells #[.int .i64 z] t fr)):Src W 1 (.slice (some ⟨b,0,none⟩) 1 1) 1 (zints [z]):=by
 refine .inr ⟨_,_,rfl,rfl,fun j u hj=>?_,by simp [zints,Value.oneCell']⟩
 rw [yak,Nat.zero_add,zaa h]
 simpa [zints] using hj
theorem ddecode_any (w:World) (a:Option Addr) (m c:Nat) (B:List UInt8) (l:List Int) (hs:Src w 1 (.slice a m c) m (u8s B)) (hB:Bits B (zcv l)) (hn:l.length≤4096) (hr:∀t∈l,-9223372036854775808≤t∧t≤9223372036854775807) :
 Calls Tryz.prog 197 #[.slice a m c,.int .i64 (l.length:Int)] w fun e w'=>∃v,e=.returned (.tuple #[v,.int .i64 0])∧MadeTo w 3 1 v l.length (zints l) w':=by
 have hBl:B.length≤34816:=by have:=hB.len;have:=zcX l;omega
 have hm:m≤34816:=by have:=zax hs;omega
 have HNR:=hid (newReader_any w a m c B hs (by omega))
 have HB:=hid (And.intro hB hBl)
 have HRG:=hid hr
 obtain ⟨n,hnl⟩:∃n,n=l.length:=⟨_,rfl⟩
 have HN:=hid hnl
 rw [←hnl] at hn ⊢
 have hn1:¬(n:Int)<0:=by omega
 have hn2:¬4096<(n:Int):=by omega
 have hw8:IntKind.i64.wrap (8*(m:Int))=8*(m:Int):=IntWalk.i64_in _ (by omega)
 clear hs hB hBl hr hnl
 go_enter Tryz.func197,Tryz.ntmps197
 go_wp2_with fail
 refine HNR.out.mono ?_
 rintro e w1 ⟨b,rfl,hb,hrd,hx1⟩
 have HRD:=hid hrd
 have HX1:=hid hx1
 have HBB:=hid hb
 clear hb hrd hx1
 obtain ⟨W,hW⟩:∃W,W=((w1.alloc (.cells #[.pointer (some ⟨b,0,none⟩)] 355 (0,0))).alloc (.cells #[.slice none 0 0] 39 (0,0))).alloc (.cells #[.int .i64 0] 3 (0,0)):=⟨_,rfl⟩
 have HD:Hid (DecAt w b w1.heap.size (w1.heap.size+1) (w1.heap.size+1+1) B l 0 W):=hid (by
  have e1:=heap_alloc_new w1 (.cells #[.pointer (some ⟨b,0,none⟩)] 355 (0,0))
  have e2:=zaF w1 (.cells #[.pointer (some ⟨b,0,none⟩)] 355 (0,0)) (.cells #[.slice none 0 0] 39 (0,0))
  have e3:=heap_alloc_new ((w1.alloc (.cells #[.pointer (some ⟨b,0,none⟩)] 355 (0,0))).alloc (.cells #[.slice none 0 0] 39 (0,0))) (.cells #[.int .i64 0] 3 (0,0))
  have hsz:((w1.alloc (.cells #[.pointer (some ⟨b,0,none⟩)] 355 (0,0))).alloc (.cells #[.slice none 0 0] 39 (0,0))).heap.size=w1.heap.size+1+1:=by simp [World.alloc_eq]
  have x1:=(((Ext.refl (w1.alloc (.cells #[.pointer (some ⟨b,0,none⟩)] 355 (0,0)))).alloc (.cells #[.slice none 0 0] 39 (0,0))).alloc (.cells #[.int .i64 0] 3 (0,0)))
  have x2:=((Ext.refl ((w1.alloc (.cells #[.pointer (some ⟨b,0,none⟩)] 355 (0,0))).alloc (.cells #[.slice none 0 0] 39 (0,0)))).alloc (.cells #[.int .i64 0] 3 (0,0)))
  have x0:=((((Ext.refl w1).alloc (.cells #[.pointer (some ⟨b,0,none⟩)] 355 (0,0))).alloc (.cells #[.slice none 0 0] 39 (0,0))).alloc (.cells #[.int .i64 0] 3 (0,0)))
  rw [hsz] at e3
  have hlt:=HRD.out.lt
  rw [hW]
  exact ⟨⟨HBB.out,hlt,by omega,by omega⟩,by simpa [tmS] using HRD.out.ext x0,(x1.block (zab e1)).trans e1,⟨none,0,(x2.block (zab e2)).trans e2,by simpa [zints] using Row.nil _ _ _,by simp [Value.ownBlock]⟩,by simpa [tmS] using e3,HX1.out.trans x0⟩)
 go_wp2_with fail
 rw [←hW]
 generalize w1.heap.size=rb at HD ⊢
 clear hW hn1 hn2 hw8
 go_loopw [4,5,29] (fun s4 s5 s29 wr=>∃i:Nat,s4=.slice none 0 0∧s5=.int .i64 0∧s29=.int .i64 (i:Int)∧i≤n∧Hid (DecAt w b rb (rb+1) (rb+1+1) B l i wr)) (fun _ _ t _=>n-(RowKit.intOf t).toNat)
 case atStart=>exact ⟨0,rfl,rfl,rfl,Nat.zero_le _,HD⟩
 case round =>
  obtain ⟨i,rfl,rfl,rfl,hi,HI⟩:=hrel
  by_cases hlt:i<n
  ·obtain ⟨t,ht⟩:∃t,l[i]?=some t:=⟨_,yac (by have:=HN.out;omega)⟩
   have HT:=hid ht
   have hrt:=HRG.out t (yag ht)
   have HNX:=hid (dnext_any w wr b rb (rb+1) (rb+1+1) B l i t HI.out HB.out.1 ht hrt.1 hrt.2 (by omega) (by have:=HB.out.2;omega))
   clear ht hrt
   go_wp2_with fail
   refine HNX.out.mono ?_
   rintro e w3 ⟨rfl,hr3,hs3,hc3⟩
   have HR3:=hid (And.intro hr3 (And.intro hs3 hc3))
   obtain ⟨oa,oc,hob,hrow,hown⟩:=HI.out.o
   have hord:=HI.out.ord
   have HOB3:=hid ((hc3.block (rb+1) (zab hob) (fun e=>by omega)).trans hob)
   have HRW3:=hid (hrow.chg hc3 (fun g hg e=>by have:=hown g hg;omega))
   have HOWN:=hid hown
   have o0:=zaa HOB3.out 0
   simp at o0
   clear hr3 hs3 hc3 hob hrow hown hord
   go_wp2_with (first|(at_builtin;go_must (refine zah elem_zi rfl _ _ rfl (n:=i) (m:=1) (v:=.slice _ _ _) rfl rfl (HRW3.out.alloc _) (src_zi (heap_alloc_new _ _)) (by unfold maxLen;omega) (by omega) ?_;intro v' w4 happ);have HA:=hid happ;obtain ⟨a1,d1,rfl⟩:=happ.row.shape;have HOB4:Hid (w4.heap[rb+1]?=some (.cells #[.slice oa i oc] 39 (0,0))):=hid ((happ.chg.block (rb+1) (yan (zab HOB3.out) ((Ext.refl w3).alloc _).size) (fun e=>by have:=HOWN.out _ e;omega)).trans ((((Ext.refl w3).alloc _).block (zab HOB3.out)).trans HOB3.out));clear happ)|(refine zap rfl _ _ _ rfl (rb+1) 0 _ #[.slice a1 (i+1) d1] _ _ rfl rfl rfl rfl HOB4.out (by simp) rfl zl_info ?_;rintro V hbV hcV _he;have HBV:=hid hbV;have HCV:=hid hcV;clear hbV hcV _he))
   go_roundw
   case rel =>
    refine ⟨i+1,rfl,rfl,by go_num,by omega,hid ?_⟩
    have hord:=HI.out.ord
    have hown:∀g,(Value.slice a1 (i+1) d1).ownBlock=some g→rb+1+1<g:=fun g hg=>by
     rcases HA.out.loc with e|e
     ·exact HOWN.out g (e▸hg)
     ·have h1:=zab HR3.out.2.1
      have h2:=((Ext.refl w3).alloc (.cells #[.int .i64 t] 3 (0,0))).size
      rw [e] at hg
      cases hg
      omega
    have hC:Chg (fun k=>k=rb+1∨rb+1+1<k) w3 V:=(((Chg.of_ext ((Ext.refl w3).alloc _)).trans (HA.out.chg.mono (fun k _ e=>.inr (HOWN.out k e))) (fun _ _ e=>e)).trans (HCV.out.mono (fun k _ e=>.inl e)) (fun _ _ e=>e))
    refine ⟨hord,HR3.out.1.above hC (fun k e=>by omega),?_,⟨a1,d1,HBV.out,?_,hown⟩,(hC.block _ (zab HR3.out.2.1) (fun e=>by omega)).trans HR3.out.2.1,?_⟩
    ·have h1:=(HR3.out.2.2.block rb (zab HI.out.r) (fun e=>by omega)).trans HI.out.r
     exact (hC.block rb (zab h1) (fun e=>by omega)).trans h1
    ·have h1:=HA.out.row.chg HCV.out (fun g hg e=>by have:=hown g hg;omega)
     have h2:zints (l.take (i+1))=zints (l.take i)++zints [t]:=by rw [yao,HT.out];simp [zints]
     rw [h2]
     exact h1
    ·exact (((Chg.of_ext (S:=fun k=>w.heap.size≤k) HI.out.ext).trans HR3.out.2.2 (fun k _ e=>by omega)).trans hC (fun k _ e=>by omega)).ext (fun k hk e=>by omega)
   case measure=>simp [RowKit.intOf];omega
  ·have HE:Hid (l.take i=l):=hid (yai (by have:=HN.out;omega))
   have hin:i=n:=by omega
   subst hin
   have hord:=HI.out.ord
   have hrd:=HI.out.rd
   rw [HE.out] at hrd
   have HEN:=hid (dended_any wr b B (zcv l) hrd HB.out.1 (by have:=HB.out.2;omega))
   obtain ⟨oa,oc,hob,hrow,hown⟩:=HI.out.o
   have HOB:=hid hob
   have HROW:=hid hrow
   have HOWN:=hid hown
   have HORD:=hid hord
   have r0:=zaa HI.out.r 0
   simp at r0
   clear hrd hob hrow hown hord
   go_wp2_with fail
   refine HEN.out.mono ?_
   rintro e w3 ⟨rfl,hc3⟩
   have HC3:=hid hc3
   have HOB3:=hid ((hc3.block (rb+1) (zab HOB.out) (fun e=>by have:=HORD.out;omega)).trans HOB.out)
   have o0:=zaa HOB3.out 0
   simp at o0
   clear hc3 r0
   go_wp2_with fail
   go_ret2
   refine ⟨_,rfl,?_,fun g hg=>by have:=HOWN.out g hg;have:=HORD.out;omega,?_⟩
   ·have h1:=HROW.out.chg HC3.out (fun g hg e=>by have:=HOWN.out g hg;have:=HORD.out;omega)
    rw [HE.out] at h1
    exact h1
   ·exact ((Chg.of_ext (S:=fun k=>w.heap.size≤k) HI.out.ext).trans HC3.out (fun k _ e=>by have:=HORD.out;omega)).ext (fun k hk e=>by omega)
abbrev stepsV:Value:=.agg #[.int .i64 32,.int .i64 16,.int .i64 8,.int .i64 4,.int .i64 2,.int .i64 1]
theorem steps_info:(Tryz.prog.info? 413).map (·.size)=some 6:=by kernel_rfl
def stpN (j:Nat):Nat:=if j=0 then 32 else if j=1 then 16 else if j=2 then 8 else if j=3 then 4 else if j=4 then 2 else 1
def resN (j:Nat):Nat:=if j=0 then 64 else stpN (j-1)
theorem stp_res (j:Nat) (hj:j<6):resN j=2*stpN j∧resN (j+1)=stpN j∧1≤stpN j∧stpN j≤32:=by
 rcases (show j=0∨j=1∨j=2∨j=3∨j=4∨j=5 by omega) with rfl|rfl|rfl|rfl|rfl|rfl<;>decide
theorem st_at0 (w:World):(Instr.index 413 stepsV (.int .i64 0)).run Tryz.prog w=.ok (.int .i64 32) w:=by kernel_rfl
theorem st_at1 (w:World):(Instr.index 413 stepsV (.int .i64 1)).run Tryz.prog w=.ok (.int .i64 16) w:=by kernel_rfl
theorem st_at2 (w:World):(Instr.index 413 stepsV (.int .i64 2)).run Tryz.prog w=.ok (.int .i64 8) w:=by kernel_rfl
theorem st_at3 (w:World):(Instr.index 413 stepsV (.int .i64 3)).run Tryz.prog w=.ok (.int .i64 4) w:=by kernel_rfl
theorem st_at4 (w:World):(Instr.index 413 stepsV (.int .i64 4)).run Tryz.prog w=.ok (.int .i64 2) w:=by kernel_rfl
theorem st_at5 (w:World):(Instr.index 413 stepsV (.int .i64 5)).run Tryz.prog w=.ok (.int .i64 1) w:=by kernel_rfl
theorem st_at (j:Nat) (hj:j<6) (w:World):(Instr.index 413 stepsV (.int .i64 (j:Int))).run Tryz.prog w=.ok (.int .i64 (stpN j:Int)) w:=by
 rcases (show j=0∨j=1∨j=2∨j=3∨j=4∨j=5 by omega) with rfl|rfl|rfl|rfl|rfl|rfl
 ·exact st_at0 w
 ·exact st_at1 w
 ·exact st_at2 w
 ·exact st_at3 w
 ·exact st_at4 w
 ·exact st_at5 w
theorem steps_any (w:World):Calls Tryz.prog 285 #[] w fun e w'=>e=.returned stepsV∧Ext w w':=by
 have HB:=hid (heap_alloc_new w (.cells #[.int .i64 0,.int .i64 0,.int .i64 0,.int .i64 0,.int .i64 0,.int .i64 0] 413 (0,0)))
 go_enter Tryz.func285,Tryz.ntmps285
 go_wp2_with (first|(refine zai rfl _ _ _ rfl _ _ #[.int .i64 32,.int .i64 16,.int .i64 8,.int .i64 4,.int .i64 2,.int .i64 1] _ rfl rfl HB.out rfl steps_info (by simp [Value.oneCell']) ?_;rintro w5 hb5 hc5;have HB5:=hid hb5;have HX5:Hid (Ext w w5):=hid (((Chg.of_ext (S:=fun _=>False) ((Ext.refl w).alloc _)).trans hc5 (fun i hi e=>by omega)).ext (fun _ _ e=>e));clear hb5 hc5))
 exact yaE (zaZ Tryz.results285 _ _ rfl HB5.out Tryz.underlying413 rfl steps_info) rfl ⟨rfl,HX5.out⟩
theorem lead_any (u:Nat) (w:World) (hu:u<18446744073709551616):Calls Tryz.prog 269 #[.int .u64 (u:Int)] w fun e w'=>e=.returned (.int .i64 (leadN u:Int))∧Ext w w':=by
 by_cases h0:u=0
 ·subst h0
  have HE:Hid ((leadN 0:Int)=64):=hid (by unfold leadN;rfl)
  go_enter Tryz.func269,Tryz.ntmps269
  go_wp2_with fail
  go_ret
  exact ⟨by rw [HE.out];rfl,Ext.refl _⟩
 ·have hb0:((u:Int)==0)=false:=yam.2 (by omega)
  have HU:=hid (And.intro h0 hu)
  clear h0 hu
  go_enter Tryz.func269,Tryz.ntmps269
  go_wp2_with fail
  refine (steps_any w).mono ?_
  rintro e w1 ⟨rfl,hx1⟩
  have HX1:=hid hx1
  clear hx1
  go_wp2_with fail
  clear hb0
  go_loopw [0,3,9] (fun s0 s3 s9 wr=>∃j n v:Nat,s0=.int .u64 (v:Int)∧s3=.int .i64 (n:Int)∧s9=.int .i64 (j:Int)∧j≤6∧n≤64-resN j∧Hid (v=u*2 ^ n∧v<18446744073709551616∧2 ^ (64-resN j)≤v∧wr=w1)) (fun _ _ t _=>6-(RowKit.intOf t).toNat)
  case atStart=>exact ⟨0,0,u,rfl,rfl,rfl,by omega,by decide,hid ⟨by simp,HU.out.2,by have:=HU.out.1;show 1≤u;omega,rfl⟩⟩
  case round =>
   obtain ⟨j,n,v,rfl,rfl,rfl,hj,hn,HI⟩:=hrel
   obtain rfl:wr=w1:=HI.out.2.2.2
   by_cases hlt:j<6
   ·obtain ⟨r1,r2,r3,r4⟩:=stp_res j hlt
    have hI:=st_at j hlt wr
    obtain ⟨s,hs⟩:∃s,s=stpN j:=⟨_,rfl⟩
    rw [←hs] at r1 r2 r3 r4 hI
    obtain ⟨t,ht⟩:∃t,t=64-s:=⟨_,rfl⟩
    have hwt:IntKind.i64.wrap (64-(s:Int))=(t:Int):=by rw [IntWalk.i64_in _ (by omega)];omega
    have hws2:(64:Int)-(s:Int)=(t:Int):=by omega
    have hsh:(v:Int)/2 ^ t=((v/2 ^ t:Nat):Int):=by push_cast;rfl
    have hn2:n≤64-2*s:=by omega
    have HV:=hid (And.intro HI.out.1 (And.intro HI.out.2.1 HI.out.2.2.1))
    rw [r1] at HV
    have hj6:(j:Int)<6:=by omega
    by_cases hq:v/2 ^ t=0
    ·have hvt:v<2 ^ t:=by
      rcases Nat.div_eq_zero_iff.1 hq with h|h
      ·have:0<2 ^ t:=Nat.two_pow_pos t
       omega
      ·exact h
     have hz:((v:Int)/2 ^ t==0)=true:=by rw [hsh,hq];rfl
     have hp:2 ^ t*2 ^ s=18446744073709551616:=by rw [←Nat.pow_add,ht,show 64-s+s=64 by omega]
     have hlt2:v*2 ^ s<18446744073709551616:=by rw [←hp];exact Nat.mul_lt_mul_of_pos_right hvt (Nat.two_pow_pos s)
     have hmul:IntKind.u64.wrap ((v:Int)*2 ^ s)=((v*2 ^ s:Nat):Int):=by rw [show (v:Int)*2 ^ s=((v*2 ^ s:Nat):Int) by push_cast;rfl,IntKind.wrap_u64,Int.emod_eq_of_lt (by omega) (by omega)]
     have HNW:Hid (v*2 ^ s=u*2 ^ (n+s)∧v*2 ^ s<18446744073709551616∧2 ^ (64-resN (j+1))≤v*2 ^ s):=hid ⟨by rw [HV.out.1,Nat.pow_add,Nat.mul_assoc],hlt2,by
      rw [r2]
      have h1:=Nat.mul_le_mul_right (2 ^ s) HV.out.2.2
      rw [←Nat.pow_add,show 64-2*s+s=64-s by omega] at h1
      exact h1⟩
     have hns:n+s≤64-resN (j+1):=by rw [r2];omega
     obtain ⟨vs,hvs⟩:∃vs,vs=v*2 ^ s:=⟨_,rfl⟩
     rw [←hvs] at hmul HNW
     clear hs r1 r2 hq hvt hp hlt2 ht hvs hsh
     go_wp2_with fail
     go_roundw
     case rel=>exact ⟨j+1,n+s,vs,rfl,by go_num,by go_num,by omega,hns,hid ⟨HNW.out.1,HNW.out.2.1,HNW.out.2.2,trivial⟩⟩
     case measure=>simp [RowKit.intOf];omega
    ·have hz:((v:Int)/2 ^ t==0)=false:=by rw [hsh];exact yam.2 (by omega)
     have HNW:Hid (2 ^ (64-resN (j+1))≤v):=hid (by
      rw [r2,←ht]
      rcases Nat.lt_or_ge v (2 ^ t) with h|h
      ·exact absurd (Nat.div_eq_of_lt h) hq
      ·exact h)
     have hns:n≤64-resN (j+1):=by rw [r2];omega
     clear hs r1 r2 hq ht hsh
     go_wp2_with fail
     go_roundw
     case rel=>exact ⟨j+1,n,v,rfl,rfl,by go_num,by omega,hns,hid ⟨HV.out.1,HV.out.2.1,HNW.out,trivial⟩⟩
     case measure=>simp [RowKit.intOf];omega
   ·have hj6:j=6:=by omega
    have HE:Hid ((leadN u:Int)=(n:Int)):=hid (by
     have h1:=HI.out
     rw [hj6] at h1 hn
     have hr:resN 6=1:=rfl
     rw [hr] at h1 hn
     obtain ⟨e1,e2,e3,_⟩:=h1
     have hn63:n≤63:=hn
     have:=lead_only (x:=u) (n:=n) (by have:=HU.out.1;omega) HU.out.2 hn63 (by
      refine Nat.lt_of_mul_lt_mul_right (a:=2 ^ n) ?_
      rw [←Nat.pow_add,show 64-n+n=64 by omega,←e1]
      exact e2) (by
      refine Nat.le_of_mul_le_mul_right (c:=2 ^ n) ?_ (Nat.two_pow_pos n)
      rw [←Nat.pow_add,show 63-n+n=63 by omega,←e1]
      exact e3)
     rw [this])
    have hj6':¬(j:Int)<6:=by omega
    clear hj6
    go_wp2_with fail
    go_ret
    exact ⟨by rw [HE.out];rfl,HX1.out⟩
end
section
open Go.RowKit Go.Sort Go.Lib
theorem trail_any (u:Nat) (w:World) (hu:u<18446744073709551616):Calls Tryz.prog 270 #[.int .u64 (u:Int)] w fun e w'=>e=.returned (.int .i64 (zba u:Int))∧Ext w w':=by
 by_cases h0:u=0
 ·subst h0
  have HE:Hid ((zba 0:Int)=64):=hid (by rw [trail_zero];rfl)
  go_enter Tryz.func270,Tryz.ntmps270
  go_wp2_with fail
  go_ret
  exact ⟨by rw [HE.out];rfl,Ext.refl _⟩
 ·have hb0:((u:Int)==0)=false:=yam.2 (by omega)
  obtain ⟨t,ht⟩:∃t,t=zba u:=⟨_,rfl⟩
  have hlt:=zcD (x:=u) (by omega) hu
  have ht63:t≤63:=by omega
  have hand:bits .and .u64 (u:Int) (IntKind.u64.wrap (-(u:Int)))=((2 ^ t:Nat):Int):=by
   rw [show IntKind.u64.wrap (-(u:Int))=((18446744073709551616-u:Nat):Int) by rw [IntKind.wrap_u64];omega,bits_and_u64_nat _ _ hu (by omega),low_bit (by omega) hu,←ht]
  obtain ⟨p,hp⟩:∃p,p=2 ^ t:=⟨_,rfl⟩
  have hp1:p<18446744073709551616:=by
   have:2 ^ t≤2 ^ 63:=yaQ (by omega) ht63
   omega
  have hlp:63-t=leadN p:=by
   refine lead_only (by rw [hp];exact Nat.two_pow_pos t) hp1 (by omega) ?_ ?_
   ·rw [hp];exact Nat.pow_lt_pow_right (by omega) (by omega)
   ·rw [hp,show 63-(63-t)=t by omega];exact Nat.le_refl _
  rw [←hp] at hand
  have HLD:Hid (∀W,Calls Tryz.prog 269 #[.int .u64 (p:Int)] W fun e w'=>e=.returned (.int .i64 (63-(t:Int)))∧Ext W w'):=hid (fun W=>by
   have:=lead_any p W hp1
   rw [←hlp] at this
   rw [show (63:Int)-(t:Int)=((63-t:Nat):Int) by omega]
   exact this)
  rw [←ht]
  clear h0 hlt ht hp hp1 hlp hu
  go_enter Tryz.func270,Tryz.ntmps270
  go_wp2_with fail
  refine (HLD.out _).mono ?_
  rintro e w1 ⟨rfl,hx1⟩
  have HX1:=hid hx1
  have hs:(63:Int)-(63-(t:Int))=(t:Int):=by omega
  clear hx1
  go_wp2_with fail
  go_ret
  exact ⟨by first|rfl|(rw [hs]),HX1.out⟩
def winV (o:Option (Nat×Nat)):Array Value:=match o with|none=>#[.int .i64 (-1),.int .i64 (-1)]|some (a,b)=>#[.int .i64 (a:Int),.int .i64 (b:Int)]
theorem zaS:(Tryz.prog.info? 337).map (·.size)=some 2:=by kernel_rfl
theorem zcw (w:World):Calls Tryz.prog 225 #[] w fun e w'=>e=.returned (.agg #[.int .i64 (-1),.int .i64 (-1)])∧Ext w w':=by
 have HB:=hid (heap_alloc_new w (.cells #[.int .i64 0,.int .i64 0] 337 (0,0)))
 go_enter Tryz.func225,Tryz.ntmps225
 go_wp2_with (first|(refine zai rfl _ _ _ rfl _ _ #[.int .i64 (-1),.int .i64 (-1)] _ rfl rfl HB.out rfl zaS (by simp [Value.oneCell']) ?_;rintro w5 hb5 hc5;have HB5:=hid hb5;have HX5:Hid (Ext w w5):=hid (((Chg.of_ext (S:=fun _=>False) ((Ext.refl w).alloc _)).trans hc5 (fun i hi e=>by omega)).ext (fun _ _ e=>e));clear hb5 hc5))
 exact yaE (zaZ Tryz.results225 _ _ rfl HB5.out Tryz.underlying337 rfl zaS) rfl ⟨rfl,HX5.out⟩
theorem xof_any (x:Nat) (w:World) (hx:x<18446744073709551616):Calls Tryz.prog 226 #[.int .u64 (x:Int)] w fun e w'=>e=.returned (.agg #[.int .i64 (leadN x:Int),.int .i64 (zba x:Int)])∧Ext w w':=by
 have HB:=hid (heap_alloc_new w (.cells #[.int .i64 0,.int .i64 0] 337 (0,0)))
 have HL:=hid (fun W=>lead_any x W hx)
 have HT:=hid (fun W=>trail_any x W hx)
 obtain ⟨p,hp⟩:∃p,p=leadN x:=⟨_,rfl⟩
 obtain ⟨q,hq⟩:∃q,q=zba x:=⟨_,rfl⟩
 rw [←hp] at HL ⊢
 rw [←hq] at HT ⊢
 clear hp hq hx
 go_enter Tryz.func226,Tryz.ntmps226
 go_wp2_with fail
 refine (HL.out _).mono ?_
 rintro e w1 ⟨rfl,hx1⟩
 have HX1:=hid (((Ext.refl w).alloc (.cells #[.int .i64 0,.int .i64 0] 337 (0,0))).trans hx1)
 have HB1:=hid ((hx1.block (zab HB.out)).trans HB.out)
 clear hx1
 go_wp2_with fail
 refine (HT.out _).mono ?_
 rintro e w2 ⟨rfl,hx2⟩
 have HX2:=hid (HX1.out.trans hx2)
 have HB2:=hid ((hx2.block (zab HB1.out)).trans HB1.out)
 clear hx2
 go_wp2_with (first|(refine zai rfl _ _ _ rfl _ _ #[.int .i64 (p:Int),.int .i64 (q:Int)] _ rfl rfl HB2.out rfl zaS (by simp [Value.oneCell']) ?_;rintro w5 hb5 hc5;have HB5:=hid hb5;have HX5:Hid (Ext w w5):=hid (((Chg.of_ext (S:=fun k=>w.heap.size≤k) HX2.out).trans hc5 (fun i hi e=>by omega)).ext (fun _ _ e=>by omega));clear hb5 hc5))
 exact yaE (zaZ Tryz.results226 _ _ rfl HB5.out Tryz.underlying337 rfl zaS) rfl ⟨rfl,HX5.out⟩
theorem inside_any (a b:Nat) (w:World) (h:a+b≤64):Calls Tryz.prog 228 #[.agg #[.int .i64 (a:Int),.int .i64 (b:Int)]] w fun e w'=>e=.returned (.int .i64 ((64-a-b:Nat):Int))∧Ext w w':=by
 have HE:Hid (((64-a-b:Nat):Int)=64-(a:Int)-(b:Int)):=hid (by omega)
 rw [HE.out]
 go_enter Tryz.func228,Tryz.ntmps228
 go_wp2_with fail
 go_ret
 exact ⟨rfl,(Ext.refl _).alloc _⟩
end
end Go.Proofs.YtlmfhjipbjkcbaaGreatDoor
