/- x -/
import Derived.Test.YtlmfhjipbjkcbaaGreatDoorVrd
import Derived.Lib.AppendStr
set_option maxHeartbeats 4000000
set_option maxRecDepth 100000
set_option linter.unusedSimpArgs false
set_option linter.unusedVariables false
namespace Go.Proofs.YtlmfhjipbjkcbaaGreatDoor
section
open Go.RowKit Go.Sort Go.Lib
def varP (u:Nat):List UInt8:=if u<128 then [UInt8.ofNat u] else UInt8.ofNat (u%128+128)::varP (u/128)
termination_by u
decreasing_by omega
theorem varP_lt {u:Nat}(h:u<128):varP u=[UInt8.ofNat u]:=by rw [varP,if_pos h]
theorem varP_ge {u:Nat}(h:¬u<128):varP u=UInt8.ofNat (u%128+128)::varP (u/128):=by rw [varP,if_neg h]
theorem varP_pos (u:Nat):0<(varP u).length:=by
 by_cases h:u<128
 ·rw [varP_lt h];simp
 ·rw [varP_ge h];simp
theorem zcc (k:Nat):∀u,u<128 ^ k→0<k→(varP u).length≤k:=by
 induction k with
 | zero=>intro u _ h;omega
 | succ k ih =>
  intro u hu _
  by_cases h:u<128
  ·rw [varP_lt h];simp
  ·rw [varP_ge h,List.length_cons]
   have hk:0<k:=by
    rcases Nat.eq_zero_or_pos k with rfl|hk
    ·simp at hu;omega
    ·exact hk
   have:=ih (u/128) (by rw [Nat.pow_succ] at hu;exact Nat.div_lt_of_lt_mul (by rw [Nat.mul_comm];exact hu)) hk
   omega
theorem zaQ {u:Nat}(h:u<2 ^ 64):(varP u).length≤10:=zcc 10 u (yan h (by decide)) (by omega)
theorem elem_u8:ElemOk Tryz.prog 51 5 1 1 :=
 ⟨Tryz.underlying51,by
   obtain ⟨i0,hi,hz0,hz1,hz2⟩:=info_parts (show (Tryz.prog.info? 5).map (fun i=>(i.zero,i.size,i.bytes))=some (some (.int .u8 0),1,1) from by kernel_rfl)
   exact ⟨i0,_,hi,hz0,hz1,hz2,rfl⟩,by decide⟩
theorem src_byte {W:World}{b:Nat}{x:UInt8}{t:TypeId}{fr:Nat×Nat}(h:W.heap[b]?=some (.cells #[.int .u8 (x.toNat:Int)] t fr)):Src W 1 (.slice (some ⟨b,0,none⟩) 1 1) 1 (u8s [x]):=by
 refine .inr ⟨_,_,rfl,rfl,fun j u hj=>?_,zaH _⟩
 rw [yak,Nat.zero_add,zaa h]
 simpa [u8s] using hj
theorem u8_or128 (x:Nat) (hx:x<256):bits .or .u8 (x:Int) 128=((x%128+128:Nat):Int):=by
 have key:(BitVec.ofInt 8 (x:Int) ||| BitVec.ofInt 8 128).toNat=x%128+128:=by
  rw [BitVec.toNat_or,BitVec.toNat_ofInt]
  have a1:((x:Int)%((2 ^ 8:Nat):Int)).toNat=x:=by omega
  rw [a1]
  have:∀y,y<256→y ||| 128=y%128+128:=by decide
  exact this x hx
 show IntKind.u8.wrap ((BitVec.ofInt 8 (x:Int) ||| BitVec.ofInt 8 128).toNat:Nat)=_
 rw [key,IntKind.wrap_u8]
 omega
structure PutR (w:World) (xs full:List UInt8) (u n:Nat) (v:Value) (wr:World):Prop where
 st:Start w wr 5 1 v n (u8s xs)
 len:n=xs.length
 ext:Ext w wr
 eq:xs++varP u=full
theorem varPut_any (w:World) (a:Option Addr) (n c:Nat) (l:List UInt8) (u:Nat) (hu:u<2 ^ 64) (hl:Src w 1 (.slice a n c) n (u8s l)) (hnc:n≤c) (hn:n≤70368744177664) :
 Calls Tryz.prog 92 #[.slice a n c,.int .u64 (u:Int)] w fun e w'=>∃v,e=.returned v∧MadeTo w 5 1 v (l++varP u).length (u8s (l++varP u)) w':=by
 have HL:=hid hl
 have HLEN:=hid (zax hl)
 clear hl
 obtain ⟨a',hs1,hs2,hsrc⟩:∃a',(∀W,(Instr.slice 51 (.slice a n c) none (some (.int .i64 (n:Int))) (some (.int .i64 (n:Int)))).run Tryz.prog W=.ok (.slice a' n n) W)∧(∀W,(Instr.sliceAt 51 (.slice a n c) none (some (.int .i64 (n:Int))) (some (.int .i64 (n:Int)))).run Tryz.prog W=.ok (.slice a' n n) W)∧Src w 1 (.slice a' n n) n (u8s l):=by
  refine ⟨cutA a n 0,run_slice_him Tryz.underlying51 sz_u8 a n c n n (Nat.le_refl _) hnc,run_sliceAt_him Tryz.underlying51 sz_u8 a n c n n (Nat.le_refl _) hnc,?_⟩
  have:=zde (h:=n) (l:=0) (m:=n) HL.out (by omega) (by omega) (by omega) hnc
  rw [List.drop_zero,yai (by rw [zaI];have:=HLEN.out;omega)] at this
  exact this
 have H0:Hid (PutR w l (l++varP u) u n (.slice a' n n) w):=hid ⟨.inr ⟨a',rfl,hsrc⟩,HLEN.out.symm,Ext.refl _,rfl⟩
 clear hsrc
 go_enter Tryz.func92,Tryz.ntmps92
 go_wp2_with fail
 go_loopw [1,5] (fun su sv wr=>∃(u' m:Nat) (va:Option Addr) (vc:Nat) (xs:List UInt8),su=.int .u64 (u':Int)∧sv=.slice va m vc∧u'<2 ^ 64∧m≤n+10∧Hid (PutR w xs (l++varP u) u' m (.slice va m vc) wr)) (fun su _ _=>(RowKit.intOf su).toNat)
 case atStart=>exact ⟨u,n,a',n,l,rfl,rfl,hu,by omega,H0⟩
 case round =>
  clear H0
  obtain ⟨u',m,va,vc,xs,rfl,rfl,hu',hm,HR⟩:=hrel
  by_cases hlt:u'<128
  ·have hlt':(u':Int)<128:=by omega
   have HF:Hid (xs++varP u'=l++varP u):=hid HR.out.eq
   obtain ⟨x,hx⟩:∃x:UInt8,u'=x.toNat:=⟨UInt8.ofNat u',by rw [UInt8.toNat_ofNat'];omega⟩
   have HP:Hid (varP u'=[x]):=hid (by rw [varP_lt hlt,hx];simp)
   subst hx
   go_wp2_with (at_builtin;go_must (refine zdb elem_u8 rfl _ _ rfl rfl rfl (HR.out.st.ext ((Ext.refl _).alloc _)) (HR.out.ext.trans ((Ext.refl _).alloc _)) (src_byte (x:=x) (heap_alloc_new _ _)) (by omega) (by unfold maxLen;omega) (by omega) ?_;intro v' w4 hmade);have HM:=hid hmade;clear hmade)
   go_ret
   refine ⟨_,rfl,?_⟩
   rw [←HF.out,HP.out,zbE,yae,←HR.out.len]
   exact HM.out
  ·have hlt':¬(u':Int)<128:=by omega
   obtain ⟨x,hx⟩:∃x:UInt8,u'%128+128=x.toNat:=⟨UInt8.ofNat (u'%128+128),by rw [UInt8.toNat_ofNat'];omega⟩
   obtain ⟨y,hy,hy2⟩:∃y:Nat,IntKind.u8.wrap (u':Int)=(y:Int)∧y=u'%256:=⟨u'%256,by rw [IntKind.wrap_u8];omega,rfl⟩
   have ho:bits .or .u8 (y:Int) 128=(x.toNat:Int):=by rw [u8_or128 y (by omega),←hx];congr 2;omega
   have HP:Hid (varP u'=x::varP (u'/128)):=hid (by rw [varP_ge hlt,hx];simp)
   have HU:Hid (y=u'%256):=hid hy2
   clear hx hy2
   go_wp2_with (at_builtin;go_must (refine zdb elem_u8 rfl _ _ rfl rfl rfl (HR.out.st.ext ((Ext.refl _).alloc _)) (HR.out.ext.trans ((Ext.refl _).alloc _)) (src_byte (x:=x) (heap_alloc_new _ _)) (by omega) (by unfold maxLen;omega) (by omega) ?_;intro v' w4 hmade);have HM:=hid hmade;obtain ⟨va',vc',rfl⟩:=hmade.row.shape;clear hmade)
   have HE:Hid ((xs++[x])++varP (u'/128)=l++varP u∧m+1≤n+10):=hid (by
    have h1:=HR.out.eq
    rw [HP.out] at h1
    refine ⟨by rw [←h1];simp,?_⟩
    have h2:=congrArg List.length h1
    have h3:=zaQ hu
    have h4:=HR.out.len
    have h5:=varP_pos (u'/128)
    have h6:=HLEN.out
    simp at h2
    omega)
   go_roundw
   case rel=>exact ⟨u'/128,m+1,va',vc',xs++[x],by first|rfl|go_num,rfl,by omega,HE.out.2,hid ⟨Start.row (by rw [zbE];exact HM.out.row) HM.out.own,by simp;exact HR.out.len,HM.out.ext,HE.out.1⟩⟩
   case measure=>simp [RowKit.intOf];omega
theorem MadeTo.owns {w0 w:World}{e:TypeId}{size:Nat}{v:Value}{n:Nat}{xs:List Value}(h:MadeTo w0 e size v n xs w):w.ownsRow w0.heap.size e size v n xs:=by
 obtain ⟨q1,q2⟩:=h.row
 refine ⟨q1,q2.imp id ?_⟩
 rintro ⟨g,cap,cur,rfl,_,p3⟩
 exact ⟨g,cap,cur,rfl,h.own g rfl,p3⟩
theorem MadeTo.of_owns {w0 w:World}{e:TypeId}{size:Nat}{v:Value}{n:Nat}{xs:List Value}(h:w.ownsRow w0.heap.size e size v n xs) (hx:Ext w0 w):MadeTo w0 e size v n xs w:=by
 refine ⟨?_,fun g hg=>(h.lt g hg).1,hx⟩
 obtain ⟨q1,q2⟩:=h
 refine ⟨q1,q2.imp id ?_⟩
 rintro ⟨g,cap,cur,p1,_,p3⟩
 exact ⟨g,cap,cur,p1,Nat.zero_le _,p3⟩
theorem wpList_append_str {w0 w:World}{ops:Array Oper}{rest:List Oper}{o:Oper}{a:Act}{Q:Exit→Act→World→Prop}(hgd:o.guard=none) (sl x:Operand)
 (ho:o.op=.call { callee:=.builtin .append,args:=#[sl,x],argTypes:=#[51,9] }) {v:Value}{n:Nat}{xs:List Value}{s:ByteArray}(hs:a.eval sl=v) (hx:a.eval x=.string s)
 (hm:MadeTo w0 5 1 v n xs w) (h63:n+s.size≤maxLen) (hbytes:n+s.size≤140737488355328)
 (h:∀v' w',MadeTo w0 5 1 v' (n+s.size) (xs++u8s s.data.toList) w'→wpList Tryz.prog ops Q rest (a.put o.dst v') w'):wpList Tryz.prog ops Q (o::rest) a w:=by
 obtain ⟨i,z,hi,hz,e1,e2,e3⟩:=elem_u8.info
 have hz0:i.zero=some (.int .u8 0):=by
  have:(Tryz.prog.info? 5).map (fun i=>i.zero)=some (some (.int .u8 0)):=by kernel_rfl
  rw [hi] at this;simpa using this
 exact Lib.wpList_append_own_string (P:=Tryz.prog) w hgd sl x 51 9 ho w0.heap.size 5 i Tryz.underlying51 Tryz.underlying9 hi hz0 e1 e2 v n xs hs hm.owns s hx h63 hbytes hm.ext.size
  (fun v' w' r1 r2 _=>h v' w' (MadeTo.of_owns r1 (((Chg.of_ext hm.ext).trans (Chg.of_grown r2) (fun _ _ e=>e)).ext (fun i hi e=>by have:=hm.own i e;omega))))
theorem varPutText_any (w:World) (a:Option Addr) (n c:Nat) (l:List UInt8) (s:ByteArray) (hl:Src w 1 (.slice a n c) n (u8s l)) (hnc:n≤c) (hn:n≤35184372088832) (hs:s.size≤35184372088832) :
 Calls Tryz.prog 93 #[.slice a n c,.string s] w fun e w'=>∃v,e=.returned v∧MadeTo w 5 1 v (l++(varP s.size++s.data.toList)).length (u8s (l++(varP s.size++s.data.toList))) w':=by
 have HL:=hid hl
 have hlen:=zax hl
 have hsz:s.data.toList.length=s.size:=by simp
 have hP:=zaQ (u:=s.size) (by omega)
 have hbd:(l++varP s.size).length+s.size≤140737488355328:=by rw [yae];omega
 have HBD:=hid hbd
 have HSZ:=hid hsz
 clear hl hP hbd hlen hsz
 go_enter Tryz.func93,Tryz.ntmps93
 go_wp2_with fail
 refine (varPut_any w a n c l s.size (by omega) HL.out hnc (by omega)).mono ?_
 rintro e w1 ⟨v,rfl,hm⟩
 obtain ⟨N,hN⟩:∃N,N=(l++varP s.size).length:=⟨_,rfl⟩
 rw [←hN] at hm
 have HN:=hid hN
 clear hN
 obtain ⟨va,vc,rfl⟩:=hm.row.shape
 have HM:=hid hm
 clear hm
 go_wp2_with (at_builtin;go_must (refine wpList_append_str rfl _ _ rfl rfl rfl HM.out (by unfold maxLen;rw [HN.out];have:=HBD.out;omega) (by rw [HN.out];exact HBD.out) ?_;intro v' w4 hmade);have HM4:=hid hmade;clear hmade)
 go_ret
 refine ⟨_,rfl,?_⟩
 rw [←yaj,zbE,yae,←HN.out,HSZ.out]
 exact HM4.out
theorem MadeTo.app {w0 w w':World}{e:TypeId}{size n:Nat}{v v':Value}{ys:List Value}(hown:∀g,v.ownBlock=some g→w0.heap.size≤g) (hx:Ext w0 w) (ha:Appended w e size v n ys v' w'):MadeTo w0 e size v' n ys w' :=
 ⟨ha.row,fun g hg=>by
   rcases ha.loc with e|e
   ·exact hown g (e▸hg)
   ·rw [e] at hg;cases hg;exact hx.size,
  Chg.ext ((Chg.of_ext hx).trans ha.chg (fun _ _ e=>e)) (fun i hi e=>by have:=hown i e;omega)⟩
theorem MadeTo.trans {w0 w1 w2:World}{e:TypeId}{size n:Nat}{v:Value}{xs:List Value}(hx:Ext w0 w1) (h:MadeTo w1 e size v n xs w2):MadeTo w0 e size v n xs w2 :=
 ⟨h.row,fun g hg=>Nat.le_trans hx.size (h.own g hg),hx.trans h.ext⟩
theorem row_empty {W:World}{b:Nat}{t:TypeId}(h:W.heap[b]?=some (.cells #[] t (0,0))):Row W t 1 (.slice (some ⟨b,0,none⟩) 0 0) 0 [] :=
 ⟨rfl,.inr ⟨b,0,#[],rfl,Nat.zero_le _,h,Nat.le_refl _,by unfold maxLen;omega,rfl,rfl⟩⟩
def PutTo (w:World) (l:List UInt8) (e:Ending) (w':World):Prop:=∃a c,e=.returned (.slice a l.length c)∧MadeTo w 5 1 (.slice a l.length c) l.length (u8s l) w'
theorem PutTo.of {w w':World}{l:List UInt8}{e:Ending}(h:∃v,e=.returned v∧MadeTo w 5 1 v l.length (u8s l) w'):PutTo w l e w':=by
 obtain ⟨v,rfl,h⟩:=h
 obtain ⟨a,c,rfl⟩:=h.row.shape
 exact ⟨a,c,rfl,h⟩
theorem zeb {n:Int}(h0:-9223372036854775808≤n) (h1:n≤9223372036854775807):zig n<2 ^ 64:=zig_lt h0 h1
theorem varPut' (w:World) (a:Option Addr) (n c:Nat) (l:List UInt8) (u:Nat) (hu:u<2 ^ 64) (hl:Src w 1 (.slice a n c) n (u8s l)) (hnc:n≤c) (hn:n≤70368744177664) :
 Calls Tryz.prog 92 #[.slice a n c,.int .u64 (u:Int)] w (PutTo w (l++varP u)):=(varPut_any w a n c l u hu hl hnc hn).mono fun _ _ h=>.of h
theorem zdM (w:World) (a:Option Addr) (n c:Nat) (l:List UInt8) (s:ByteArray) (hl:Src w 1 (.slice a n c) n (u8s l)) (hnc:n≤c) (hn:n≤35184372088832) (hs:s.size≤35184372088832) :
 Calls Tryz.prog 93 #[.slice a n c,.string s] w (PutTo w (l++(varP s.size++s.data.toList))):=(varPutText_any w a n c l s hl hnc hn hs).mono fun _ _ h=>.of h
theorem zdO (w:World) (a:Option Addr) (n c:Nat) (l:List UInt8) (z:Int) (h0:-9223372036854775808≤z) (h1:z≤9223372036854775807) (hl:Src w 1 (.slice a n c) n (u8s l)) (hnc:n≤c) (hn:n≤70368744177664) :
 Calls Tryz.prog 95 #[.slice a n c,.int .i64 z] w (PutTo w (l++varP (zig z))):=by
 have HL:=hid hl
 have HC:=hid (varPut' w a n c l (zig z) (zeb h0 h1) hl hnc hn)
 generalize l++varP (zig z)=L at HC ⊢
 clear hl HL
 go_enter Tryz.func95,Tryz.ntmps95
 go_wp2_with fail
 refine (zig_any z w h0 h1).mono ?_
 rintro e w' ⟨rfl,rfl⟩
 go_wp2_with fail
 refine HC.out.mono ?_
 rintro e w1 ⟨a1,c1,rfl,h1⟩
 have H1:=hid h1
 clear h1
 go_wp2_with fail
 go_ret
 exact ⟨a1,c1,rfl,H1.out⟩
theorem varR_zero {l:List UInt8}(h:(varR l).2.2≠0):(varR l).1=0∧(varR l).2.1=0:=by
 unfold varR at h ⊢
 split
 ·exact ⟨rfl,rfl⟩
 ·rename_i h10
  rw [if_neg h10] at h
  revert h
  cases l[conts l]? with
  | none=>intro _;exact ⟨rfl,rfl⟩
  | some c =>
   simp only
   split
   ·intro _;exact ⟨rfl,rfl⟩
   ·intro h;exact absurd rfl h
theorem zcF (w:World) (a:Option Addr) (n c:Nat) (l:List UInt8) (hl:Src w 1 (.slice a n c) n (u8s l)) (hn:n<4611686018427387904) (hg:HasET w) :
 Calls Tryz.prog 216 #[.slice a n c] w fun e w'=>e=.returned (.tuple #[.int .i64 (zag (varR l).1),.int .i64 ((varR l).2.1:Int),.int .i64 (varR l).2.2])∧Ext w w':=by
 have HC:=hid (zaB w a n c l hl hn hg)
 have hb:=(zaT l).1
 generalize varR l=r at *
 clear hl hg
 go_enter Tryz.func216,Tryz.ntmps216
 go_wp2_with fail
 refine HC.out.mono ?_
 rintro e w1 ⟨rfl,hx⟩
 have HX:=hid hx
 clear hx
 go_wp2_with fail
 refine (zag_any r.1 w1 hb).mono ?_
 rintro e w' ⟨rfl,rfl⟩
 go_wp2_with fail
 go_ret3
 exact ⟨rfl,HX.out⟩
end
section
open Go.RowKit Go.Sort Go.Lib
theorem zdZ {x:Nat}(h:x<256):(UInt8.ofNat x).toNat=x:=by rw [UInt8.toNat_ofNat'];omega
theorem varP_parts (u:Nat):∃init last,varP u=init++[last]∧(∀c∈init,128≤c.toNat)∧last.toNat<128∧(0<init.length→0<last.toNat)∧valL (varP u)=u:=by
 induction u using Nat.strongRecOn with
 | _ u ih =>
  by_cases h:u<128
  ·refine ⟨[],UInt8.ofNat u,by rw [varP_lt h];rfl,by simp,by rw [zdZ (by omega)];exact h,by simp,?_⟩
   rw [varP_lt h]
   simp only [valL]
   rw [zdZ (by omega)]
   omega
  ·obtain ⟨init,last,e,h1,h2,h3,h4⟩:=ih (u/128) (by omega)
   refine ⟨UInt8.ofNat (u%128+128)::init,last,by rw [varP_ge h,e];rfl,?_,h2,fun _=>?_,?_⟩
   ·intro c hc
    rcases yaq.1 hc with rfl|hc
    ·rw [zdZ (by omega)];omega
    ·exact h1 c hc
   ·rcases Nat.eq_zero_or_pos init.length with h0|h0
    ·have hi:init=[]:=yau.1 h0
     subst hi
     rw [yaP] at e
     rw [e] at h4
     simp only [valL] at h4
     omega
    ·exact h3 h0
   ·rw [varP_ge h]
    simp only [valL]
    rw [h4,zdZ (by omega)]
    omega
theorem zbu {u:Nat}(hu:u<2 ^ 64) (rest:List UInt8):varR (varP u++rest)=(u,(varP u).length,0):=by
 obtain ⟨init,last,e,h1,h2,h3,h4⟩:=varP_parts u
 have h10:=zaQ hu
 have hlen:(varP u).length=init.length+1:=by rw [e];simp
 have hl:(varP u++rest)[init.length]?=some last:=by rw [e];simp
 have hc:conts (varP u++rest)=init.length:=(conts_of (fun i hi=>by
  refine ⟨init[i],?_,h1 _ (yaM hi)⟩
  rw [e,yaj,yaN hi,yac hi])).2.1 last hl h2
 have ht:(varP u++rest).take (init.length+1)=varP u:=by rw [←hlen];exact List.take_left
 rw [varR_ok hc (by omega) hl ?_,ht,h4,hlen]
 rintro (⟨h9,hb⟩|⟨h0,hz⟩)
 ·have:valL (varP u)=valL init+last.toNat%128*128 ^ init.length:=by rw [e,valL_snoc]
  rw [h4,h9] at this
  have e9:(128:Nat) ^ 9=2 ^ 63:=by decide
  have:2≤last.toNat%128:=by omega
  have:2*128 ^ 9≤last.toNat%128*128 ^ 9:=Nat.mul_le_mul_right _ this
  omega
 ·have:=h3 h0;omega
end
end Go.Proofs.YtlmfhjipbjkcbaaGreatDoor
