/- x -/
import Derived.Test.YtlmfhjipbjkcbaaGreatDoorPtc
import Derived.Deep.Slices
set_option maxHeartbeats 4000000
set_option maxRecDepth 100000
set_option linter.unusedSimpArgs false
set_option linter.unusedVariables false
namespace Go.Proofs.YtlmfhjipbjkcbaaGreatDoor
section
open Go.RowKit Go.Sort Go.Lib
def cutA (a:Option Addr) (m l:Nat):Option Addr:=if m=l then a else a.map (·.add l)
section
variable {P:Program} {t e:TypeId}
theorem run_slice_him (hu:P.underlying t=some (.slice e)) (hs:∀W,(sizeOf e).run P W=.ok 1 W) (a:Option Addr) (n c h m:Nat) (h2:h≤m) (h3:m≤c) :
 ∀W,(Instr.slice t (.slice a n c) none (some (.int .i64 (h:Int))) (some (.int .i64 (m:Int)))).run P W=.ok (.slice (cutA a m 0) h m) W:=fun W=>by
 simp [Instr.slice,Instr.sliceBounds,Instr.sliceBound,run_underlying hu,asIntOf,Sem.run_bind,Result.andThen,hs,h2,h3,cutA]
theorem zcG (hu:P.underlying t=some (.slice e)) (hs:∀W,(sizeOf e).run P W=.ok 1 W) (a:Option Addr) (n c l h:Nat) (h1:l≤h) (h2:h≤c) :
 ∀W,(Instr.slice t (.slice a n c) (some (.int .i64 (l:Int))) (some (.int .i64 (h:Int))) none).run P W=.ok (.slice (cutA a c l) (h-l) (c-l)) W:=fun W=>by
 simp [Instr.slice,Instr.sliceBounds,Instr.sliceBound,run_underlying hu,asIntOf,Sem.run_bind,Result.andThen,hs,h1,h2,cutA]
theorem run_slice_hi (hu:P.underlying t=some (.slice e)) (hs:∀W,(sizeOf e).run P W=.ok 1 W) (a:Option Addr) (n c h:Nat) (h2:h≤c) :
 ∀W,(Instr.slice t (.slice a n c) none (some (.int .i64 (h:Int))) none).run P W=.ok (.slice (cutA a c 0) h c) W:=fun W=>by
 simp [Instr.slice,Instr.sliceBounds,Instr.sliceBound,run_underlying hu,asIntOf,Sem.run_bind,Result.andThen,hs,h2,cutA]
theorem zbi (hu:P.underlying t=some (.slice e)) (hs:∀W,(sizeOf e).run P W=.ok 1 W) (a:Option Addr) (n c l:Nat) (h1:l≤n) :
 ∀W,(Instr.slice t (.slice a n c) (some (.int .i64 (l:Int))) none none).run P W=.ok (.slice (cutA a c l) (n-l) (c-l)) W:=fun W=>by
 simp [Instr.slice,Instr.sliceBounds,Instr.sliceBound,run_underlying hu,asIntOf,Sem.run_bind,Result.andThen,hs,h1,cutA]
theorem run_sliceAt_him (hu:P.underlying t=some (.slice e)) (hs:∀W,(sizeOf e).run P W=.ok 1 W) (a:Option Addr) (n c h m:Nat) (h2:h≤m) (h3:m≤c) :
 ∀W,(Instr.sliceAt t (.slice a n c) none (some (.int .i64 (h:Int))) (some (.int .i64 (m:Int)))).run P W=.ok (.slice (cutA a m 0) h m) W:=fun W=>by
 simp [Instr.sliceAt,Instr.slice,Instr.sliceBounds,Instr.sliceBound,run_underlying hu,asIntOf,Sem.run_bind,Result.andThen,hs,h2,h3,cutA]
theorem zcU (hu:P.underlying t=some (.slice e)) (hs:∀W,(sizeOf e).run P W=.ok 1 W) (a:Option Addr) (n c l h:Nat) (h1:l≤h) (h2:h≤c) :
 ∀W,(Instr.sliceAt t (.slice a n c) (some (.int .i64 (l:Int))) (some (.int .i64 (h:Int))) none).run P W=.ok (.slice (cutA a c l) (h-l) (c-l)) W:=fun W=>by
 simp [Instr.sliceAt,Instr.slice,Instr.sliceBounds,Instr.sliceBound,run_underlying hu,asIntOf,Sem.run_bind,Result.andThen,hs,h1,h2,cutA]
theorem run_sliceAt_hi (hu:P.underlying t=some (.slice e)) (hs:∀W,(sizeOf e).run P W=.ok 1 W) (a:Option Addr) (n c h:Nat) (h2:h≤c) :
 ∀W,(Instr.sliceAt t (.slice a n c) none (some (.int .i64 (h:Int))) none).run P W=.ok (.slice (cutA a c 0) h c) W:=fun W=>by
 simp [Instr.sliceAt,Instr.slice,Instr.sliceBounds,Instr.sliceBound,run_underlying hu,asIntOf,Sem.run_bind,Result.andThen,hs,h2,cutA]
theorem run_sliceAt_lo (hu:P.underlying t=some (.slice e)) (hs:∀W,(sizeOf e).run P W=.ok 1 W) (a:Option Addr) (n c l:Nat) (h1:l≤n) :
 ∀W,(Instr.sliceAt t (.slice a n c) (some (.int .i64 (l:Int))) none none).run P W=.ok (.slice (cutA a c l) (n-l) (c-l)) W:=fun W=>by
 simp [Instr.sliceAt,Instr.slice,Instr.sliceBounds,Instr.sliceBound,run_underlying hu,asIntOf,Sem.run_bind,Result.andThen,hs,h1,cutA]
end
theorem zde {w:World}{a:Option Addr}{n c l h m:Nat}{xs:List Value}(hs:Src w 1 (.slice a n c) n xs) (h1:l≤h) (h2:h≤n) (h3:h≤m) (h4:m≤c) :
 Src w 1 (.slice (cutA a m l) (h-l) (m-l)) (h-l) ((xs.drop l).take (h-l)):=by
 rcases hs with ⟨e,rfl,rfl⟩|⟨ad,c',e,hl,hc,ho⟩
 ·simp at e
  obtain ⟨rfl,rfl⟩:=e
  obtain rfl:m=0:=by omega
  obtain rfl:h=0:=by omega
  exact .inl ⟨by simp [cutA],by omega,by simp⟩
 ·simp at e
  obtain ⟨rfl,rfl⟩:=e
  refine .inr ⟨if m=l then ad else ad.add l,m-l,?_,by simp;omega,fun j u hj=>?_,fun u hu=>ho u (List.mem_of_mem_drop (List.mem_of_mem_take hu))⟩
  ·unfold cutA;split<;>rfl
  ·rw [yaT] at hj
   split at hj
   ·rename_i hlt
    rw [List.getElem?_drop] at hj
    rw [if_neg (by omega),Go.Deep.add_add]
    exact hc _ _ hj
   ·cases hj
def Start (w0 w:World) (e:TypeId) (size:Nat) (v:Value) (n:Nat) (xs:List Value):Prop :=
 (Row w e size v n xs∧∀g,v.ownBlock=some g→w0.heap.size≤g)∨∃a,v=.slice a n n∧Src w size v n xs
theorem Start.row {w0 w:World}{e:TypeId}{size:Nat}{v:Value}{n:Nat}{xs:List Value}(h:Row w e size v n xs) (ho:∀g,v.ownBlock=some g→w0.heap.size≤g):Start w0 w e size v n xs:=.inl ⟨h,ho⟩
theorem Start.ext {w0 w w':World}{e:TypeId}{size:Nat}{v:Value}{n:Nat}{xs:List Value}(h:Start w0 w e size v n xs) (hx:Ext w w'):Start w0 w' e size v n xs:=by
 rcases h with ⟨h,ho⟩|⟨a,rfl,h⟩
 ·exact .inl ⟨h.ext hx,ho⟩
 ·exact .inr ⟨a,rfl,h.ext hx⟩
structure MadeTo (w0:World) (e:TypeId) (size:Nat) (v:Value) (n:Nat) (xs:List Value) (w:World):Prop where
 row:Row w e size v n xs
 own:∀g,v.ownBlock=some g→w0.heap.size≤g
 ext:Ext w0 w
theorem zdb {P:Program}{w0 w:World}{ops:Array Oper}{rest:List Oper}{o:Oper}{a:Act}{Q:Exit→Act→World→Prop}{t e:TypeId}{size bytes:Nat}(E:ElemOk P t e size bytes) (hgd:o.guard=none) (s x:Operand)
 (ho:o.op=.call { callee:=.builtin .append,args:=#[s,x],argTypes:=#[t,t] }) {v sv:Value}{n m:Nat}{xs news:List Value}(hs:a.eval s=v) (hx:a.eval x=sv)
 (hown:Start w0 w e size v n xs) (hext:Ext w0 w) (hsrc:Src w size sv m news) (hm:0<m) (h63:n+m≤maxLen) (hbytes:(n+m)*bytes≤140737488355328)
 (h:∀v' w',MadeTo w0 e size v' (n+m) (xs++news) w'→wpList P ops Q rest (a.put o.dst v') w'):wpList P ops Q (o::rest) a w:=by
 rcases hown with ⟨hown,hnew⟩|⟨ad,rfl,hsrc0⟩
 ·refine zah E hgd s x ho hs hx hown hsrc h63 hbytes (fun v' w' ha=>h v' w' ⟨ha.row,fun g hg=>?_,?_⟩)
  ·rcases ha.loc with e|e
   ·exact hnew g (e▸hg)
   ·rw [e] at hg;cases hg;exact hext.size
  ·exact Chg.ext ((Chg.of_ext hext).trans ha.chg (fun _ _ e=>e)) (fun i hi e=>by have:=hnew i e;omega)
 ·rcases hsrc0 with ⟨e,rfl,rfl⟩|⟨ad',c',e,hl,hc,h1⟩
  ·simp at e;subst e
   refine zah E hgd s x ho hs hx (Row.nil _ _ _) hsrc h63 hbytes (fun v' w' ha=>h v' w' ⟨ha.row,fun g hg=>?_,?_⟩)
   ·rcases ha.loc with e|e
    ·rw [e] at hg;simp [Value.ownBlock] at hg
    ·rw [e] at hg;cases hg;exact hext.size
   ·exact Chg.ext ((Chg.of_ext hext).trans ha.chg (fun _ _ e=>e)) (fun i hi e=>by simp [Value.ownBlock] at e)
  ·simp at e
   obtain ⟨rfl,rfl⟩:=e
   rcases hsrc with ⟨_,rfl,_⟩|⟨sa,sc,rfl,sl,shc,_⟩
   ·omega
   obtain ⟨i,z,hi,hz,e1,e2,e3⟩:=E.info
   obtain ⟨v',w',hr,r1,r2⟩:=run_append_arg_grows (P:=P) w t o.type e i z size bytes E.und hi hz e1 e2 e3 E.pos ad' n n xs hl hc sa m sc news sl shc (by omega) h63 hbytes
   have hx2:Ext w w':=(Chg.of_grown r2).ext (fun i hi e=>by simp at e)
   refine zbq hgd s x t ho _ _ v' w' hs hx hr (h v' w' ⟨?_,fun g hg=>?_,hext.trans hx2⟩)
   ·obtain ⟨q1,q2⟩:=r1
    refine ⟨q1,q2.imp id ?_⟩
    rintro ⟨g,cap,cur,p1,_,p3⟩
    exact ⟨g,cap,cur,p1,Nat.zero_le _,p3⟩
   ·have:=(r1.lt g hg).1;have:=hext.size;omega
end
section
open Go.RowKit Go.Sort Go.Lib
theorem zcI:ElemOk Tryz.prog 51 5 1 1 :=
 ⟨Tryz.underlying51,by
   obtain ⟨i0,hi,hz0,hz1,hz2⟩:=info_parts (show (Tryz.prog.info? 5).map (fun i=>(i.zero,i.size,i.bytes))=some (some (.int .u8 0),1,1) from by kernel_rfl)
   exact ⟨i0,_,hi,hz0,hz1,hz2,rfl⟩,by decide⟩
theorem byt_src {W:World}{b:Nat}{x:UInt8}{t:TypeId}{fr:Nat×Nat}(h:W.heap[b]?=some (.cells #[.int .u8 (x.toNat:Int)] t fr)):Src W 1 (.slice (some ⟨b,0,none⟩) 1 1) 1 (u8s [x]):=by
 refine .inr ⟨_,_,rfl,rfl,fun j u hj=>?_,zaH _⟩
 rw [yak,Nat.zero_add,zaa h]
 simpa [u8s] using hj
theorem byt_conv {w:World}{a:Option Addr}{n c:Nat}{l:List UInt8}(h:Src w 1 (.slice a n c) n (u8s l)):(Go.convert 51 9 (.slice a n c)).run Tryz.prog w=.ok (.string ⟨l.toArray⟩) w:=by
 have hl:=zax h
 rcases h with ⟨e,h0,h1⟩|⟨ad,c',e,_,h2,h3⟩
 ·simp only [Value.slice.injEq] at e
  obtain ⟨rfl,rfl,rfl⟩:=e
  have:l=[]:=yau.1 (by omega)
  subst this
  exact run_convert_bytes_nil (P:=Tryz.prog) (w:=w) 51 5 Tryz.underlying51 Tryz.underlying5 0 0 9 Tryz.underlying9
 ·simp only [Value.slice.injEq] at e
  obtain ⟨rfl,_,rfl⟩:=e
  subst hl
  exact run_convert_bytes_back (P:=Tryz.prog) w 51 9 5 ad c l Tryz.underlying51 Tryz.underlying5 Tryz.underlying9 (fun j hj=>h2 j _ (by simp [u8s,yac hj]))
theorem u8s_get {L:List UInt8}{k:Nat}{x:UInt8}(h:L[k]?=some x):(u8s L)[k]?=some (.int .u8 (x.toNat:Int)):=by
 unfold u8s
 rw [yar,h];rfl
theorem u8s_set (L:List UInt8) (k:Nat) (x:UInt8):(u8s L).set k (.int .u8 (x.toNat:Int))=u8s (L.set k x):=by
 unfold u8s
 rw [List.map_set]
theorem madeB_at {w0 w:World}{t:TypeId}{a:Option Addr}{n c:Nat}{L:List UInt8}(h:MadeTo w0 t 1 (.slice a n c) n (u8s L) w) (hn:0<n) :
 ∃g,a=some ⟨g,0,none⟩∧w0.heap.size≤g∧(∀k x,L[k]?=some x→w.cell? ⟨g,k,none⟩=some (.int .u8 (x.toNat:Int)))∧∀k,w.frozen? ⟨g,k,none⟩=false:=by
 have ho:=h.own
 obtain ⟨hl,⟨e',_⟩|⟨g,cap,cur,e',hb0,hb,h1,h2,h3,h4⟩⟩:=h.row
 ·simp only [Value.slice.injEq] at e'
  omega
 ·simp only [Value.slice.injEq] at e'
  obtain ⟨rfl,_,rfl⟩:=e'
  refine ⟨g,rfl,ho g rfl,fun k x hk=>?_,fun k=>zan hb k⟩
  rw [zaa hb]
  have h5:=u8s_get hk
  rw [←h4,yaT] at h5
  split at h5
  ·simpa using h5
  ·cases h5
theorem MadeTo.setB {w0 w:World}{t:TypeId}{g n c k:Nat}{L:List UInt8}(h:MadeTo w0 t 1 (.slice (some ⟨g,0,none⟩) n c) n (u8s L) w) (x:UInt8) :
 MadeTo w0 t 1 (.slice (some ⟨g,0,none⟩) n c) n (u8s (L.set k x)) (w.setCell ⟨g,k,none⟩ (.int .u8 (x.toNat:Int))):=by
 have ho:=h.own
 have hx:=h.ext
 obtain ⟨hl,⟨e',_⟩|⟨g',cap,cur,e',hb0,hb,h1,h2,h3,h4⟩⟩:=h.row
 ·cases e'
 ·simp only [Value.slice.injEq,Option.some.injEq,Addr.mk.injEq,and_true,true_and] at e'
  obtain ⟨rfl,rfl⟩:=e'
  refine ⟨⟨by rw [zaI,List.length_set];rw [zaI] at hl;exact hl,.inr ⟨g,c,_,rfl,hb0,zaq hb _,h1,h2,by simpa using h3,?_⟩⟩,ho,hx.setCell (ho g rfl) _⟩
  rw [Array.toList_setIfInBounds,List.take_set,h4,u8s_set]
theorem u32_xor (a c:Nat) (ha:a<4294967296) (hc:c<4294967296):bits .xor .u32 (a:Int) (c:Int)=((a ^^^ c:Nat):Int):=by
 show IntKind.u32.wrap ((BitVec.ofInt 32 (a:Int) ^^^ BitVec.ofInt 32 (c:Int)).toNat:Nat)=_
 rw [BitVec.toNat_xor,BitVec.toNat_ofInt,BitVec.toNat_ofInt]
 have e1:((a:Int)%((2 ^ 32:Nat):Int)).toNat=a:=by omega
 have e2:((c:Int)%((2 ^ 32:Nat):Int)).toNat=c:=by omega
 rw [e1,e2,IntKind.wrap_u32]
 have:a ^^^ c<2 ^ 32:=Nat.xor_lt_two_pow (by omega) (by omega)
 omega
theorem u32_and15 (a:Nat) (ha:a<4294967296):bits .and .u32 (a:Int) 15=((a%16:Nat):Int):=by
 have h1:(BitVec.ofInt 32 15).toNat=2 ^ 4-1:=by decide
 show IntKind.u32.wrap ((BitVec.ofInt 32 (a:Int) &&& BitVec.ofInt 32 15).toNat:Nat)=_
 rw [BitVec.toNat_and,h1,Nat.and_two_pow_sub_one_eq_mod,BitVec.toNat_ofInt,IntKind.wrap_u32]
 omega
theorem quarter_tab (W:World) (m:Nat) (hm:m<16):(Instr.index 379 (.agg #[.int .u32 0,.int .u32 498536548,.int .u32 997073096,.int .u32 651767980,.int .u32 1994146192,.int .u32 1802195444,.int .u32 1303535960,.int .u32 1342533948,.int .u32 3988292384,.int .u32 4027552580,.int .u32 3604390888,.int .u32 3412177804,.int .u32 2607071920,.int .u32 2262029012,.int .u32 2685067896,.int .u32 3183342108]) (.int .u32 (m:Int))).run Tryz.prog W=.ok (.int .u32 ((ctab.getD m 0:Nat):Int)) W:=by
 have hm2:m=0∨m=1∨m=2∨m=3∨m=4∨m=5∨m=6∨m=7∨m=8∨m=9∨m=10∨m=11∨m=12∨m=13∨m=14∨m=15:=by omega
 clear hm
 rcases hm2 with rfl|rfl|rfl|rfl|rfl|rfl|rfl|rfl|rfl|rfl|rfl|rfl|rfl|rfl|rfl|rfl<;>(show _=_;kernel_rfl)
theorem quarter_any (k:Nat) (hk:k<4294967296) (w:World) :
 Calls Tryz.prog 212 #[.int .u32 (k:Int)] w fun e w'=>e=.returned (.int .u32 ((ctab.getD (k%16) 0:Nat):Int))∧w=w':=by
 have hb:=u32_and15 k hk
 have hm:k%16<16:=Nat.mod_lt _ (by decide)
 have hx:=quarter_tab w _ hm
 generalize k%16=m at hb hm hx ⊢
 generalize ctab.getD m 0=g at hx ⊢
 go_enter Tryz.func212,Tryz.ntmps212
 go_wp2_with fail
 go_ret
 exact ⟨rfl,rfl⟩
theorem frameSum_any (w:World) (a:Option Addr) (n c:Nat) (l:List UInt8) (hl:Src w 1 (.slice a n c) n (u8s l)) (hn:n<4611686018427387904) :
 Calls Tryz.prog 161 #[.slice a n c] w fun e w'=>e=.returned (.int .u32 (csum l:Nat))∧w=w':=by
 have HL:=hid hl
 have HN:=hid (zax hl)
 clear hl
 go_enter Tryz.func161,Tryz.ntmps161
 go_wp2_with fail
 go_loop [3,5,8] (fun s3 s5 s8=>∃(k s:Nat),k≤n∧s8=.int .i64 k∧s3=.int .u32 (s:Int)∧s<4294967296∧Hid (s=creg 4294967295 (l.take k))) (fun _ _ s8=>n-(RowKit.intOf s8).toNat)
 case atStart=>exact ⟨0,4294967295,by omega,rfl,rfl,by omega,hid rfl⟩
 case round =>
  obtain ⟨k,s,hk,rfl,rfl,hs,HS⟩:=hrel
  by_cases hlt:k<n
  ·obtain ⟨b,off,x,rfl,hx,cx⟩:=byte_src HL.out hlt
   have HNX:Hid (creg 4294967295 (l.take (k+1))=zbH 8 (s ^^^ x.toNat)):=hid (by
    rw [yao,hx,creg_append,←HS.out];rfl)
   have hx0:bits .xor .u32 (s:Int) ((x.toNat:Int)%4294967296)=((s ^^^ x.toNat:Nat):Int):=by
    rw [show (x.toNat:Int)%4294967296=(x.toNat:Int) by have:=u8_lt32 x;omega]
    exact u32_xor _ _ hs (u8_lt32 x)
   have hs1:s ^^^ x.toNat<4294967296:=Nat.xor_lt_two_pow (n:=32) hs (u8_lt32 x)
   obtain ⟨t0,ht0⟩:∃t0,t0=s ^^^ x.toNat:=⟨_,rfl⟩
   rw [←ht0] at HNX hx0 hs1
   have e1:=cstep4 t0
   have e2:=cstep4 (zbH 4 t0)
   rw [←cstepN_add] at e2
   obtain ⟨t1,ht1⟩:∃t1,t1=zbH 4 t0:=⟨_,rfl⟩
   obtain ⟨t2,ht2⟩:∃t2,t2=zbH 8 t0:=⟨_,rfl⟩
   have l1:t1<4294967296:=by rw [ht1];exact cstepN_lt 4 hs1
   have l2:t2<4294967296:=by rw [ht2];exact cstepN_lt 8 hs1
   have tl:∀i,ctab.getD i 0<4294967296:=by
    intro i
    by_cases hi:i<16
    ·have key:∀k,k<16→ctab.getD k 0<4294967296:=by decide
     exact key i hi
    ·rw [yas,List.getElem?_eq_none (by simp [ctab];omega)];decide
   rw [←ht1] at e1 e2
   rw [show zbH (4+4) t0=t2 from ht2.symm] at e2
   rw [←ht2] at HNX
   have x1:bits .xor .u32 ((t0:Int)/16) ((ctab.getD (t0%16) 0:Nat):Int)=(t1:Int):=by
    rw [e1,show (t0:Int)/16=((t0/16:Nat):Int) by omega]
    exact u32_xor _ _ (by omega) (tl _)
   have x2:bits .xor .u32 ((t1:Int)/16) ((ctab.getD (t1%16) 0:Nat):Int)=(t2:Int):=by
    rw [e2,show (t1:Int)/16=((t1/16:Nat):Int) by omega]
    exact u32_xor _ _ (by omega) (tl _)
   have HQ1:=hid (fun w=>quarter_any t0 hs1 w)
   have HQ2:=hid (fun w=>quarter_any t1 l1 w)
   generalize ctab.getD (t0%16) 0=g1 at x1 HQ1
   generalize ctab.getD (t1%16) 0=g2 at x2 HQ2
   clear ht0 hx e1 e2 ht1 ht2 tl
   go_wp2_with fail
   refine (HQ1.out _).mono ?_
   rintro e w' ⟨rfl,rfl⟩
   go_wp2_with fail
   refine (HQ2.out _).mono ?_
   rintro e w' ⟨rfl,rfl⟩
   go_wp2_with fail
   go_round
   case rel=>exact ⟨k+1,t2,by omega,by go_num,rfl,l2,hid HNX.out.symm⟩
   case measure=>simp [RowKit.intOf];omega
  ·have hxr:bits .xor .u32 (s:Int) 4294967295=((csum l:Nat):Int):=by
    have:=HS.out
    rw [yai (by have:=HN.out;omega)] at this
    unfold csum
    rw [←this]
    exact u32_xor _ _ hs (by decide)
   go_wp2_with fail
   go_ret
   exact ⟨rfl,rfl⟩
def zig (n:Int):Nat:=if 0≤n then (2*n).toNat else (-2*n-1).toNat
def zag (u:Nat):Int:=if u%2=0 then (u/2:Nat) else -((u/2:Nat):Int)-1
theorem zag_zig (n:Int):zag (zig n)=n:=by
 unfold zag zig
 split
 ·split<;>omega
 ·split<;>omega
theorem zig_lt {n:Int}(h0:-9223372036854775808≤n) (h1:n≤9223372036854775807):zig n<18446744073709551616:=by
 unfold zig;split<;>omega
theorem xor_ones (x:Nat) (h:x<18446744073709551616):x ^^^ 18446744073709551615=18446744073709551615-x:=by
 have e:=congrArg BitVec.toNat (BitVec.xor_allOnes (x:=BitVec.ofNat 64 x))
 rw [BitVec.toNat_xor,BitVec.toNat_not,BitVec.toNat_allOnes,BitVec.toNat_ofNat,Nat.mod_eq_of_lt (by omega)] at e
 exact e
theorem zig_bits (n:Int) (h0:-9223372036854775808≤n) (h1:n≤9223372036854775807):bits .xor .u64 (IntKind.u64.wrap (IntKind.u64.wrap n*2)) (IntKind.u64.wrap (n/9223372036854775808))=((zig n:Nat):Int):=by
 by_cases hn:0≤n
 ·have e1:IntKind.u64.wrap (IntKind.u64.wrap n*2)=((2*n.toNat:Nat):Int):=by rw [IntKind.wrap_u64,IntKind.wrap_u64];omega
  have e2:IntKind.u64.wrap (n/9223372036854775808)=((0:Nat):Int):=by rw [IntKind.wrap_u64];omega
  rw [e1,e2,bits_xor_u64_nat _ _ (by omega) (by omega),Nat.xor_zero]
  unfold zig;rw [if_pos hn];omega
 ·have e1:IntKind.u64.wrap (IntKind.u64.wrap n*2)=(((2*n+18446744073709551616).toNat:Nat):Int):=by rw [IntKind.wrap_u64,IntKind.wrap_u64];omega
  have e2:IntKind.u64.wrap (n/9223372036854775808)=((18446744073709551615:Nat):Int):=by rw [IntKind.wrap_u64];omega
  rw [e1,e2,bits_xor_u64_nat _ _ (by omega) (by omega),xor_ones _ (by omega)]
  unfold zig;rw [if_neg hn];omega
theorem and1_bits (u:Nat) (h:u<18446744073709551616):bits .and .u64 (u:Int) 1=((u%2:Nat):Int):=by
 have:=bits_and_u64_nat u 1 h (by decide)
 rw [show ((1:Nat):Int)=1 from rfl] at this
 rw [this,Nat.and_one_is_mod]
theorem zag_bits (u:Nat) (h:u<18446744073709551616):bits .xor .i64 ((u:Int)/2) (wrap64 (-wrap64 (bits .and .u64 (u:Int) 1)))=zag u:=by
 rw [and1_bits u h]
 have ho:u%2=0∨u%2=1:=by omega
 unfold zag
 rcases ho with ho|ho
 ·rw [ho,if_pos rfl]
  show IntKind.i64.wrap ((BitVec.ofInt 64 ((u:Int)/2) ^^^ BitVec.ofInt 64 (wrap64 (-wrap64 ((0:Nat):Int)))).toNat:Nat)=_
  rw [show wrap64 (-wrap64 ((0:Nat):Int))=0 by decide +kernel,show BitVec.ofInt 64 0=0#64 by decide,BitVec.xor_zero,BitVec.toNat_ofInt,IntKind.wrap_i64]
  omega
 ·rw [ho,if_neg (by omega)]
  show IntKind.i64.wrap ((BitVec.ofInt 64 ((u:Int)/2) ^^^ BitVec.ofInt 64 (wrap64 (-wrap64 ((1:Nat):Int)))).toNat:Nat)=_
  rw [show wrap64 (-wrap64 ((1:Nat):Int))=-1 by decide +kernel,show BitVec.ofInt 64 (-1)=BitVec.allOnes 64 by decide,BitVec.xor_allOnes,BitVec.toNat_not,BitVec.toNat_ofInt,IntKind.wrap_i64]
  omega
theorem zig_any (n:Int) (w:World) (h0:-9223372036854775808≤n) (h1:n≤9223372036854775807) :
 Calls Tryz.prog 159 #[.int .i64 n] w fun e w'=>e=.returned (.int .u64 ((zig n:Nat):Int))∧w=w':=by
 go_enter Tryz.func159,Tryz.ntmps159
 go_wp2_with fail
 go_ret
 exact ⟨congrArg (fun z=>Ending.returned (.int .u64 z)) (zig_bits n h0 h1),rfl⟩
theorem zag_any (u:Nat) (w:World) (h:u<18446744073709551616) :
 Calls Tryz.prog 259 #[.int .u64 (u:Int)] w fun e w'=>e=.returned (.int .i64 (zag u))∧w=w':=by
 go_enter Tryz.func259,Tryz.ntmps259
 go_wp2_with fail
 go_ret
 exact ⟨congrArg (fun z=>Ending.returned (.int .i64 z)) (zag_bits u h),rfl⟩
theorem make_room {P:Program}{t e:TypeId}{size bytes:Nat}(E:ElemOk P t e size bytes) (w:World) (c:Nat) (hc:c≤1000000000000) (hb:bytes≤200) :
 ∃w',(Instr.makeSlice t (.int .i64 0) (.int .i64 (c:Int))).run P w=.ok (.slice (some ⟨w.heap.size,0,none⟩) 0 c) w'∧MadeTo w e size (.slice (some ⟨w.heap.size,0,none⟩) 0 c) 0 [] w':=by
 obtain ⟨i,z,hi,hz,h1,h2,h3⟩:=E.info
 obtain ⟨w',r1,r2,r3⟩:=run_make_own (P:=P) (w:=w) w.heap.size t e i z size E.und hi hz h1 .i64 .i64 c (by rw [h2];have:=Nat.mul_le_mul hb hc;omega) (by unfold maxLen;omega) (Nat.le_refl _)
 refine ⟨w',r1,?_,fun g hg=>?_,(Chg.of_grown r3).ext (fun i hi e=>by simp at e)⟩
 ·obtain ⟨q1,q2⟩:=r2
  refine ⟨q1,q2.imp id ?_⟩
  rintro ⟨g,cap,cur,p1,_,p3⟩
  exact ⟨g,cap,cur,p1,Nat.zero_le _,p3⟩
 ·have e2:w.heap.size=g:=yaG hg;omega
theorem wpList_makeS_run {P:Program}{w:World}{ops:Array Oper}{rest:List Oper}{o:Oper}{a:Act}{Q:Exit→Act→World→Prop}(hgd:Region.wanted o (yielded ops a.tmps)=true) (t:TypeId) (l c:Operand)
 (ho:o.op=.makeSlice t l c) (lv cv v:Value) (w':World) (hl:a.eval l=lv) (hc:a.eval c=cv)
 (hr:(Instr.makeSlice t lv cv).run P w=.ok v w') (h:wpList P ops Q rest (a.put o.dst v) w') :
 wpList P ops Q (o::rest) a w:=by
 refine wpList_step fun K hK=>?_
 rw [if_pos hgd]
 unfold Oper.wp execOp
 simp only [ho,hl,hc,Sem.run_bind,hr,Result.andThen_ok,Sem.run_pure]
 exact hK _ _ h
theorem MadeTo.more {w0 w w':World}{e:TypeId}{size n m:Nat}{v v':Value}{xs ys:List Value}(h:MadeTo w0 e size v n xs w) {w1:World}(hx:Ext w w1) (ha:Appended w1 e size v (n+m) (xs++ys) v' w'):MadeTo w0 e size v' (n+m) (xs++ys) w' :=
 ⟨ha.row,fun g hg=>by
   rcases ha.loc with e|e
   ·exact h.own g (e▸hg)
   ·rw [e] at hg;cases hg;exact (h.ext.trans hx).size,((Chg.of_ext (h.ext.trans hx)).trans ha.chg (fun _ _ e=>e)).ext (fun i hi e=>by have:=h.own i e;omega)⟩
theorem MadeTo.ext' {w0 w w1:World}{e:TypeId}{size n:Nat}{v:Value}{xs:List Value}(h:MadeTo w0 e size v n xs w) (hx:Ext w w1):MadeTo w0 e size v n xs w1:=⟨h.row.ext hx,h.own,h.ext.trans hx⟩
end
section
open Go.RowKit Go.Lib Go.Sort
def u64N (x:Int):Nat:=(x%18446744073709551616).toNat
theorem u64N_lt (x:Int):u64N x<18446744073709551616:=by unfold u64N;omega
theorem u64N_wrap {x:Int}(h1:-9223372036854775808≤x) (h2:x≤9223372036854775807):IntKind.i64.wrap ((u64N x:Nat):Int)=x:=by
 rw [IntKind.wrap_i64];unfold u64N;omega
theorem u64N_u64 (x:Int):IntKind.u64.wrap x=((u64N x:Nat):Int):=by
 rw [IntKind.wrap_u64];unfold u64N;omega
def clsN (z:Nat):Nat:=if z=0 then 0 else if z<128 then 1 else if z<4096 then 2 else if z<4294967296 then 3 else 4
def clsW (k:Nat):Nat:=if k=0 then 0 else if k=1 then 7 else if k=2 then 12 else if k=3 then 32 else 64
theorem clsN_le (z:Nat):clsN z≤4:=by unfold clsN;repeat' split
                                     all_goals omega
theorem clsW_le (k:Nat):clsW k≤64:=by unfold clsW;repeat' split
                                      all_goals omega
theorem cls_fits (z:Nat) (h:z<18446744073709551616):z<2 ^ clsW (clsN z):=by
 unfold clsN
 repeat' split
 all_goals (unfold clsW;simp;try omega)
def zaJ (k:Nat):List Bool:=List.replicate k true++(if k<4 then [false] else [])
def stepD (z:Nat):List Bool:=zaJ (clsN z)++hiL (clsW (clsN z)) z
theorem markD_len {k:Nat}(h:k≤4):(zaJ k).length=min (k+1) 4:=by
 unfold zaJ
 rw [yae,List.length_replicate]
 split
 ·simp;omega
 ·simp;omega
theorem stepD_len (z:Nat):(stepD z).length≤68:=by
 unfold stepD
 have h1:=markD_len (clsN_le z)
 have h2:=clsW_le (clsN z)
 rw [yae,h1,zaG]
 omega
structure TmS where
 bits:List Bool
 step:Int
 last:Option Int
def zch (s:TmS) (t:Int):List Bool:=match s.last with
 | none=>hiL 64 (u64N t)
 | some p=>stepD (zig (IntKind.i64.wrap (IntKind.i64.wrap (t-p)-s.step)))
def zcK (s:TmS) (t:Int):TmS:=⟨s.bits++zch s t,(match s.last with|none=>0|some p=>IntKind.i64.wrap (t-p)),some t⟩
def tmS (l:List Int):TmS:=l.foldl zcK ⟨[],0,none⟩
def zcv (l:List Int):List Bool:=(tmS l).bits
theorem tmS_next {l:List Int}{i:Nat}{t:Int}(h:l[i]?=some t):tmS (l.take (i+1))=zcK (tmS (l.take i)) t:=by
 unfold tmS
 rw [yao,h];simp
theorem tmS_last:∀{l:List Int}{i:Nat},(h:i≤l.length)→(tmS (l.take i)).last=if i=0 then none else l[i-1]?
 | l,0,_=>by simp [tmS]
 | l,i+1,h=>by
  have ht:l[i]?=some l[i]:=yac (by omega)
  rw [tmS_next ht,if_neg (by omega),Nat.add_sub_cancel,ht];rfl
theorem tm_more (k:List Int):∀s:TmS,∃R,(k.foldl zcK s).bits=s.bits++R:=by
 induction k with
 | nil=>exact fun s=>⟨[],by simp⟩
 | cons t k ih =>
  intro s
  obtain ⟨R,hR⟩:=ih (zcK s t)
  exact ⟨zch s t++R,by rw [List.foldl_cons,hR];simp [zcK]⟩
theorem tm_prefix (l:List Int) (i:Nat):∃R,zcv l=(tmS (l.take i)).bits++R:=by
 obtain ⟨R,hR⟩:=tm_more (l.drop i) (tmS (l.take i))
 refine ⟨R,?_⟩
 rw [←hR]
 unfold zcv tmS
 rw [←List.foldl_append,yaS]
theorem tm_at {l:List Int}{i:Nat}{t:Int}(h:l[i]?=some t):∃R,(zcv l).drop (tmS (l.take i)).bits.length=zch (tmS (l.take i)) t++R:=by
 obtain ⟨R,hR⟩:=tm_prefix l (i+1)
 refine ⟨R,?_⟩
 rw [hR,tmS_next h]
 show ((tmS (l.take i)).bits++zch (tmS (l.take i)) t++R).drop _=_
 rw [yaj,List.drop_left]
theorem tmPart_len (s:TmS) (t:Int):(zch s t).length≤68:=by
 unfold zch
 split
 ·rw [zaG];omega
 ·exact stepD_len _
theorem tm_len (k:List Int):∀s:TmS,(k.foldl zcK s).bits.length≤s.bits.length+68*k.length:=by
 induction k with
 | nil=>intro s;simp
 | cons t k ih =>
  intro s
  have h1:=ih (zcK s t)
  have h2:=tmPart_len s t
  have h3:(zcK s t).bits.length=s.bits.length+(zch s t).length:=by simp [zcK]
  simp only [List.foldl_cons,List.length_cons]
  omega
theorem zcX (l:List Int):(zcv l).length≤68*l.length:=by
 have:=tm_len l ⟨[],0,none⟩
 simpa [zcv,tmS] using this
theorem tm_back {p t s:Int}(h1:-9223372036854775808≤t) (h2:t≤9223372036854775807) :
 IntKind.i64.wrap (s+zag (zig (IntKind.i64.wrap (IntKind.i64.wrap (t-p)-s))))=IntKind.i64.wrap (t-p)∧IntKind.i64.wrap (p+IntKind.i64.wrap (t-p))=t:=by
 rw [zag_zig]
 simp only [IntKind.wrap_i64]
 omega
end
end Go.Proofs.YtlmfhjipbjkcbaaGreatDoor
