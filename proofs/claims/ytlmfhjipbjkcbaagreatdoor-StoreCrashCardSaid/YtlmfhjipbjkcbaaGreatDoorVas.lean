/- x -/
import Derived.Test.YtlmfhjipbjkcbaaGreatDoorErs
import Derived.Sort.Walk0
set_option maxHeartbeats 4000000
set_option maxRecDepth 100000
set_option linter.unusedSimpArgs false
set_option linter.unusedVariables false
namespace Go.Proofs.YtlmfhjipbjkcbaaGreatDoor
section
open Go.RowKit Go.Sort Go.Lib
theorem HasET.ext {w w':World}(h:HasET w) (hx:Ext w w'):HasET w':=by
 have hlt:=yaf _ _ h
 unfold HasET
 rw [hx.cell hlt];exact h
theorem HasET.chg {S:Nat→Prop}{w w':World}(h:HasET w) (hx:Chg S w w') (hn:¬S 0):HasET w':=by
 have hlt:=yaf _ _ h
 unfold HasET
 rw [hx.cell hlt hn];exact h
theorem HasET.lt {w:World}(h:HasET w):0<w.heap.size:=yaf _ _ h
theorem number_nil (w:World):Calls Tryz.prog 215 #[.nilIface] w fun e w'=>e=.returned (.int .i64 0)∧Ext w w':=by
 go_enter Tryz.func215,Tryz.ntmps215
 go_wp2_with (first
  | (go_at_call 128;refine (is_nil _ _).mono ?_;rintro e w' ⟨rfl,rfl⟩)
  | (go_at_call 258;refine (as_nil _ _).mono ?_;rintro e w' ⟨rfl,rfl⟩))
 go_ret
 exact ⟨rfl,(Ext.refl w).alloc _⟩
theorem number_fault (x y:Int) (hy:y=10∨y=11) (w:World) (hg:HasET w):Calls Tryz.prog 215 #[.iface 381 (.agg #[.int .i64 x,.int .i64 y])] w fun e w'=>e=.returned (.int .i64 y)∧Ext w w':=by
 have HG:=hid hg
 clear hg
 rcases hy with rfl|rfl
 ·go_enter Tryz.func215,Tryz.ntmps215
  go_wp2_with fail
  refine (is_fault x 10 (.inl rfl) _).mono ?_
  rintro e w1 ⟨rfl,hx⟩
  go_wp2_with fail
  go_ret
  exact ⟨rfl,((Ext.refl w).alloc _).trans hx⟩
 ·go_enter Tryz.func215,Tryz.ntmps215
  go_wp2_with fail
  refine (is_fault x 11 (.inr rfl) _).mono ?_
  rintro e w1 ⟨rfl,hx⟩
  have HX:=hid hx
  have HB:Hid (w1.heap[w.heap.size]?=some (.cells #[.int .i64 0,.int .i64 0] 381 (0,0))):=hid ((hx.block (by simp)).trans (heap_alloc_new w _))
  clear hx
  go_wp2_with fail
  refine (as_hit x 11 w.heap.size _ _ w1 (HG.out.ext (((Ext.refl w).alloc _).trans HX.out)) HB.out).mono ?_
  rintro e w2 ⟨rfl,ha⟩
  have c1:w2.cell? ⟨w.heap.size,1,none⟩=some (.int .i64 11):=by have:=zaa ha.blk 1;simpa using this
  have HA:=hid ha.chg
  clear ha
  go_wp2_with fail
  go_ret
  exact ⟨rfl,((Chg.of_ext (S:=fun b=>b=w.heap.size) (((Ext.refl w).alloc _).trans HX.out)).trans HA.out (fun _ _ e=>e)).ext (fun i hi e=>by omega)⟩
def valL:List UInt8→Nat
 | []=>0
 | c::l=>c.toNat%128+128*valL l
theorem valL_lt (l:List UInt8):valL l<128 ^ l.length:=by
 induction l with
 | nil=>simp [valL]
 | cons c l ih =>
  simp only [valL,List.length_cons,Nat.pow_succ]
  have:=Nat.mod_lt c.toNat (show 0<128 by omega)
  omega
theorem valL_snoc (l:List UInt8) (c:UInt8):valL (l++[c])=valL l+(c.toNat%128)*128 ^ l.length:=by
 induction l with
 | nil=>simp [valL]
 | cons d l ih =>
  simp only [yaO,valL,ih,List.length_cons,Nat.pow_succ,Nat.mul_add]
  rw [Nat.mul_left_comm,Nat.mul_comm (128 ^ l.length) 128,Nat.add_assoc]
def conts:List UInt8→Nat
 | []=>0
 | c::l=>if 128≤c.toNat then conts l+1 else 0
def varR (l:List UInt8):Nat×Nat×Int :=
 if 10≤conts l then (0,0,11)
 else match l[conts l]? with
  | none=>(0,0,10)
  | some c=>if (conts l=9∧1<c.toNat)∨(0<conts l∧c.toNat=0) then (0,0,11) else (valL (l.take (conts l+1)),conts l+1,0)
theorem conts_of {l:List UInt8}{k:Nat}(h:∀i,i<k→∃c,l[i]?=some c∧128≤c.toNat):k≤conts l∧(∀c,l[k]?=some c→c.toNat<128→conts l=k)∧(l[k]?=none→conts l=k):=by
 induction k generalizing l with
 | zero =>
  refine ⟨Nat.zero_le _,fun c hc hlt=>?_,fun hn=>?_⟩
  ·cases l with
   | nil=>simp at hc
   | cons d l=>simp at hc;subst hc;simp [conts];omega
  ·cases l with
   | nil=>rfl
   | cons d l=>simp at hn
 | succ k ih =>
  obtain ⟨c,hc,hge⟩:=h 0 (by omega)
  cases l with
  | nil=>simp at hc
  | cons d l =>
   simp at hc;subst hc
   obtain ⟨h1,h2,h3⟩:=ih (l:=l) (fun i hi=>by simpa using h (i+1) (by omega))
   simp only [conts,if_pos hge,yab]
   exact ⟨by omega,fun c hc hlt=>by rw [h2 c hc hlt],fun hn=>by rw [h3 hn]⟩
end
section
open Go.RowKit Go.Sort Go.Lib
theorem ret3 {a a' b b':Int}(h:a=a') (h':b=b'):Ending.returned (.tuple #[.int .u64 a,.int .i64 b,.nilIface])=.returned (.tuple #[.int .u64 a',.int .i64 b',.nilIface]):=by rw [h,h']
def errOf (x e:Int):Value:=if e=0 then .nilIface else .iface 381 (.agg #[.int .i64 x,.int .i64 e])
theorem varR_big {l:List UInt8}(h:10≤conts l):varR l=(0,0,11):=by unfold varR;rw [if_pos h]
theorem varR_end {l:List UInt8}{k:Nat}(h:conts l=k) (hk:k<10) (hn:l[k]?=none):varR l=(0,0,10):=by
 subst h;unfold varR;rw [if_neg (by omega),hn]
theorem varR_bad {l:List UInt8}{k:Nat}{c:UInt8}(h:conts l=k) (hk:k<10) (hc:l[k]?=some c) (hb:(k=9∧1<c.toNat)∨(0<k∧c.toNat=0)):varR l=(0,0,11):=by
 subst h;unfold varR;rw [if_neg (by omega),hc];simp only;rw [if_pos hb]
theorem varR_ok {l:List UInt8}{k:Nat}{c:UInt8}(h:conts l=k) (hk:k<10) (hc:l[k]?=some c) (hb:¬((k=9∧1<c.toNat)∨(0<k∧c.toNat=0))):varR l=(valL (l.take (k+1)),k+1,0):=by
 subst h;unfold varR;rw [if_neg (by omega),hc];simp only;rw [if_neg hb]
theorem u8_and127 (x:UInt8):bits .and .u8 (x.toNat:Int) 127=((x.toNat%128:Nat):Int):=by
 have h:(BitVec.ofInt 8 127).toNat=2 ^ 7-1:=by decide
 have hx:=x.toNat_lt
 have key:(BitVec.ofInt 8 (x.toNat:Int) &&& BitVec.ofInt 8 127).toNat=x.toNat%2 ^ 7:=by
  rw [BitVec.toNat_and,h,Nat.and_two_pow_sub_one_eq_mod,BitVec.toNat_ofInt]
  congr 1
  omega
 show IntKind.u8.wrap ((BitVec.ofInt 8 (x.toNat:Int) &&& BitVec.ofInt 8 127).toNat:Nat)=_
 rw [key,IntKind.wrap_u8]
 omega
theorem u64_or_nat (a b:Int):∃c:Nat,bits .or .u64 a b=(c:Int)∧c<18446744073709551616:=by
 refine ⟨((BitVec.ofInt 64 a ||| BitVec.ofInt 64 b).toNat),?_,BitVec.isLt _⟩
 show IntKind.u64.wrap ((BitVec.ofInt 64 a ||| BitVec.ofInt 64 b).toNat:Nat)=_
 have:=(BitVec.ofInt 64 a ||| BitVec.ofInt 64 b).isLt
 rw [IntKind.wrap_u64]
 omega
theorem scan_step {u k x:Nat}(hu:u<128 ^ k) (hk:k≤9) (hx:x<128) (h9:k=9→x≤1) :
 bits .or .u64 (u:Int) (IntKind.u64.wrap ((x:Int)*2 ^ (7*k)))=((u+x*128 ^ k:Nat):Int):=by
 have hp:(128:Nat) ^ k=2 ^ (7*k):=by rw [show (128:Nat)=2 ^ 7 by rfl,←Nat.pow_mul]
 have hb:x*128 ^ k<2 ^ 64-128 ^ k+1:=by
  have:k=0∨k=1∨k=2∨k=3∨k=4∨k=5∨k=6∨k=7∨k=8∨k=9:=by omega
  rcases this with rfl|rfl|rfl|rfl|rfl|rfl|rfl|rfl|rfl|rfl<;>omega
 have hpos:0<128 ^ k:=Nat.pow_pos (by omega)
 have hlt:u+x*128 ^ k<2 ^ 64:=by
  have:(128:Nat) ^ k≤2 ^ 64:=by rw [hp];exact yaQ (by omega) (by omega)
  omega
 have e2:((x:Int)*2 ^ (7*k))=((x*128 ^ k:Nat):Int):=by rw [hp];simp
 rw [e2]
 have e3:IntKind.u64.wrap (((x*128 ^ k:Nat)):Int)=((x*128 ^ k:Nat):Int):=by rw [IntKind.wrap_u64];omega
 rw [e3]
 have key:(BitVec.ofInt 64 (u:Int) ||| BitVec.ofInt 64 ((x*128 ^ k:Nat):Int)).toNat=u+x*128 ^ k:=by
  rw [BitVec.toNat_or,BitVec.toNat_ofInt,BitVec.toNat_ofInt]
  have a1:((u:Int)%((2 ^ 64:Nat):Int)).toNat=u:=by omega
  have a2:(((x*128 ^ k:Nat):Int)%((2 ^ 64:Nat):Int)).toNat=x*128 ^ k:=by omega
  rw [a1,a2,Nat.or_comm,hp,Nat.mul_comm,←Nat.two_pow_add_eq_or_of_lt (by rw [←hp];exact hu)]
  omega
 show IntKind.u64.wrap ((BitVec.ofInt 64 (u:Int) ||| BitVec.ofInt 64 ((x*128 ^ k:Nat):Int)).toNat:Nat)=_
 rw [key,IntKind.wrap_u64]
 omega
theorem scan_any (w:World) (a:Option Addr) (n c:Nat) (l:List UInt8) (hl:Src w 1 (.slice a n c) n (u8s l)) (hn:n<4611686018427387904) :
 Calls Tryz.prog 214 #[.slice a n c] w fun e w'=>(∃x,e=.returned (.tuple #[.int .u64 ((varR l).1:Int),.int .i64 ((varR l).2.1:Int),errOf x (varR l).2.2]))∧w=w':=by
 have HL:=hid hl
 have HN:=hid (zax hl)
 clear hl
 go_enter Tryz.func214,Tryz.ntmps214
 go_wp2_with fail
 go_loop [2,9] (fun u i=>∃k u':Nat,k≤n∧k≤10∧i=.int .i64 k∧u=.int .u64 u'∧Hid ((∀i,i<k→∃c,l[i]?=some c∧128≤c.toNat)∧(k≤9→u'=valL (l.take k)))) (fun _ i=>n-(RowKit.intOf i).toNat)
 case atStart=>exact ⟨0,0,by omega,by omega,rfl,rfl,hid ⟨fun i h=>by omega,fun _=>rfl⟩⟩
 case round =>
  obtain ⟨k,u',hk,hk10,rfl,rfl,HI⟩:=hrel
  by_cases hlt:k<n
  ·obtain ⟨b,off,x,rfl,hx,x0⟩:=byte_src HL.out hlt
   have HX:=hid hx
   clear hx
   have hand:=u8_and127 x
   obtain ⟨m,hm,hm128⟩:∃m,m=x.toNat%128∧m<128:=⟨_,rfl,Nat.mod_lt _ (by omega)⟩
   rw [←hm] at hand
   have HM:=hid hm
   clear hm
   by_cases h10:k=10
   ·subst h10
    have HV:Hid (varR l=(0,0,11)):=hid (varR_big (conts_of HI.out.1).1)
    have hn10:10≤n:=by omega
    go_wp2_with fail
    go_ret3
    rw [HV.out]
    exact ⟨⟨_,rfl⟩,rfl⟩
   ·have h10':((k:Int)==10)=false:=yam.2 (by omega)
    by_cases h128:128≤x.toNat
    ·have h128':(128:Int)≤(x.toNat:Int):=by omega
     go_wp2_with fail
     obtain ⟨u2,hu2,_⟩:=u64_or_nat (u':Int) (IntKind.u64.wrap ((m:Int)*2 ^ (7*k)))
     have HU:Hid (k+1≤9→u2=valL (l.take (k+1))):=hid (fun h9=>by
      have h1:=HI.out.2 (by omega)
      have h2:u'<128 ^ k:=by
       have:=valL_lt (l.take k)
       rw [←h1,yaB,Nat.min_eq_left (by rw [HN.out];exact hk)] at this
       exact this
      have h3:=scan_step (x:=m) h2 (by omega) hm128 (fun e=>by have:=HM.out;omega)
      rw [hu2] at h3
      have h4:u2=u'+m*128 ^ k:=by omega
      rw [h4,yao,HX.out]
      simp only [Option.toList_some]
      rw [valL_snoc,yaB,Nat.min_eq_left (by rw [HN.out];exact hk),←h1,←HM.out])
     have HC:Hid (∀i,i<k+1→∃c,l[i]?=some c∧128≤c.toNat):=hid (fun i hi=>by
      rcases Nat.lt_or_ge i k with h|h
      ·exact HI.out.1 i h
      ·obtain rfl:i=k:=by omega
       exact ⟨x,HX.out,h128⟩)
     go_round
     case rel=>exact ⟨k+1,u2,by omega,by omega,by go_num,by rw [←hu2],hid ⟨HC.out,HU.out⟩⟩
     case measure=>simp [RowKit.intOf];omega
    ·have h128':(x.toNat:Int)<128:=by omega
     have HK:Hid (conts l=k):=hid ((conts_of HI.out.1).2.1 x HX.out (by omega))
     by_cases hbad:(k=9∧1<x.toNat)∨(0<k∧x.toNat=0)
     ·have HV:Hid (varR l=(0,0,11)):=hid (varR_bad HK.out (by omega) HX.out hbad)
      go_wp2_with fail
      all_goals first
       | (exfalso;omega)
       | (go_ret3;rw [HV.out];exact ⟨⟨_,rfl⟩,rfl⟩)
     ·have HV:Hid (varR l=(valL (l.take (k+1)),k+1,0)):=hid (varR_ok HK.out (by omega) HX.out hbad)
      have HU:Hid (bits .or .u64 (u':Int) (IntKind.u64.wrap ((m:Int)*2 ^ (7*k)))=(valL (l.take (k+1)):Int)):=hid (by
       have h1:=HI.out.2 (by omega)
       have h2:u'<128 ^ k:=by
        have:=valL_lt (l.take k)
        rw [←h1,yaB,Nat.min_eq_left (by rw [HN.out];exact hk)] at this
        exact this
       rw [scan_step (x:=m) h2 (by omega) hm128 (fun e=>by have:=HM.out;omega),yao,HX.out]
       simp only [Option.toList_some]
       rw [valL_snoc,yaB,Nat.min_eq_left (by rw [HN.out];exact hk),←h1,←HM.out])
      go_wp2_with fail
      all_goals first
       | (exfalso;omega)
       | (go_ret3;rw [HV.out];exact ⟨⟨0,ret3 HU.out (by first|(show (10:Int)=_;simp only;omega)|(show (k:Int)+1=_;simp only;omega)|(show (1:Int)=_;simp only;omega))⟩,rfl⟩)
  ·obtain rfl:k=n:=by omega
   have HO:Hid (varR l=(0,0,if 10≤k then 11 else 10)):=hid (by
    obtain ⟨c1,_,c3⟩:=conts_of HI.out.1
    have hno:l[k]?=none:=List.getElem?_eq_none (by have:=HN.out;omega)
    split
    ·exact varR_big (by omega)
    ·exact varR_end (c3 hno) (by omega) hno)
   by_cases h10:10≤k
   ·have HV:Hid (varR l=(0,0,11)):=hid (by rw [HO.out,if_pos h10])
    go_wp2_with fail
    go_ret3
    rw [HV.out]
    exact ⟨⟨_,rfl⟩,rfl⟩
   ·have HV:Hid (varR l=(0,0,10)):=hid (by rw [HO.out,if_neg h10])
    go_wp2_with fail
    go_ret3
    rw [HV.out]
    exact ⟨⟨_,rfl⟩,rfl⟩
end
end Go.Proofs.YtlmfhjipbjkcbaaGreatDoor
