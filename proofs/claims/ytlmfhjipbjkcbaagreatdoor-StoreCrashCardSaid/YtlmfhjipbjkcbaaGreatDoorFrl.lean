/- x -/
import Derived.Test.YtlmfhjipbjkcbaaGreatDoorAgg
import Derived.Test.YtlmfhjipbjkcbaaGreatDoorVbq
set_option maxHeartbeats 4000000
set_option maxRecDepth 100000
set_option linter.unusedSimpArgs false
set_option linter.unusedVariables false
namespace Go.Proofs.YtlmfhjipbjkcbaaGreatDoor
section
open Go.RowKit Go.Sort Go.Lib
def four4 (u:Nat):Array Value:=#[.int .u8 ((UInt8.ofNat (u%256)).toNat:Int),.int .u8 ((UInt8.ofNat (u/256%256)).toNat:Int),.int .u8 ((UInt8.ofNat (u/65536%256)).toNat:Int),.int .u8 ((UInt8.ofNat (u/16777216%256)).toNat:Int)]
theorem four4_u8s (u:Nat):(four4 u).toList=u8s (le4 u):=rfl
theorem b_eq (x:Nat):(((UInt8.ofNat (x%256)).toNat:Nat):Int)=((x%256:Nat):Int):=by
 rw [UInt8.toNat_ofNat'];omega
theorem four4_vals (u:Nat) (hu:u<4294967296):(#[.int .u8 ((u:Int)%256),.int .u8 ((u:Int)/256%256),.int .u8 ((u:Int)/65536%256),.int .u8 ((u:Int)/16777216)]:Array Value)=four4 u:=by
 unfold four4
 rw [b_eq,b_eq,b_eq,b_eq]
 have e1:(u:Int)%256=((u%256:Nat):Int):=by omega
 have e2:(u:Int)/256%256=((u/256%256:Nat):Int):=by omega
 have e3:(u:Int)/65536%256=((u/65536%256:Nat):Int):=by omega
 have e4:(u:Int)/16777216=((u/16777216%256:Nat):Int):=by omega
 rw [e1,e2,e3,e4]
theorem four_any (w:World) (u:Nat) (hu:u<4294967296) :
 Calls Tryz.prog 160 #[.int .u32 (u:Int)] w fun e w'=>e=.returned (.agg (four4 u))∧Ext w w':=by
 go_enter Tryz.func160,Tryz.ntmps160
 go_wp2_with fail
 refine yaE (zaZ Tryz.results160 _ _ rfl (heap_alloc_new w _) Tryz.underlying270 rfl (by kernel_rfl)) rfl ⟨by rw [←four4_vals u hu],(Ext.refl _).alloc _⟩
theorem le_or (m x i:Nat) (hx:x<256) (hb:(256*m+x)*256 ^ i<18446744073709551616) :
 bits .or .u64 ((256 ^ (i+1)*m:Nat):Int) (IntKind.u64.wrap (IntKind.u64.wrap (x:Int)*2 ^ (8*i)))=((256 ^ i*(256*m+x):Nat):Int):=by
 have hn:(256:Nat) ^ i=2 ^ (8*i):=by rw [Nat.pow_mul]
 have hp:(2:Int) ^ (8*i)=((256 ^ i:Nat):Int):=by rw [hn,Int.natCast_pow];rfl
 have h1:IntKind.u64.wrap (x:Int)=(x:Int):=by rw [IntKind.wrap_u64];omega
 have h2:x*256 ^ i≤(256*m+x)*256 ^ i:=Nat.mul_le_mul_right _ (by omega)
 rw [h1,hp,←Int.natCast_mul,show IntKind.u64.wrap ((x*256 ^ i:Nat):Int)=((x*256 ^ i:Nat):Int) by rw [IntKind.wrap_u64];omega]
 have h3:256 ^ (i+1)*m≤(256*m+x)*256 ^ i:=by
  rw [Nat.pow_succ,Nat.mul_assoc,Nat.mul_comm]
  exact Nat.mul_le_mul_right _ (by omega)
 rw [bits_or_u64_nat _ _ (by omega) (by omega)]
 congr 1
 have h4:(256:Nat) ^ (i+1)=2 ^ (8*(i+1)):=by rw [Nat.pow_mul]
 have h5:x*256 ^ i<2 ^ (8*(i+1)):=by
  rw [←h4,Nat.pow_succ,Nat.mul_comm (256 ^ i)]
  exact Nat.mul_lt_mul_of_pos_right hx (Nat.pow_pos (by decide))
 rw [h4,←Nat.two_pow_add_eq_or_of_lt h5,←h4,Nat.pow_succ,Nat.mul_add,Nat.mul_comm x,Nat.mul_assoc]
def Little1To (w:World) (ub:Nat) (u:Nat) (w':World):Prop:=∃W,Ext w W∧w'=W.setCell ⟨ub,0,none⟩ (.int .u64 (u:Int))
theorem little1_any (w:World) (ub bb i:Nat) (a:Option Addr) (n c:Nat) (l:List UInt8) (hi:i<4) (hn:n=4) (hs:Src w 1 (.slice a n c) n (u8s l)) (hu:w.cell? ⟨ub,0,none⟩=some (.int .u64 ((256 ^ (i+1)*leN (l.drop (i+1)):Nat):Int))) (hz:w.frozen? ⟨ub,0,none⟩=false) (hb:w.cell? ⟨bb,0,none⟩=some (.slice a n c)) :
 Calls Tryz.prog 229 #[.int .i64 (i:Int),.pointer (some ⟨ub,0,none⟩),.pointer (some ⟨bb,0,none⟩)] w fun e w'=>e=.returned (.tuple #[])∧Little1To w ub (256 ^ i*leN (l.drop i)) w':=by
 have hlen:=zax hs
 have hin:i<n:=by omega
 obtain ⟨b,off,x,rfl,hx,cx⟩:=byte_src hs hin
 have hw:IntKind.i64.wrap (8*(i:Int))=((8*i:Nat):Int):=by rw [IntWalk.i64_in _ (by omega)];omega
 have hd:l.drop i=x::l.drop (i+1):=by
  obtain ⟨h1,h2⟩:=yad.1 hx
  rw [←h2];exact yaA h1
 have hv:leN (l.drop i)=256*leN (l.drop (i+1))+x.toNat:=by rw [hd,leN];omega
 have hor:=le_or (leN (l.drop (i+1))) x.toNat i x.toNat_lt (by
  rw [←hv]
  have h1:=leN_lt (l.drop i)
  have h2:(l.drop i).length=4-i:=by rw [yaC];omega
  rw [h2] at h1
  have h3:leN (l.drop i)*256 ^ i<256 ^ (4-i)*256 ^ i:=Nat.mul_lt_mul_of_pos_right h1 (Nat.pow_pos (by decide))
  rw [←Nat.pow_add,show 4-i+i=4 by omega] at h3
  omega)
 rw [←hv] at hor
 obtain ⟨u0,hu0⟩:∃u0,u0=256 ^ (i+1)*leN (l.drop (i+1)):=⟨_,rfl⟩
 obtain ⟨u1,hu1⟩:∃u1,u1=256 ^ i*leN (l.drop i):=⟨_,rfl⟩
 rw [←hu0] at hor hu
 rw [←hu1] at hor ⊢
 clear hs hx hd hv hu0 hu1 hlen hn
 go_enter Tryz.func229,Tryz.ntmps229
 refine zam [] [0,1,2,3,4,5,6,7,8,9] [10] (by kernel_rfl) (by kernel_rfl) (fun _ _ dd _ _ hh=>by cases dd<;>exact hh) ?_
 simp only [zac,yab,yaa]
 refine yaF ?_
 repeat (go_big_quiet_step (fail))
 first|rw [hor]|skip
 refine yaF ?_
 intro W hw'
 have HX:Hid (Ext w W):=hid (by obtain ⟨kk,rfl⟩:=hw';exact Ext.drewN _ _)
 have hu2:W.cell? ⟨ub,0,none⟩=some (.int .u64 (u0:Int)):=by obtain ⟨kk,rfl⟩:=hw';exact hu
 have hz2:W.frozen? ⟨ub,0,none⟩=false:=by obtain ⟨kk,rfl⟩:=hw';exact hz
 clear hw' hor hu hz hb cx
 go_wp2_with fail
 go_end0
 exact ⟨rfl,W,HX.out,rfl⟩
end
section
open Go.RowKit Go.Sort Go.Lib
structure LitI (w:World) (ub bb:Nat) (a:Option Addr) (c u:Nat) (wr:World):Prop where
 ext:Ext w wr
 ubx:wr.heap[ub]?=some (.cells #[.int .u64 (u:Int)] 186 (0,0))
 bbx:wr.heap[bb]?=some (.cells #[.slice a 4 c] 51 (0,0))
theorem LitI.facts {w:World}{ub bb c u:Nat}{a:Option Addr}{wr:World}(h:LitI w ub bb a c u wr):wr.cell? ⟨ub,0,none⟩=some (.int .u64 (u:Int))∧wr.frozen? ⟨ub,0,none⟩=false∧wr.cell? ⟨bb,0,none⟩=some (.slice a 4 c) :=
 ⟨by have:=zaa h.ubx 0;simpa using this,zan h.ubx 0,by have:=zaa h.bbx 0;simpa using this⟩
theorem LitI.step {w:World}{ub bb c u v:Nat}{a:Option Addr}{wr w':World}(h:LitI w ub bb a c u wr) (hne:bb≠ub) (hub:w.heap.size≤ub) (ht:Little1To wr ub v w'):LitI w ub bb a c v w':=by
 obtain ⟨W,hx,rfl⟩:=ht
 have hu:=(hx.block (zab h.ubx)).trans h.ubx
 have hb:=(hx.block (zab h.bbx)).trans h.bbx
 refine ⟨(h.ext.trans hx).setCell hub _,?_,?_⟩
 ·have:=zaq (i:=0) hu (.int .u64 (v:Int))
  simpa using this
 ·rw [zbe hne];exact hb
theorem little_any (w:World) (a:Option Addr) (c:Nat) (l:List UInt8) (hs:Src w 1 (.slice a 4 c) 4 (u8s l)) :
 Calls Tryz.prog 185 #[.slice a 4 c] w fun e w'=>e=.returned (.int .u64 ((leN l:Nat):Int))∧Ext w w':=by
 have HS:=hid hs
 have hlen:=zax hs
 have HL:=hid hlen
 clear hs hlen
 go_enter Tryz.func185,Tryz.ntmps185
 have hm:min (4:Int) 8=4:=by decide
 go_wp2_with fail
 clear hm
 obtain ⟨ub,hub⟩:∃ub,ub=w.heap.size+1:=⟨_,rfl⟩
 obtain ⟨bb,hbb⟩:∃bb,bb=w.heap.size:=⟨_,rfl⟩
 rw [←hub,←hbb]
 have hd4:256 ^ (3+1)*leN (l.drop (3+1))=0:=by rw [List.drop_of_length_le (by rw [HL.out];omega)];rfl
 have H0:Hid (LitI w ub bb a c (256 ^ (3+1)*leN (l.drop (3+1))) ((w.alloc (.cells #[.slice a 4 c] 51)).alloc (.cells #[.int .u64 0] 186))):=hid (by
  rw [hd4,hub,hbb]
  exact ⟨((Ext.refl w).alloc _).alloc _,zaF w _ _,(((Ext.refl (w.alloc _)).alloc _).block (by simp)).trans (heap_alloc_new w _)⟩)
 generalize World.alloc _ _=W at *
 have key:∀(i:Nat),i<4→∀wr,LitI w ub bb a c (256 ^ (i+1)*leN (l.drop (i+1))) wr→Calls Tryz.prog 229 #[.int .i64 (i:Int),.pointer (some ⟨ub,0,none⟩),.pointer (some ⟨bb,0,none⟩)] wr fun e w'=>e=.returned (.tuple #[])∧LitI w ub bb a c (256 ^ i*leN (l.drop i)) w':=fun i hi wr h =>
  (little1_any wr ub bb i a 4 c l hi rfl (HS.out.ext h.ext) h.facts.1 h.facts.2.1 h.facts.2.2).mono (by rintro e w' ⟨rfl,ht⟩;exact ⟨rfl,h.step (by omega) (by omega) ht⟩)
 have HK:=hid key
 clear key hd4 hub hbb
 refine (HK.out 3 (by omega) W H0.out).mono ?_
 rintro e w1 ⟨rfl,h1⟩
 have H1:=hid h1
 clear h1
 go_wp2_with fail
 refine (HK.out 2 (by omega) w1 H1.out).mono ?_
 rintro e w2 ⟨rfl,h2⟩
 have H2:=hid h2
 clear h2
 go_wp2_with fail
 refine (HK.out 1 (by omega) w2 H2.out).mono ?_
 rintro e w3 ⟨rfl,h3⟩
 have H3:=hid h3
 clear h3
 go_wp2_with fail
 refine (HK.out 0 (by omega) w3 H3.out).mono ?_
 rintro e w4 ⟨rfl,h4⟩
 have H4:Hid (LitI w ub bb a c (leN l) w4):=hid (by simpa using h4)
 clear h4
 have c4:=H4.out.facts.1
 go_wp2_with fail
 go_ret
 exact ⟨rfl,H4.out.ext⟩
end
end Go.Proofs.YtlmfhjipbjkcbaaGreatDoor
