/- x -/
import Derived.Test.YtlmfhjipbjkcbaaGreatDoorFop
import Derived.Test.YtlmfhjipbjkcbaaGreatDoorStr
import Derived.Test.YtlmfhjipbjkcbaaGreatDoorMake
set_option maxHeartbeats 4000000
set_option maxRecDepth 100000
set_option linter.unusedSimpArgs false
set_option linter.unusedVariables false
namespace Go.Proofs.YtlmfhjipbjkcbaaGreatDoor
section
open Go.RowKit Go.Sort Go.Lib
def digs:Nat→Nat→List UInt8
 | 0,_=>[]
 | k+1,n=>digs k (n/10)++[UInt8.ofNat (48+n%10)]
theorem digs_len:∀(k n:Nat),(digs k n).length=k
 | 0,_=>rfl
 | k+1,n=>by rw [digs,yae,digs_len k];rfl
def numD:Nat→List UInt8→Option Nat
 | a,[]=>some a
 | a,c::l=>if c.toNat<48∨57<c.toNat then none else numD (10*a+(c.toNat-48)) l
theorem numD_append:∀(l k:List UInt8) (a:Nat),numD a (l++k)=(numD a l).bind fun x=>numD x k
 | [],_,_=>rfl
 | c::l,k,a=>by
  rw [yaO,numD,numD]
  split
  ·rfl
  ·exact numD_append l k _
theorem numD_digs:∀(k n a:Nat),numD a (digs k n)=some (a*10 ^ k+n%10 ^ k)
 | 0,n,a=>by simp [digs,numD,Nat.mod_one]
 | k+1,n,a=>by
  rw [digs,numD_append,numD_digs k (n/10) a]
  have hc:(UInt8.ofNat (48+n%10)).toNat=48+n%10:=by
   have:n%10<10:=Nat.mod_lt _ (by omega)
   rw [UInt8.toNat_ofNat']
   omega
  show numD _ [UInt8.ofNat (48+n%10)]=_
  rw [numD,hc,if_neg (by omega),numD]
  congr 1
  have h1:n%10 ^ (k+1)=10*(n/10%10 ^ k)+n%10:=by
   rw [Nat.pow_succ,Nat.mul_comm (10 ^ k) 10,Nat.mod_mul]
   omega
  rw [h1,Nat.pow_succ]
  have h2:a*(10 ^ k*10)=10*(a*10 ^ k):=by rw [←Nat.mul_assoc,Nat.mul_comm]
  rw [h2]
  omega
theorem digs_split:∀(k j n:Nat),digs (j+k) n=digs j (n/10 ^ k)++digs k n
 | 0,j,n=>by simp [digs]
 | k+1,j,n=>by
  rw [show j+(k+1)=(j+k)+1 by omega,digs,digs_split k j (n/10),digs,yaj,Nat.div_div_eq_div_mul,show 10*10 ^ k=10 ^ (k+1) by rw [Nat.pow_succ,Nat.mul_comm]]
def digK (k n:Nat):List UInt8:=List.replicate (12-k) 0++digs k n
theorem digK_len {k:Nat}(n:Nat) (hk:k≤12):(digK k n).length=12:=by
 unfold digK
 rw [yae,List.length_replicate,digs_len]
 omega
theorem digK_step {k:Nat}(n:Nat) (hk:k<12):(digK k n).set (11-k) (UInt8.ofNat (48+n/10 ^ k%10))=digK (k+1) n:=by
 have h1:digs (k+1) n=UInt8.ofNat (48+n/10 ^ k%10)::digs k n:=by
  rw [show k+1=1+k by omega,digs_split k 1 n]
  rfl
 unfold digK
 rw [h1]
 obtain ⟨m,hm⟩:∃m,12-k=m+1:=⟨11-k,by omega⟩
 rw [hm,show 11-k=m by omega,show 12-(k+1)=m by omega,List.replicate_succ',yaj,List.set_append_right _ _ (by simp)]
 simp
theorem digK_end (n:Nat):digK 12 n=digs 12 n:=by simp [digK]
end
section
open Go.RowKit Go.Sort Go.Lib
def nameS (c:UInt8) (n:Nat):ByteArray:=lb (c::digs 12 n)
theorem nameS_eq (c:UInt8) (n:Nat):(⟨#[c]⟩:ByteArray)++⟨(digs 12 n).toArray⟩=nameS c n:=by
 apply ByteArray.ext
 simp [nameS,lb]
theorem zcY (c:UInt8) (n:Nat):(nameS c n).size=13:=by
 show ((c::digs 12 n).toArray).size=13
 simp [digs_len]
theorem stoName_any (w:World) (c:UInt8) (n:Nat) (hn:n<4611686018427387904) :
 Calls Tryz.prog 56 #[.string ⟨#[c]⟩,.int .i64 (n:Int)] w fun e w'=>e=.returned (.string (nameS c n))∧Ext w w':=by
 obtain ⟨W,hmk,hrow,hx⟩:=make_bytes w 12 (by omega)
 obtain ⟨g,hg⟩:∃g,g=w.heap.size:=⟨_,rfl⟩
 rw [←hg] at hmk hrow
 have HM:Hid (MadeTo w 5 1 (.slice (some ⟨g,0,none⟩) 12 12) 12 (u8s (digK 0 n)) W):=hid ⟨hrow,fun g' hg'=>by have e2:g=g':=yaG hg';omega,hx⟩
 clear hrow hx hg
 go_enter Tryz.func56,Tryz.ntmps56
 go_wp2_with (refine zcg rfl _ _ _ rfl _ _ _ _ rfl rfl hmk ?_)
 clear hmk
 go_loopw [6,1] (fun s6 s1 wr=>∃k:Nat,k≤12∧s6=.int .i64 (11-(k:Int))∧s1=.int .i64 ((n/10 ^ k:Nat):Int)∧Hid (MadeTo w 5 1 (.slice (some ⟨g,0,none⟩) 12 12) 12 (u8s (digK k n)) wr)) (fun s6 _ _=>((RowKit.intOf s6)+1).toNat)
 case atStart=>exact ⟨0,by omega,by go_num,by simp,HM⟩
 case round =>
  clear HM
  obtain ⟨k,hk,rfl,rfl,HM⟩:=hrel
  rcases Nat.lt_or_ge k 12 with hlt|hge
  ·obtain ⟨q,hq⟩:∃q,q=n/10 ^ k:=⟨_,rfl⟩
   rw [←hq]
   have hqn:q<4611686018427387904:=by rw [hq];exact Nat.lt_of_le_of_lt (Nat.div_le_self _ _) hn
   have HQ:=hid hq
   obtain ⟨j,hj⟩:∃j:Nat,j=11-k:=⟨_,rfl⟩
   have hji:(11:Int)-(k:Int)=(j:Int):=by omega
   rw [hji]
   have HJ:=hid hj
   have HJI:=hid hji
   obtain ⟨_,e,_,h4,h5⟩:=madeB_at HM.out (by omega)
   cases e
   have hjl:j<(digK k n).length:=by rw [digK_len n hk];omega
   have c4:=h4 _ _ (yac hjl)
   have z4:=h5 j
   have hj12:j<12:=by omega
   have HV:Hid ((UInt8.ofNat (48+q%10)).toNat=48+q%10):=hid (by
    have:q%10<10:=Nat.mod_lt _ (by omega)
    rw [UInt8.toNat_ofNat'];omega)
   clear h4 h5 hq hj hji
   go_wp2_with fail
   go_roundw
   case rel =>
    refine ⟨k+1,by omega,?_,?_,hid ?_⟩
    ·have h1:=HJI.out
     have h2:(j:Int)-1=11-((k+1:Nat):Int):=by omega
     rw [h2]
    ·have h1:n/10 ^ (k+1)=q/10:=by rw [HQ.out,Nat.div_div_eq_div_mul,Nat.pow_succ]
     rw [h1]
     rfl
    ·have h1:=HM.out.setB (k:=j) (UInt8.ofNat (48+q%10))
     rw [HV.out] at h1
     have h2:(digK k n).set j (UInt8.ofNat (48+q%10))=digK (k+1) n:=by rw [HJ.out,HQ.out];exact digK_step n hlt
     rw [h2] at h1
     have h3:((48+q%10:Nat):Int)=48+(q:Int)%10:=by omega
     rw [h3] at h1
     exact h1
   case measure =>
    simp only [RowKit.intOf]
    omega
  ·obtain rfl:k=12:=by omega
   have HM2:=HM
   rw [digK_end] at HM2
   have hcv:=byt_conv (HM2.out.row.src (zaH _))
   have hdl:=digs_len 12 n
   clear HM
   go_wp2_with fail
   go_ret
   exact ⟨by rw [←nameS_eq];rfl,HM2.out.ext⟩
end
end Go.Proofs.YtlmfhjipbjkcbaaGreatDoor
