/- x -/
import Derived.Test.YtlmfhjipbjkcbaaGreatDoorVas
import Derived.Test.YtlmfhjipbjkcbaaGreatDoorDlp
set_option maxHeartbeats 4000000
set_option maxRecDepth 100000
set_option linter.unusedSimpArgs false
set_option linter.unusedVariables false
namespace Go.Proofs.YtlmfhjipbjkcbaaGreatDoor
open Go.RowKit Go.Sort Go.Lib
theorem varR_err (l:List UInt8):(varR l).2.2=0∨(varR l).2.2=10∨(varR l).2.2=11:=by
 unfold varR
 split
 ·exact .inr (.inr rfl)
 ·split
  ·exact .inr (.inl rfl)
  ·split
   ·exact .inr (.inr rfl)
   ·exact .inl rfl
theorem conts_lt_of_some {l:List UInt8}{c:UInt8}(h:l[conts l]?=some c):conts l<l.length:=(yad.1 h).1
theorem valL_le (l:List UInt8) (k:Nat) (hk:k≤8):valL (l.take (k+1))<2 ^ 63:=by
 have h1:=valL_lt (l.take (k+1))
 have h2:(l.take (k+1)).length≤9:=by rw [yaB];omega
 have h3:128 ^ (l.take (k+1)).length≤128 ^ 9:=yaQ (by omega) h2
 have:(128:Nat) ^ 9=2 ^ 63:=by decide
 omega
theorem zaT (l:List UInt8):(varR l).1<2 ^ 64∧(varR l).2.1≤l.length∧(varR l).2.1≤10∧((varR l).2.2=0→0<(varR l).2.1):=by
 unfold varR
 split
 ·simp
 ·rename_i h10
  split
  ·simp
  ·rename_i c hc
   have hlt:=conts_lt_of_some hc
   split
   ·simp
   ·rename_i hb
    refine ⟨?_,by simp only;omega,by simp only;omega,by simp⟩
    simp only
    by_cases h8:conts l≤8
    ·have:=valL_le l (conts l) h8;omega
    ·have h9:conts l=9:=by omega
     have hc1:c.toNat≤1:=by
      rcases Nat.lt_or_ge 1 c.toNat with h|h
      ·exact absurd (.inl ⟨h9,h⟩) hb
      ·exact h
     rw [yao,hc]
     simp only [Option.toList_some]
     rw [valL_snoc]
     have h1:=valL_lt (l.take (conts l))
     have h2:(l.take (conts l)).length=9:=by rw [yaB];omega
     rw [h2] at h1 ⊢
     have:(128:Nat) ^ 9=2 ^ 63:=by decide
     have:c.toNat%128≤1:=by omega
     have:c.toNat%128*128 ^ 9≤1*128 ^ 9:=Nat.mul_le_mul_right _ this
     omega
theorem zaB (w:World) (a:Option Addr) (n c:Nat) (l:List UInt8) (hl:Src w 1 (.slice a n c) n (u8s l)) (hn:n<4611686018427387904) (hg:HasET w) :
 Calls Tryz.prog 167 #[.slice a n c] w fun e w'=>e=.returned (.tuple #[.int .u64 ((varR l).1:Int),.int .i64 ((varR l).2.1:Int),.int .i64 (varR l).2.2])∧Ext w w':=by
 have HL:=hid hl
 have HG:=hid hg
 clear hl hg
 obtain ⟨u,k,e,hv⟩:∃u k e,varR l=(u,k,e):=⟨_,_,_,rfl⟩
 have herr:=varR_err l
 rw [hv] at herr
 have HV:=hid hv
 clear hv
 rcases herr with he|he
 ·simp only at he
  subst he
  go_enter Tryz.func167,Tryz.ntmps167
  go_wp2_with fail
  refine (scan_any w a n c l HL.out hn).mono ?_
  rintro e' w1 ⟨⟨x,rfl⟩,rfl⟩
  rw [HV.out]
  simp only [errOf,if_true]
  go_wp2_with fail
  refine (number_nil _).mono ?_
  rintro e' w1 ⟨rfl,hx⟩
  go_wp2_with fail
  go_ret3
  rw [HV.out]
  exact ⟨rfl,hx⟩
 ·simp only at he
  have he0:e≠0:=by omega
  go_enter Tryz.func167,Tryz.ntmps167
  go_wp2_with fail
  refine (scan_any w a n c l HL.out hn).mono ?_
  rintro e' w1 ⟨⟨x,rfl⟩,rfl⟩
  rw [HV.out]
  simp only [errOf,if_neg he0]
  go_wp2_with fail
  refine (number_fault x e he _ HG.out).mono ?_
  rintro e' w1 ⟨rfl,hx⟩
  go_wp2_with fail
  go_ret3
  rw [HV.out]
  exact ⟨rfl,hx⟩
def txtR (l:List UInt8) (most:Int):List UInt8×Nat×Int :=
 if (varR l).2.2≠0 then ([],0,(varR l).2.2)
 else if most<0∨most<(varR l).1 then ([],0,3)
 else if l.length-(varR l).2.1<(varR l).1 then ([],0,10)
 else ((l.drop (varR l).2.1).take (varR l).1,(varR l).2.1+(varR l).1,0)
theorem conv_text {w:World}{a:Option Addr}{n c:Nat}{l:List UInt8}(h:Src w 1 (.slice a n c) n (u8s l)):(Go.convert 51 9 (.slice a n c)).run Tryz.prog w=.ok (.string ⟨l.toArray⟩) w:=by
 have hl:=zax h
 rcases h with ⟨e,h0,h1⟩|⟨ad,c',e,_,h2,h3⟩
 ·simp only [Value.slice.injEq] at e
  obtain ⟨rfl,rfl,rfl⟩:=e
  have:l=[]:=yau.1 (by omega)
  subst this
  exact run_convert_bytes_nil (P:=Tryz.prog) (w:=w) 51 5 Tryz.underlying51 Tryz.underlying5 0 0 9 Tryz.underlying9
 ·simp only [Value.slice.injEq] at e
  obtain ⟨rfl,_,rfl⟩:=e
  subst hl
  exact run_convert_bytes_back (P:=Tryz.prog) w 51 9 5 ad c l Tryz.underlying51 Tryz.underlying5 Tryz.underlying9 (fun j hj=>h2 j _ (by simp [u8s,yac hj]))
theorem sz_u8:∀W,(sizeOf 5).run Tryz.prog W=.ok 1 W:=fun _=>by kernel_rfl
theorem zdd (w:World) (a:Option Addr) (n c:Nat) (l:List UInt8) (most:Nat) (hm:most<4294967296) (hl:Src w 1 (.slice a n c) n (u8s l)) (hnc:n≤c) (hn:n<4611686018427387904) (hg:HasET w) :
 Calls Tryz.prog 169 #[.slice a n c,.int .i64 (most:Int)] w fun e w'=>e=.returned (.tuple #[.string ⟨(txtR l most).1.toArray⟩,.int .i64 ((txtR l most).2.1:Int),.int .i64 (txtR l most).2.2])∧Ext w w':=by
 have HL:=hid hl
 have HG:=hid hg
 have hlen:=zax hl
 clear hl hg
 obtain ⟨u,k,e,hv⟩:∃u k e,varR l=(u,k,e):=⟨_,_,_,rfl⟩
 obtain ⟨hb1,hb2,hb3,_⟩:=zaT l
 rw [hv] at hb1 hb2 hb3
 simp only at hb1 hb2 hb3
 rw [hlen] at hb2
 have HV:=hid hv
 have HLEN:=hid hlen
 clear hv hlen
 by_cases he:e=0
 ·subst he
  by_cases h1:(most:Int)<(u:Int)
  ·have HT:Hid (txtR l most=([],0,3)):=hid (by unfold txtR;rw [HV.out];simp only;rw [if_neg (by omega),if_pos (.inr h1)])
   go_enter Tryz.func169,Tryz.ntmps169
   go_wp2_with (go_at_call 167;refine (zaB w a n c l HL.out hn HG.out).mono ?_;rw [HV.out];rintro e' w1 ⟨rfl,hx⟩;have HX:=hid hx;clear hx)
   go_ret3
   rw [HT.out]
   exact ⟨rfl,HX.out⟩
  ·obtain ⟨r,hr⟩:∃r:Nat,r=n-k:=⟨_,rfl⟩
   have hnk:(n:Int)-(k:Int)=(r:Int):=by omega
   by_cases h2:r<u
   ·have h2':(r:Int)<(u:Int):=by omega
    have HT:Hid (txtR l most=([],0,10)):=hid (by unfold txtR;rw [HV.out];simp only;rw [if_neg (by omega),if_neg (by omega),if_pos (by rw [HLEN.out];omega)])
    go_enter Tryz.func169,Tryz.ntmps169
    go_wp2_with (go_at_call 167;refine (zaB w a n c l HL.out hn HG.out).mono ?_;rw [HV.out];rintro e' w1 ⟨rfl,hx⟩;have HX:=hid hx;clear hx)
    go_ret3
    rw [HT.out]
    exact ⟨rfl,HX.out⟩
   ·have h2':¬(r:Int)<(u:Int):=by omega
    have HT:Hid (txtR l most=((l.drop k).take u,k+u,0)):=hid (by unfold txtR;rw [HV.out];simp only;rw [if_neg (by omega),if_neg (by omega),if_neg (by rw [HLEN.out];omega)])
    obtain ⟨a',c',hs1,hs2,hsrc⟩:∃a' c',(∀W,(Instr.slice 51 (.slice a n c) (some (.int .i64 (k:Int))) (some (.int .i64 ((k:Int)+(u:Int)))) none).run Tryz.prog W=.ok (.slice a' u c') W)∧(∀W,(Instr.sliceAt 51 (.slice a n c) (some (.int .i64 (k:Int))) (some (.int .i64 ((k:Int)+(u:Int)))) none).run Tryz.prog W=.ok (.slice a' u c') W)∧Src w 1 (.slice a' u c') u (u8s ((l.drop k).take u)):=by
     have e:k+u-k=u:=by omega
     refine ⟨cutA a c k,c-k,fun W=>?_,fun W=>?_,?_⟩
     ·have:=zcG Tryz.underlying51 sz_u8 a n c k (k+u) (by omega) (by omega) W
      rw [e] at this
      simpa using this
     ·have:=zcU Tryz.underlying51 sz_u8 a n c k (k+u) (by omega) (by omega) W
      rw [e] at this
      simpa using this
     ·have:=zde (h:=k+u) (l:=k) (m:=c) HL.out (by omega) (by omega) (by omega) (Nat.le_refl _)
      rw [e] at this
      rw [show u8s ((l.drop k).take u)=((u8s l).drop k).take u by simp [u8s,List.map_take,List.map_drop]]
      exact this
    have HSRC:=hid hsrc
    clear hsrc
    go_enter Tryz.func169,Tryz.ntmps169
    go_wp2_with (go_at_call 167;refine (zaB w a n c l HL.out hn HG.out).mono ?_;rw [HV.out];rintro e' w1 ⟨rfl,hx⟩;have HX:=hid hx;have hcv:=conv_text (HSRC.out.ext hx);clear hx)
    go_ret3
    rw [HT.out]
    exact ⟨rfl,HX.out⟩
 ·have HT:Hid (txtR l most=([],0,e)):=hid (by unfold txtR;rw [HV.out];simp only;rw [if_pos he])
  have he':(e != 0)=true:=by simpa using he
  go_enter Tryz.func169,Tryz.ntmps169
  go_wp2_with (go_at_call 167;refine (zaB w a n c l HL.out hn HG.out).mono ?_;rw [HV.out];rintro e' w1 ⟨rfl,hx⟩;have HX:=hid hx;clear hx)
  go_ret3
  rw [HT.out]
  exact ⟨rfl,HX.out⟩
end Go.Proofs.YtlmfhjipbjkcbaaGreatDoor
