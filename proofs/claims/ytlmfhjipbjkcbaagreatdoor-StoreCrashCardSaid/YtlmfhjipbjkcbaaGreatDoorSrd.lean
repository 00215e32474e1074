/- x -/
import Derived.Test.YtlmfhjipbjkcbaaGreatDoorVbq
import Derived.Test.YtlmfhjipbjkcbaaGreatDoorRf12
set_option maxHeartbeats 8000000
set_option maxRecDepth 100000
set_option linter.unusedSimpArgs false
set_option linter.unusedVariables false
namespace Go.Proofs.YtlmfhjipbjkcbaaGreatDoor
section
open Go.RowKit Go.Sort Go.Lib
def zcP (s:ByteArray):List UInt8:=varP s.size++s.data.toList
def zbB (l:List ByteArray):List UInt8:=l.flatMap zcP
def serB (l:List ByteArray):List UInt8:=varP l.length++zbB l
theorem namesB_snoc (l:List ByteArray) (s:ByteArray):zbB (l++[s])=zbB l++zcP s:=by simp [zbB]
theorem nameBy_len {s:ByteArray}(h:s.size≤1000):(zcP s).length≤1010:=by
 have h1:=zaQ (u:=s.size) (by omega)
 have h2:s.data.toList.length=s.size:=by simp
 unfold zcP
 rw [yae];omega
theorem row_le {w:World}{e:TypeId}{size n m c:Nat}{a:Option Addr}{xs:List Value}(h:Row w e size (.slice a m c) n xs):m≤c:=by
 obtain ⟨_,⟨e,_⟩|⟨g,cap,cur,e,_,_,h2,_⟩⟩:=h
 ·simp at e;omega
 ·simp at e;omega
structure BytesR (w:World) (xs:List UInt8) (n:Nat) (v:Value) (wr:World):Prop where
 st:MadeTo w 5 1 v n (u8s xs) wr
 len:n=xs.length
theorem dict_bytes {w:World}{d mb:Nat}{l:List ByteArray}(h:DictAt w d mb l) (hz:∀s∈l,s.size≤1000) :
 Calls Tryz.prog 117 #[.pointer (some ⟨d,0,none⟩)] w fun e w'=>∃v,e=.returned v∧MadeTo w 5 1 v (serB l).length (u8s (serB l)) w':=by
 have hc:=h.cell
 have hfew:=h.few
 have hl:=fun ty=>h.map.run_len (P:=Tryz.prog) Tryz.underlying288 ty
 rw [zcV] at hl
 have H:=hid h
 have HZ:=hid hz
 clear h hz
 go_enter Tryz.func117,Tryz.ntmps117
 go_wp2_with (go_at_call 181;refine (zdl H.out).mono ?_;rintro e w' ⟨rfl,rfl⟩)
 refine (varPut_any w none 0 0 [] l.length (by omega) (.inl ⟨rfl,rfl,rfl⟩) (Nat.le_refl _) (by omega)).mono ?_
 rintro e w1 ⟨v,rfl,hm⟩
 rw [yaP] at hm
 obtain ⟨N,hN⟩:∃N,N=(varP l.length).length:=⟨_,rfl⟩
 have hN10:N≤10:=by rw [hN];exact zaQ (by omega)
 rw [←hN] at hm
 obtain ⟨va,vc,rfl⟩:=hm.row.shape
 have HM:Hid (BytesR w (varP l.length++zbB (l.take 0)) N (.slice va N vc) w1):=hid ⟨by simpa [zbB] using hm,by simpa [zbB] using hN⟩
 clear hm hN hl hc
 go_wp2_with fail
 refine (dict_names (H.out.ext HM.out.st.ext)).mono ?_
 rintro e w2 ⟨v,rfl,hs⟩
 obtain ⟨sa,sc,rfl⟩:=hs.row.shape
 have HS:=hid hs.row.strs_src
 have HM2:Hid (BytesR w (varP l.length++zbB (l.take 0)) N (.slice va N vc) w2):=hid ⟨⟨HM.out.st.row.ext hs.ext,HM.out.st.own,HM.out.st.ext.trans hs.ext⟩,HM.out.len⟩
 clear hs HM
 go_wp2_with fail
 go_loopw [3,18] (fun sv si wr=>∃(k m:Nat) (va:Option Addr) (vc:Nat),k≤l.length∧si=.int .i64 k∧sv=.slice va m vc∧m≤10+k*1010∧Hid (BytesR w (varP l.length++zbB (l.take k)) m (.slice va m vc) wr∧Ext w2 wr)) (fun _ si _=>l.length-(RowKit.intOf si).toNat)
 case atStart=>exact ⟨0,N,va,vc,by omega,rfl,rfl,by omega,hid ⟨HM2.out,Ext.refl _⟩⟩
 case round =>
  clear HM2
  obtain ⟨k,m,va,vc,hk,rfl,rfl,hm,HR⟩:=hrel
  by_cases hlt:k<l.length
  ·obtain ⟨sb,so,s,rfl,hs,s0⟩:=strs_src (HS.out.ext HR.out.2) hlt
   have hsz:=HZ.out s (yag hs)
   have HTK:Hid (zbB (l.take (k+1))=zbB (l.take k)++zcP s):=hid (by rw [yao,hs];exact namesB_snoc _ _)
   clear hs
   go_wp2_with fail
   refine (varPutText_any _ va m vc (varP l.length++zbB (l.take k)) s (HR.out.1.st.row.src (zaH _)) (row_le HR.out.1.st.row) (by omega) (by omega)).mono ?_
   rintro e w3 ⟨v,rfl,hmm⟩
   obtain ⟨M,hM⟩:∃M,M=((varP l.length++zbB (l.take k))++(varP s.size++s.data.toList)).length:=⟨_,rfl⟩
   rw [←hM] at hmm
   obtain ⟨va',vc',rfl⟩:=hmm.row.shape
   have hMl:M≤10+(k+1)*1010:=by
    have h1:=nameBy_len hsz
    have h2:=HR.out.1.len
    unfold zcP at h1
    rw [hM,yae,←h2]
    omega
   have HN:Hid (BytesR w (varP l.length++zbB (l.take (k+1))) M (.slice va' M vc') w3∧Ext w2 w3):=hid ⟨⟨by
    rw [HTK.out,←yaj]
    exact hmm.trans HR.out.1.st.ext,by rw [HTK.out,←yaj];exact hM⟩,HR.out.2.trans hmm.ext⟩
   clear hmm hM HR
   go_wp2_with fail
   go_roundw
   case rel=>exact ⟨k+1,M,va',vc',by omega,by go_num,rfl,hMl,HN⟩
   case measure=>simp [RowKit.intOf];omega
  ·have HF:Hid (varP l.length++zbB (l.take k)=serB l):=hid (by rw [yai (by omega)];rfl)
   go_wp2_with fail
   go_ret
   refine ⟨_,rfl,?_⟩
   rw [←HF.out,←HR.out.1.len]
   exact HR.out.1.st
def readN (l:List UInt8):Nat→Nat→List ByteArray→Except Int (List ByteArray×Nat)
 | 0,at',acc=>.ok (acc,at')
 | n+1,at',acc =>
  if (txtR (l.drop at') 64).2.2≠0 then .error (txtR (l.drop at') 64).2.2
  else if zbg (txtR (l.drop at') 64).1=true∧lb (txtR (l.drop at') 64).1∉acc then readN l n (at'+(txtR (l.drop at') 64).2.1) (acc++[lb (txtR (l.drop at') 64).1])
  else .error 11
def serR (l:List UInt8):Except Int (List ByteArray×Nat) :=
 if (varR l).2.2≠0 then .error (varR l).2.2 else if 1024<(varR l).1 then .error 3 else readN l (varR l).1 (varR l).2.1 []
theorem txtR_bounds (l:List UInt8) (most:Int):(txtR l most).2.1≤l.length∧((txtR l most).2.2=0∨(txtR l most).2.2=3∨(txtR l most).2.2=10∨(txtR l most).2.2=11)∧((txtR l most).1.length:Int)≤max most 0:=by
 obtain ⟨_,h2,_,_⟩:=zaT l
 have h4:=varR_err l
 unfold txtR
 split
 ·refine ⟨by simp,?_,by simp;omega⟩
  rcases h4 with h|h|h
  ·exact absurd h (by assumption)
  ·exact .inr (.inr (.inl h))
  ·exact .inr (.inr (.inr h))
 ·split
  ·exact ⟨by simp,.inr (.inl rfl),by simp;omega⟩
  ·split
   ·exact ⟨by simp,.inr (.inr (.inl rfl)),by simp;omega⟩
   ·refine ⟨by simp only;omega,.inl rfl,?_⟩
    simp only [yaB,yaC]
    omega
theorem readN_step {l:List UInt8}{n at':Nat}{acc:List ByteArray}{s:List UInt8}{k:Nat}(h:txtR (l.drop at') 64=(s,k,0)) (hv:zbg s=true) (hm:lb s∉acc):readN l (n+1) at' acc=readN l n (at'+k) (acc++[lb s]):=by
 rw [readN,h]
 simp [hv,hm]
theorem readN_bad {l:List UInt8}{n at':Nat}{acc:List ByteArray}{s:List UInt8}{k:Nat}(h:txtR (l.drop at') 64=(s,k,0)) (hv:¬(zbg s=true∧lb s∉acc)):readN l (n+1) at' acc=.error 11:=by
 rw [readN,h]
 simp only
 rw [if_neg (by simp),if_neg hv]
theorem readN_err {l:List UInt8}{n at':Nat}{acc:List ByteArray}{s:List UInt8}{k:Nat}{e:Int}(h:txtR (l.drop at') 64=(s,k,e)) (he:e≠0):readN l (n+1) at' acc=.error e:=by
 rw [readN,h]
 simp only
 rw [if_pos he]
theorem zbM {w:World}{a:Option Addr}{n c k:Nat}{l:List UInt8}(h:Src w 1 (.slice a n c) n (u8s l)) (hk:k≤n) (hnc:n≤c):Src w 1 (.slice (cutA a c k) (n-k) (c-k)) (n-k) (u8s (l.drop k)):=by
 have hl:=zax h
 have:=zde (h:=n) (l:=k) (m:=c) h hk (Nat.le_refl _) hnc (Nat.le_refl _)
 rw [show u8s (l.drop k)=((u8s l).drop k).take (n-k) by simp only [u8s];rw [←List.map_drop,yai (by simp;omega)]]
 exact this
theorem name_len (s:ByteArray):s.data.toList.length=s.size:=by simp
theorem txtR_put {s:ByteArray}(hs:s.size≤64) (rest:List UInt8):txtR (zcP s++rest) 64=(s.data.toList,(zcP s).length,0):=by
 have hv:varR (zcP s++rest)=(s.size,(varP s.size).length,0):=by
  unfold zcP
  rw [yaj]
  exact zbu (by omega) _
 have hn:=name_len s
 unfold txtR
 rw [hv]
 simp only
 rw [if_neg (by simp),if_neg (by omega),if_neg (by simp [zcP])]
 unfold zcP
 rw [yaj,List.drop_left,←hn,List.take_left]
 simp
theorem readN_put {more l:List UInt8}:∀(L acc:List ByteArray) (at':Nat),l.drop at'=zbB L++more→(∀s∈L,zbg (bl s)=true)→(acc++L).Nodup→readN l L.length at' acc=.ok (acc++L,at'+(zbB L).length)
 | [],acc,at',_,_,_=>by simp [readN,zbB]
 | s::L,acc,at',h,hv,hn=>by
  have hs:=hv s (by simp)
  have hsz:s.size≤64:=by
   unfold zbg at hs
   simp at hs
   have h2:=name_len s
   have h3:=hs.2
   unfold bl at h3
   omega
  have e:l.drop at'=zcP s++(zbB L++more):=by rw [h];simp [zbB]
  have ht:=txtR_put hsz (zbB L++more)
  rw [←e] at ht
  have hm:s∉acc:=fun hm=>by
   rw [List.nodup_append] at hn
   exact hn.2.2 s hm s (by simp) rfl
  rw [List.length_cons,readN_step (s:=bl s) ht hs (by rw [lb_bl];exact hm),lb_bl]
  have h2:l.drop (at'+(zcP s).length)=zbB L++more:=by
   rw [←List.drop_drop,e,List.drop_left]
  rw [readN_put L (acc++[s]) _ h2 (fun t ht=>hv t (yaD _ ht)) (by simpa using hn)]
  simp [zbB]
  omega
theorem serR_put {L:List ByteArray}(hl:L.length≤1024) (hv:∀s∈L,zbg (bl s)=true) (hn:L.Nodup) (more:List UInt8):serR (serB L++more)=.ok (L,(serB L).length):=by
 have hr:=zbu (u:=L.length) (by omega) (zbB L++more)
 unfold serR serB
 rw [yaj,hr]
 simp only
 rw [if_neg (by simp),if_neg (by omega),readN_put (more:=more) L [] _ (by rw [List.drop_left]) hv (by simpa using hn)]
 simp
end
section
open Go.RowKit Go.Sort Go.Lib
theorem varText64 (w:World) (a:Option Addr) (n c:Nat) (l:List UInt8) (hl:Src w 1 (.slice a n c) n (u8s l)) (hnc:n≤c) (hn:n<4611686018427387904) (hg:HasET w) :
 Calls Tryz.prog 169 #[.slice a n c,.int .i64 64] w fun e w'=>e=.returned (.tuple #[.string ⟨(txtR l 64).1.toArray⟩,.int .i64 ((txtR l 64).2.1:Int),.int .i64 (txtR l 64).2.2])∧Ext w w' :=
 zdd w a n c l 64 (by omega) hl hnc hn hg
def SerTo (w:World) (r:Except Int (List ByteArray×Nat)) (e:Ending) (w':World):Prop :=
 Ext w w'∧match r with
 | .error x=>e=.returned (.tuple #[.pointer none,.int .i64 0,.int .i64 x])
 | .ok (acc,at')=>∃d mb,e=.returned (.tuple #[.pointer (some ⟨d,0,none⟩),.int .i64 (at':Int),.int .i64 0])∧DictAt w' d mb acc∧w.heap.size≤d∧w.heap.size≤mb
structure SerR (w:World) (l:List UInt8) (N k at' d mb:Nat) (acc:List ByteArray) (wr:World):Prop where
 dict:DictAt wr d mb acc
 len:acc.length=k
 eq:readN l (N-k) at' acc=serR l
 ext:Ext w wr
 new:w.heap.size≤d∧w.heap.size≤mb
theorem serRead_any (w:World) (a:Option Addr) (n c:Nat) (l:List UInt8) (hl:Src w 1 (.slice a n c) n (u8s l)) (hnc:n≤c) (hn:n<4611686018427387904) (hg:HasET w) :
 Calls Tryz.prog 122 #[.slice a n c] w (SerTo w (serR l)):=by
 have HL:=hid hl
 have HG:=hid hg
 have hlen:=zax hl
 clear hl hg
 obtain ⟨u,k0,e0,hv⟩:∃u k e,varR l=(u,k,e):=⟨_,_,_,rfl⟩
 obtain ⟨hb1,hb2,hb3,_⟩:=zaT l
 rw [hv] at hb1 hb2 hb3
 simp only at hb1 hb2 hb3
 rw [hlen] at hb2
 have HV:=hid hv
 have HLEN:=hid hlen
 clear hv hlen
 by_cases he:e0=0
 ·subst he
  by_cases h1:1024<u
  ·have h1':(1024:Int)<(u:Int):=by omega
   have HT:Hid (serR l=.error 3):=hid (by unfold serR;rw [HV.out];simp only;rw [if_neg (by omega),if_pos h1])
   go_enter Tryz.func122,Tryz.ntmps122
   go_wp2_with fail
   refine (zaB w a n c l HL.out hn HG.out).mono ?_
   rw [HV.out]
   rintro e' w1 ⟨rfl,hx⟩
   have HX:=hid hx
   clear hx
   go_wp2_with fail
   go_ret3
   rw [HT.out]
   exact ⟨HX.out,rfl⟩
  ·have h1':¬(1024:Int)<(u:Int):=by omega
   have HS0:Hid (readN l u k0 []=serR l):=hid (by unfold serR;rw [HV.out];simp only;rw [if_neg (by omega),if_neg h1])
   go_enter Tryz.func122,Tryz.ntmps122
   go_wp2_with fail
   refine (zaB w a n c l HL.out hn HG.out).mono ?_
   rw [HV.out]
   rintro e' w1 ⟨rfl,hx⟩
   have HX:=hid hx
   clear hx
   go_wp2_with fail
   refine (dict_new w1).mono ?_
   rintro e' w2 ⟨rfl,hd,hx2⟩
   obtain ⟨d,hdd⟩:∃d,d=w1.heap.size+1:=⟨_,rfl⟩
   have H0:Hid (SerR w l u 0 k0 d w1.heap.size [] w2):=hid ⟨by rw [hdd];exact hd,rfl,HS0.out,HX.out.trans hx2,by have:=HX.out.size;omega⟩
   rw [←hdd]
   obtain ⟨mb,hmb⟩:∃mb,mb=w1.heap.size:=⟨_,rfl⟩
   rw [←hmb] at H0
   clear hd hx2 hdd hmb HS0 HX
   go_wp2_with fail
   go_loopw [2,6,30] (fun sd sa si wr=>∃(k at':Nat) (acc:List ByteArray),k≤u∧sd=.pointer (some ⟨d,0,none⟩)∧si=.int .i64 k∧sa=.int .i64 at'∧at'≤n∧Hid (SerR w l u k at' d mb acc wr)) (fun _ _ si _=>u-(RowKit.intOf si).toNat)
   case atStart=>exact ⟨0,k0,[],by omega,rfl,rfl,rfl,hb2,H0⟩
   case round =>
    clear H0
    obtain ⟨k,at',acc,hk,rfl,rfl,rfl,hat,HR⟩:=hrel
    by_cases hlt:k<u
    ·obtain ⟨s,m,e,ht⟩:∃s m e,txtR (l.drop at') 64=(s,m,e):=⟨_,_,_,rfl⟩
     obtain ⟨t1,t2,_⟩:=txtR_bounds (l.drop at') 64
     rw [ht] at t1
     simp only [yaC] at t1
     rw [HLEN.out] at t1
     have hs1:=zbi Tryz.underlying51 sz_u8 a n c at' hat
     have hs2:=run_sliceAt_lo Tryz.underlying51 sz_u8 a n c at' hat
     have HSRC:=hid (zbM (HL.out.ext HR.out.ext) hat hnc)
     have HTX:=hid ht
     have hsub:u-k=(u-(k+1))+1:=by omega
     have hsz:s.length≤64:=by have:=t2;have h3:=(txtR_bounds (l.drop at') 64).2.2;rw [ht] at h3;simp only at h3;omega
     clear ht t2
     by_cases hee:e=0
     ·subst hee
      obtain ⟨S,hS⟩:∃S,S=lb s:=⟨_,rfl⟩
      have hSz:S.size≤maxLen:=by rw [hS];show s.toArray.size≤maxLen;unfold maxLen;simp;omega
      have HSZ:=hid hSz
      clear hSz
      have HSS:=hid hS
      go_wp2_with fail
      refine (varText64 wr _ _ _ _ HSRC.out (by omega) (by omega) (HG.out.ext HR.out.ext)).mono ?_
      rw [HTX.out]
      simp only
      rintro e' w3 ⟨rfl,hx⟩
      rw [show (⟨s.toArray⟩:ByteArray)=S from HSS.out.symm]
      have HD:=hid (HR.out.dict.ext hx)
      have HX:=hid (HR.out.ext.trans hx)
      clear hx hS
      go_wp2_with fail
      refine (dict_put HD.out S HSZ.out).mono ?_
      rintro e' w4 ⟨rfl,hd4,hc4⟩
      have hval:bl S=s:=by rw [HSS.out];simp
      have hX4:Ext w w4:=((Chg.of_ext (S:=fun i=>i=mb) HX.out).trans hc4 (fun _ _ e=>e)).ext (fun i hi e=>by have:=HR.out.new;omega)
      rcases put_parts acc S with ⟨p1,p2,p3⟩|⟨p1,p2,p3,p4,p5⟩|⟨p1,p2,_,⟨p3,_⟩|⟨p3,p4,p5⟩⟩
      ·have HERR:Hid (serR l=.error 11):=hid (by rw [←HR.out.eq,hsub];exact readN_bad HTX.out (fun h=>by rw [hval] at p1;rw [p1] at h;cases h.1))
       rw [p2]
       have HX4:=hid hX4
       clear hd4 hc4 p1 p2 p3 hval hX4
       go_wp2_with fail
       go_ret3
       rw [HERR.out]
       exact ⟨HX4.out,rfl⟩
      ·have HERR:Hid (serR l=.error 11):=hid (by rw [←HR.out.eq,hsub];exact readN_bad HTX.out (fun h=>h.2 (by rw [←HSS.out];exact p2)))
       have hne:(findZ acc S != (k:Int))=true:=by
        rw [bne_iff_ne]
        intro e
        have h1:=List.idxOf_lt_length_of_mem p2
        have h2:=HR.out.len
        unfold findZ at e
        rw [if_pos p2] at e
        omega
       rw [p3]
       have HX4:=hid hX4
       clear hd4 hc4 p1 p2 p3 p4 p5 hval hX4
       go_wp2_with fail
       go_ret3
       rw [HERR.out]
       exact ⟨HX4.out,rfl⟩
      ·have:=HR.out.len;omega
      ·have HNXT:Hid (SerR w l u (k+1) (at'+m) d mb (acc++[S]) w4):=hid ⟨by rw [p5] at hd4;exact hd4,by simp;exact HR.out.len,by
        have h1:=HR.out.eq
        rw [hsub,readN_step HTX.out (by rw [hval] at p1;exact p1) (by rw [←HSS.out];exact p2)] at h1
        rw [HSS.out];exact h1,hX4,HR.out.new⟩
       have hkk:(acc.length:Int)=(k:Int):=by have:=HR.out.len;omega
       rw [p4,hkk]
       have hke:((k:Int) != (k:Int))=false:=bne_self_eq_false _
       clear hd4 hc4 p1 p2 p3 p4 p5 hval hX4 hkk
       go_wp2_with fail
       go_roundw
       case rel=>exact ⟨k+1,at'+m,acc++[S],by omega,rfl,by go_num,by go_num,by omega,HNXT⟩
       case measure=>simp [RowKit.intOf];omega
     ·have HERR:Hid (serR l=.error e):=hid (by rw [←HR.out.eq,hsub];exact readN_err HTX.out hee)
      have hee':(e != 0)=true:=by simpa using hee
      go_wp2_with fail
      refine (varText64 wr _ _ _ _ HSRC.out (by omega) (by omega) (HG.out.ext HR.out.ext)).mono ?_
      rw [HTX.out]
      simp only
      rintro e' w3 ⟨rfl,hx⟩
      have HX:=hid (HR.out.ext.trans hx)
      clear hx
      go_wp2_with fail
      go_ret3
      rw [HERR.out]
      exact ⟨HX.out,rfl⟩
    ·have HOK:Hid (serR l=.ok (acc,at')):=hid (by rw [←HR.out.eq,show u-k=0 by omega];rfl)
     go_wp2_with fail
     go_ret3
     rw [HOK.out]
     exact ⟨HR.out.ext,d,mb,rfl,HR.out.dict,HR.out.new⟩
 ·have HT:Hid (serR l=.error e0):=hid (by unfold serR;rw [HV.out];simp only;rw [if_pos he])
  have he':(e0 != 0)=true:=by simpa using he
  go_enter Tryz.func122,Tryz.ntmps122
  go_wp2_with fail
  refine (zaB w a n c l HL.out hn HG.out).mono ?_
  rw [HV.out]
  rintro e' w1 ⟨rfl,hx⟩
  have HX:=hid hx
  clear hx
  go_wp2_with fail
  go_ret3
  rw [HT.out]
  exact ⟨HX.out,rfl⟩
end
end Go.Proofs.YtlmfhjipbjkcbaaGreatDoor
