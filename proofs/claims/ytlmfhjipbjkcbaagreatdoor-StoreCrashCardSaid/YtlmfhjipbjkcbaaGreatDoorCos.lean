/- x -/
import Derived.Test.YtlmfhjipbjkcbaaGreatDoorMrw
import Derived.Test.YtlmfhjipbjkcbaaGreatDoorSrd
set_option maxHeartbeats 4000000
set_option maxRecDepth 100000
set_option linter.unusedSimpArgs false
set_option linter.unusedVariables false
namespace Go.Proofs.YtlmfhjipbjkcbaaGreatDoor
section
open Go.RowKit Go.Sort Go.Lib
theorem txtR_any {x:List UInt8}{most:Nat}(hx:x.length≤most) (h64:x.length<2 ^ 64) (rest:List UInt8):txtR (txtL x++rest) most=(x,(txtL x).length,0):=by
 have hv:varR (txtL x++rest)=(x.length,(varP x.length).length,0):=by
  unfold txtL
  rw [yaj]
  exact zbu h64 _
 unfold txtR
 rw [hv]
 simp only
 rw [if_neg (by simp),if_neg (by omega),if_neg (by simp [txtL])]
 unfold txtL
 rw [yaj,List.drop_left,List.take_left]
 simp
theorem txtL_len {x:List UInt8}(h:x.length<2097152):(txtL x).length≤x.length+3:=by
 have:=zcc 3 x.length (by omega) (by omega)
 unfold txtL
 rw [yae]
 omega
theorem colIn_len {l:List Pt}(hl:l.length≤4096):(timesA l).length≤40000∧(zdQ l).length≤40000∧(seqsA l).length≤40000∧(colIn l).length≤32*l.length+31:=by
 have h1:=(zdn (zcv (l.map Pt.t))).len
 have h2:=(zdn (zbL (l.map fun p=>u64N p.v))).len
 have h3:=(zdn (zcv (l.map Pt.s))).len
 change (timesA l).length=_ at h1
 change (zdQ l).length=_ at h2
 change (seqsA l).length=_ at h3
 have k1:=zcX (l.map Pt.t)
 have k2:=zdP (l.map fun p=>u64N p.v)
 have k3:=zcX (l.map Pt.s)
 rw [yaw] at k1 k2 k3
 have e:=zcc 3 l.length (by omega) (by omega)
 have t1:=txtL_len (x:=timesA l) (by omega)
 have t2:=txtL_len (x:=zdQ l) (by omega)
 have t3:=txtL_len (x:=seqsA l) (by omega)
 unfold colIn colL zaP
 simp only [yae]
 simp only [show (0:Nat)<3 from by decide,show (1:Nat)<3 from by decide,show (2:Nat)<3 from by decide,if_true]
 omega
theorem colBytes_len {l:List Pt}(hl:l.length≤4096):0<(zaO l).length∧(zaO l).length≤32*l.length+40:=by
 have:=(colIn_len hl).2.2.2
 unfold zaO
 rw [zbh]
 omega
structure SegI where
 name:ByteArray
 blk:List UInt8
 lo:Int
 hi:Int
 n:Nat
structure SegI.Ok (x:SegI):Prop where
 valid:zbg (bl x.name)=true
 b0:0<x.blk.length
 b1:x.blk.length≤1048576
 l0:-1152921504606846976≤x.lo
 l1:x.lo≤x.hi
 l2:x.hi≤1152921504606846976
 n0:0<x.n
 n1:x.n≤4096
def bkP (x:SegI):List UInt8:=varP x.blk.length++(varP (zig x.lo)++(varP (zig x.hi)++varP x.n))
def itemP (x:SegI):List UInt8:=varP 1++bkP x
def zay (L:List SegI):List ByteArray:=L.map SegI.name
def bodyL (L:List SegI):List UInt8:=L.flatMap SegI.blk
def zbb (L:List SegI):List UInt8:=L.flatMap itemP
def footL (L:List SegI):List UInt8:=serB (zay L)++zbb L
def endL (L:List SegI):List UInt8:=sealL 6 (le4 (sealL 5 (footL L)).length)
def fileL (L:List SegI):List UInt8:=bodyL L++(sealL 5 (footL L)++endL L)
structure SegOk (L:List SegI):Prop where
 ok:∀x∈L,x.Ok
 pos:0<L.length
 len:L.length≤1024
 rise:(zay L).Pairwise fun a b=>bl a<bl b
 size:(bodyL L).length≤131072
theorem SegOk.nodup {L:List SegI}(h:SegOk L):(zay L).Nodup:=h.rise.imp fun hab e=>by rw [e] at hab;exact List.lt_irrefl _ hab
theorem zbr (L:List SegI):(zay L).length=L.length:=by simp [zay]
theorem bodyL_snoc (L:List SegI) (x:SegI):bodyL (L++[x])=bodyL L++x.blk:=by simp [bodyL]
theorem itemsP_snoc (L:List SegI) (x:SegI):zbb (L++[x])=zbb L++itemP x:=by simp [zbb]
theorem zig_small {z:Int}(h0:-1152921504606846976≤z) (h1:z≤1152921504606846976):(varP (zig z)).length≤10:=zaQ (zig_lt (by omega) (by omega))
theorem itemP_len {x:SegI}(h:x.Ok):(itemP x).length≤26:=by
 have h1:=zcc 1 1 (by omega) (by omega)
 have h2:=zcc 3 x.blk.length (by have:=h.b1;omega) (by omega)
 have h3:=zig_small h.l0 (by have:=h.l1;have:=h.l2;omega)
 have h4:=zig_small (by have:=h.l1;have:=h.l0;omega) h.l2
 have h5:=zcc 2 x.n (by have:=h.n1;omega) (by omega)
 unfold itemP bkP
 simp only [yae]
 omega
theorem itemsP_len:∀{L:List SegI},(∀x∈L,x.Ok)→(zbb L).length≤26*L.length
 | [],_=>by simp [zbb]
 | x::L,h=>by
  have h1:=itemP_len (h x (by simp))
  have h2:=itemsP_len (L:=L) (fun y hy=>h y (by simp [hy]))
  have e:zbb (x::L)=itemP x++zbb L:=rfl
  rw [e,yae,List.length_cons]
  omega
theorem nameBy_len64 {s:ByteArray}(h:s.size≤64):(zcP s).length≤65:=by
 have:=zcc 1 s.size (by omega) (by omega)
 unfold zcP
 rw [yae]
 have e:s.data.toList.length=s.size:=by simp
 omega
theorem namesB_len64:∀{l:List ByteArray},(∀s∈l,s.size≤64)→(zbB l).length≤l.length*65
 | [],_=>by simp [zbB]
 | s::l,h=>by
  have h1:=nameBy_len64 (h s (by simp))
  have h2:=namesB_len64 (l:=l) (fun y hy=>h y (by simp [hy]))
  have e:zbB (s::l)=zcP s++zbB l:=rfl
  rw [e,yae,List.length_cons]
  omega
theorem serB_len64 {l:List ByteArray}(h:∀s∈l,s.size≤64) (hl:l.length≤1024):(serB l).length≤l.length*65+2:=by
 have h1:=zcc 2 l.length (by omega) (by omega)
 have h2:=namesB_len64 h
 unfold serB
 rw [yae]
 omega
theorem SegOk.valid {L:List SegI}(h:SegOk L):∀s∈zay L,zbg (bl s)=true:=fun s hs=>by
 obtain ⟨x,hx,rfl⟩:=yap.1 hs
 exact (h.ok x hx).valid
theorem SegOk.foot_len {L:List SegI}(h:SegOk L):(footL L).length≤93186:=by
 have h1:=serB_len64 (l:=zay L) (fun s hs=>valid_size (h.valid s hs)) (by rw [zbr];exact h.len)
 have h2:=itemsP_len h.ok
 have h3:=h.len
 rw [zbr] at h1
 unfold footL
 rw [yae]
 omega
theorem SegOk.ser {L:List SegI}(h:SegOk L):serR (footL L)=.ok (zay L,(serB (zay L)).length):=by
 unfold footL
 exact serR_put (by rw [zbr];exact h.len) h.valid h.nodup _
theorem endL_len (L:List SegI):(endL L).length=13:=by unfold endL;rw [zbh];rfl
def loT (l:List Pt):Int:=(l.head?.map Pt.t).getD 0
def hiT (l:List Pt):Int:=(l.getLast?.map Pt.t).getD 0
abbrev Prt:=ByteArray×List Pt
def itemOf (p:Prt):SegI:=⟨p.1,zaO p.2,loT p.2,hiT p.2,p.2.length⟩
def zaw (P:List Prt):List SegI:=P.map itemOf
def segB (P:List Prt):List UInt8:=fileL (zaw P)
def manyP (P:List Prt):Nat:=(P.map fun p=>p.2.length).sum
structure PrtsOk (P:List Prt):Prop where
 name:∀p∈P,zbg (bl p.1)=true
 col:∀p∈P,colV p.2=true
 rise:(P.map Prod.fst).Pairwise fun a b=>bl a<bl b
 pos:0<P.length
 many:manyP P≤1024
theorem loT_mem {l:List Pt}(h:0<l.length):∃p,l[0]?=some p∧p∈l∧loT l=p.t:=by
 cases l with
 | nil=>simp at h
 | cons p l=>exact ⟨p,rfl,by simp,rfl⟩
theorem hiT_mem {l:List Pt}(h:0<l.length):∃p,l[l.length-1]?=some p∧p∈l∧hiT l=p.t:=by
 have e:l.getLast?=l[l.length-1]?:=List.getLast?_eq_getElem?
 have hp:l[l.length-1]?=some l[l.length-1]:=yac (by omega)
 refine ⟨l[l.length-1],hp,yaM _,?_⟩
 unfold hiT
 rw [e,hp];rfl
theorem span_colV {l:List Pt}(h:colV l=true):-1152921504606846976≤loT l∧loT l≤hiT l∧hiT l≤1152921504606846976∧∀p∈l,loT l≤p.t∧p.t≤hiT l:=by
 have hl:=zcr h
 obtain ⟨a,ha,ham,ea⟩:=loT_mem hl.1
 obtain ⟨b,hb,hbm,eb⟩:=hiT_mem hl.1
 have hr:=zdH h
 have h1:=colV_mem h ham
 have h2:=colV_mem h hbm
 have key:∀p∈l,a.t≤p.t∧p.t≤b.t:=by
  intro p hp
  obtain ⟨i,hi,rfl⟩:=yaH.1 hp
  have hi':l[i]?=some l[i]:=yac hi
  constructor
  ·rcases Nat.eq_zero_or_pos i with h0|h0
   ·subst h0;rw [hi'] at ha;cases ha;exact Int.le_refl _
   ·exact Int.le_of_lt (hr.at ha hi' h0)
  ·rcases Nat.lt_or_ge i (l.length-1) with h0|h0
   ·exact Int.le_of_lt (hr.at hi' hb h0)
   ·obtain rfl:i=l.length-1:=by omega
    rw [hi'] at hb;cases hb;exact Int.le_refl _
 rw [ea,eb]
 exact ⟨h1.1,(key b hbm).1,h2.2.1,key⟩
theorem itemOf_ok {p:Prt}(hn:zbg (bl p.1)=true) (hc:colV p.2=true):(itemOf p).Ok:=by
 have hl:=zcr hc
 have hb:=colBytes_len hl.2
 obtain ⟨h1,h2,h3,_⟩:=span_colV hc
 exact { valid:=hn,b0:=hb.1,b1:=by show (zaO p.2).length≤_;omega,l0:=h1,l1:=h2,l2:=h3,n0:=hl.1,n1:=hl.2 }
theorem namesI_of (P:List Prt):zay (zaw P)=P.map Prod.fst:=by simp [zay,zaw,itemOf,Function.comp_def]
theorem bodyL_cons (x:SegI) (L:List SegI):bodyL (x::L)=x.blk++bodyL L:=rfl
theorem body_of:∀{P:List Prt},(∀p∈P,colV p.2=true)→(bodyL (zaw P)).length≤72*manyP P∧P.length≤manyP P
 | [],_=>by simp [bodyL,zaw,manyP]
 | p::P,h=>by
  have h1:=body_of (P:=P) (fun q hq=>h q (by simp [hq]))
  have hl:=zcr (h p (by simp))
  have hb:=colBytes_len hl.2
  have e:bodyL (zaw (p::P))=zaO p.2++bodyL (zaw P):=rfl
  have e2:manyP (p::P)=p.2.length+manyP P:=by simp [manyP]
  rw [e,e2,yae,List.length_cons]
  omega
theorem PrtsOk.seg {P:List Prt}(h:PrtsOk P):SegOk (zaw P):=by
 have hb:=body_of h.col
 have hm:=h.many
 refine { ok:=fun x hx=>?_,pos:=by simpa [zaw] using h.pos,len:=by simp [zaw];omega,rise:=by rw [namesI_of];exact h.rise,size:=by omega }
 obtain ⟨p,hp,rfl⟩:=yap.1 hx
 exact itemOf_ok (h.name p hp) (h.col p hp)
theorem segB_len {P:List Prt}(h:PrtsOk P):(segB P).length≤167000:=by
 have h1:=h.seg.foot_len
 have h2:=body_of h.col
 have h3:=h.many
 unfold segB fileL
 rw [yae,yae,zbh,endL_len]
 omega
def SgR (w:World) (r:Nat) (l:List UInt8):Prop:=∃a n c,w.heap[r]?=some (.cells #[.slice a n c,.nilIface] 235 (0,0))∧Src w 1 (.slice a n c) n (u8s l)∧n≤c∧(Value.slice a n c).ownBlock≠some r∧n≤1048576
theorem SgR.lt {w:World}{r:Nat}{l:List UInt8}(h:SgR w r l):r<w.heap.size:=by
 obtain ⟨a,n,c,h,_⟩:=h
 exact zab h
theorem SgR.chg {T:Nat→Prop}{w w':World}{r:Nat}{l:List UInt8}(h:SgR w r l) (hc:Chg T w w') (hn:¬T r) (h2:∀b,T b→w.heap.size≤b):SgR w' r l:=by
 obtain ⟨a,n,c,h1,hs,hnc,ho,hm⟩:=h
 exact ⟨a,n,c,(hc.block r (zab h1) hn).trans h1,hs.ext (hc.ext (fun i hi e=>by have:=h2 i e;omega)),hnc,ho,hm⟩
theorem SgR.ext {w w':World}{r:Nat}{l:List UInt8}(h:SgR w r l) (hx:Ext w w'):SgR w' r l:=h.chg (Chg.of_ext (S:=fun _=>False) hx) id (fun _ e=>e.elim)
theorem zbO (w:World) (r:Nat) :
 Calls Tryz.prog 125 #[.pointer (some ⟨r,0,none⟩),.bool false] w fun e w'=>e=.returned (.tuple #[])∧w=w':=by
 go_enter Tryz.func125,Tryz.ntmps125
 go_wp2_with fail
 go_end0
 exact ⟨rfl,rfl⟩
theorem sgu8_info:(Tryz.prog.info? 51).map (·.size)=some 1:=by kernel_rfl
theorem SgR.cut {w w1 V:World}{r k n c:Nat}{a:Option Addr}{l x rest:List UInt8}(hx:Ext w w1) (hs:Src w 1 (.slice a n c) n (u8s l)) (hnc:n≤c) (ho:(Value.slice a n c).ownBlock≠some r) (hn:n≤1048576) (hl:l=x++rest) (hk:x.length=k)
 (hb:V.heap[r]?=some (.cells #[.slice (cutA a c k) (n-k) (c-k),.nilIface] 235 (0,0))) (hc:Chg (·=r) w1 V):SgR V r rest:=by
 have hln:=zax hs
 have hkn:k≤n:=by rw [←hln,hl,yae];omega
 have h1:=zbM (hs.ext hx) hkn hnc
 have e:l.drop k=rest:=by rw [hl,←hk,List.drop_left]
 rw [e] at h1
 have ho2:∀b,(cutA a c k).map (·.block)=some b→b≠r:=fun b hq e=>by
  subst e
  apply ho
  cases a with
  | none=>unfold cutA at hq;split at hq<;>simp at hq
  | some ad =>
   have hbk:∀j,(ad.add j).block=ad.block:=fun j=>by unfold Addr.add;split<;>rfl
   unfold cutA at hq
   split at hq
   ·simp at hq;show some ad.block=_;rw [hq]
   ·simp [hbk] at hq;show some ad.block=_;rw [hq]
 refine ⟨_,_,_,hb,zbU h1 hc (fun b hb e=>ho2 b hb e),by omega,fun e=>?_,by omega⟩
 exact ho2 r (by rw [←e];cases cutA a c k<;>rfl) rfl
theorem sgNum_any (w:World) (r u most:Nat) (rest:List UInt8) (h:SgR w r (varP u++rest)) (h0:0<u) (h1:u≤most) (hm:most≤1048576) (hg:HasET w) :
 Calls Tryz.prog 126 #[.pointer (some ⟨r,0,none⟩),.int .u64 (most:Int)] w fun e w'=>e=.returned (.int .i64 (u:Int))∧SgR w' r rest∧Chg (·=r) w w':=by
 obtain ⟨a,n,c,hb,hs,hnc,ho,hn⟩:=h
 have hv:=zbu (u:=u) (by omega) rest
 have HVR:=hid (zaB w a n c _ hs (by omega) hg)
 rw [hv] at HVR
 obtain ⟨k,hk⟩:∃k,k=(varP u).length:=⟨_,rfl⟩
 rw [←hk] at HVR
 have hkn:k≤n:=by rw [←zax hs,yae];omega
 have HCUT:=hid (fun w1 V (hx:Ext w w1) hb hc=>SgR.cut (w1:=w1) (V:=V) (k:=k) hx hs hnc ho hn rfl hk.symm hb hc)
 have HB:=hid hb
 have z0:=zaa hb 0
 simp at z0
 have hsl:∀W,(Instr.slice 51 (.slice a n c) (some (.int .i64 (k:Int))) none none).run Tryz.prog W=.ok (.slice (cutA a c k) (n-k) (c-k)) W:=zbi Tryz.underlying51 (fun _=>by kernel_rfl) a n c k hkn
 have hu0:((u:Int)==0)=false:=yam.2 (by omega)
 have hum:¬(most:Int)<(u:Int):=by omega
 have hw:IntKind.i64.wrap (u:Int)=(u:Int):=IntWalk.i64_in _ (by omega)
 clear hb hs hv ho hk hg
 generalize cutA a c k=ca at *
 generalize n-k=cn at *
 generalize c-k=cc at *
 go_enter Tryz.func126,Tryz.ntmps126
 go_wp2_with fail
 refine HVR.out.mono ?_
 rintro e w1 ⟨rfl,hx1⟩
 dsimp only
 have HX1:=hid hx1
 have HB1:=hid ((hx1.block (zab HB.out)).trans HB.out)
 have z1:=zaa HB1.out 0
 simp at z1
 clear hx1 z0
 go_upto_region 3 with (refine zap rfl _ _ _ rfl r 0 _ #[.slice ca cn cc,.nilIface] _ _ rfl rfl rfl rfl HB1.out (by simp) rfl sgu8_info ?_;rintro V hbV hcV _he;have HBV:=hid hbV;have HSG:=hid (HCUT.out w1 V HX1.out hbV hcV);have HCH:=hid ((Chg.of_ext HX1.out).trans hcV (fun _ _ e=>e));clear hbV hcV _he)
 have y1:=zaa HBV.out 1
 simp at y1
 simp only [Act.put]
 clear hsl z1
 go_wp2_with fail
 rw [decide_eq_false (show ¬most<u by omega)]
 refine (zbO V r).mono ?_
 rintro e w2 ⟨rfl,rfl⟩
 go_wp2_with fail
 go_ret
 exact ⟨rfl,HSG.out,HCH.out⟩
theorem sgTime_any (w:World) (r:Nat) (t:Int) (rest:List UInt8) (h:SgR w r (varP (zig t)++rest)) (h0:-1152921504606846976≤t) (h1:t≤1152921504606846976) (hg:HasET w) :
 Calls Tryz.prog 186 #[.pointer (some ⟨r,0,none⟩)] w fun e w'=>e=.returned (.int .i64 t)∧SgR w' r rest∧Chg (·=r) w w':=by
 obtain ⟨a,n,c,hb,hs,hnc,ho,hn⟩:=h
 have hv:=zbu (u:=zig t) (zig_lt (by omega) (by omega)) rest
 have HVR:=hid (zcF w a n c _ hs (by omega) hg)
 rw [hv] at HVR
 dsimp only at HVR
 rw [zag_zig] at HVR
 obtain ⟨k,hk⟩:∃k,k=(varP (zig t)).length:=⟨_,rfl⟩
 rw [←hk] at HVR
 have hkn:k≤n:=by rw [←zax hs,yae];omega
 have HCUT:=hid (fun w1 V (hx:Ext w w1) hb hc=>SgR.cut (w1:=w1) (V:=V) (k:=k) hx hs hnc ho hn rfl hk.symm hb hc)
 have HB:=hid hb
 have z0:=zaa hb 0
 simp at z0
 have hsl:∀W,(Instr.slice 51 (.slice a n c) (some (.int .i64 (k:Int))) none none).run Tryz.prog W=.ok (.slice (cutA a c k) (n-k) (c-k)) W:=zbi Tryz.underlying51 (fun _=>by kernel_rfl) a n c k hkn
 clear hb hs hv ho hk hg
 generalize cutA a c k=ca at *
 generalize n-k=cn at *
 generalize c-k=cc at *
 go_enter Tryz.func186,Tryz.ntmps186
 go_wp2_with fail
 refine HVR.out.mono ?_
 rintro e w1 ⟨rfl,hx1⟩
 have HX1:=hid hx1
 have HB1:=hid ((hx1.block (zab HB.out)).trans HB.out)
 have z1:=zaa HB1.out 0
 simp at z1
 clear hx1 z0
 go_upto_region 3 with (refine zap rfl _ _ _ rfl r 0 _ #[.slice ca cn cc,.nilIface] _ _ rfl rfl rfl rfl HB1.out (by simp) rfl sgu8_info ?_;rintro V hbV hcV _he;have HBV:=hid hbV;have HSG:=hid (HCUT.out w1 V HX1.out hbV hcV);have HCH:=hid ((Chg.of_ext HX1.out).trans hcV (fun _ _ e=>e));clear hbV hcV _he)
 simp only [Act.put]
 have hd0:decide (t < -1152921504606846976)=false:=decide_eq_false (by omega)
 have hd1:decide (1152921504606846976<t)=false:=decide_eq_false (by omega)
 clear hsl z1
 go_wp2_with fail
 refine (zbO V r).mono ?_
 rintro e w2 ⟨rfl,rfl⟩
 clear hd0 hd1
 go_wp2_with fail
 go_ret
 exact ⟨rfl,HSG.out,HCH.out⟩
theorem SgR.et {w w':World}{r:Nat}{l:List UInt8}(h:SgR w r l) (hg:HasET w) (hc:Chg (·=r) w w'):HasET w':=by
 refine hg.chg hc (fun e=>?_)
 obtain ⟨a,n,c,hb,_⟩:=h
 have h0:=zaa hb 0
 rw [←e] at h0
 unfold HasET at hg
 rw [hg] at h0
 simp at h0
theorem src_apart {w:World}{a:Option Addr}{n c b:Nat}{l:List UInt8}{cs:Array Value}{t:TypeId}{fr:Nat×Nat}(h:Src w 1 (.slice a n c) n (u8s l)) (hn:0<n) (hb:w.heap[b]?=some (.cells cs t fr)) (hk:∀(o:Nat) (x:Int),cs[o]?≠some (Value.int .u8 x)):∀b',a.map (·.block)=some b'→b'≠b:=by
 intro b' hb' e
 subst e
 rcases h with ⟨_,rfl,_⟩|⟨ad,c',e,hl,hs,_⟩
 ·omega
 ·cases e
  have hln:l.length=n:=by simpa [u8s] using hl
  have h0:=hs 0 (.int .u8 (l[0].toNat:Int)) (by simp [u8s,yac (show 0<l.length by omega)])
  obtain ⟨bl,off,spot⟩:=ad
  have hspot:spot=none:=by simpa [Addr.add] using World.cell?_spot h0
  subst hspot
  simp at hb'
  subst hb'
  rw [yak,zaa hb] at h0
  exact hk _ _ h0
theorem SgR.off {w w':World}{r b g:Nat}{l:List UInt8}{cs ds:Array Value}{t s:TypeId}(h:SgR w r l) (hb:w.heap[b]?=some (.cells cs t (0,0))) (hg:w.heap[g]?=some (.cells ds s (0,0))) (hk:∀(o:Nat) (x:Int),cs[o]?≠some (Value.int .u8 x)) (hj:∀(o:Nat) (x:Int),ds[o]?≠some (Value.int .u8 x))
 (hc:Chg (fun k=>k=b∨k=g) w w') (hr:r≠b∧r≠g):SgR w' r l:=by
 obtain ⟨a,n,c,h1,h2,h3,h4,h5⟩:=h
 refine ⟨a,n,c,(hc.block r (zab h1) (fun e=>by omega)).trans h1,?_,h3,h4,h5⟩
 rcases Nat.eq_zero_or_pos n with h0|h0
 ·subst h0
  have hl:=zax h2
  obtain rfl:l=[]:=yau.1 hl
  rcases h2 with h2|⟨ad,c',e,hl,_,ho⟩
  ·exact .inl h2
  ·exact .inr ⟨ad,c',e,hl,fun j u hj=>by simp [u8s] at hj,ho⟩
 ·refine zbU h2 hc (fun b' hb' e=>?_)
  rcases e with e|e
  ·exact src_apart h2 h0 hb hk b' hb' e
  ·exact src_apart h2 h0 hg hj b' hb' e
theorem bk_no_u8 (x0 x1 x2 x3 x4:Int):∀(o:Nat) (x:Int),(#[Value.int .i64 x0,.int .i64 x1,.int .i64 x2,.int .i64 x3,.int .i64 x4]:Array Value)[o]?≠some (.int .u8 x):=by
 intro o x e
 rcases o with _|_|_|_|_|o<;>simp at e
def bkC (at':Nat) (x:SegI):Array Value:=#[.int .i64 (at':Int),.int .i64 (x.blk.length:Int),.int .i64 x.lo,.int .i64 x.hi,.int .i64 (x.n:Int)]
theorem bkS_info:(Tryz.prog.info? 164).map (·.size)=some 5:=by kernel_rfl
theorem sgBlock_any (w:World) (r at':Nat) (x:SegI) (rest:List UInt8) (h:SgR w r (bkP x++rest)) (hx:x.Ok) (hg:HasET w) :
 Calls Tryz.prog 127 #[.pointer (some ⟨r,0,none⟩),.int .i64 (at':Int)] w fun e w'=>e=.returned (.agg (bkC at' x))∧SgR w' r rest∧Chg (·=r) w w':=by
 have HH:=hid h
 have HG:=hid hg
 have HE:Hid (bkP x++rest=varP x.blk.length++(varP (zig x.lo)++(varP (zig x.hi)++(varP x.n++rest)))):=hid (by unfold bkP;simp only [yaj])
 have HOK:=hid hx
 obtain ⟨nm,bk,lo,hi,n⟩:=x
 have hb0:=hx.b0
 have hb1:=hx.b1
 have hl0:=hx.l0
 have hl1:=hx.l1
 have hl2:=hx.l2
 have hn0:=hx.n0
 have hn1:=hx.n1
 simp only at hb0 hb1 hl0 hl1 hl2 hn0 hn1
 rw [HE.out] at HH
 unfold bkC
 simp only at HH ⊢
 obtain ⟨bn,hbn⟩:∃bn,bn=bk.length:=⟨_,rfl⟩
 rw [←hbn] at HH hb0 hb1 ⊢
 clear h hg HE HOK hx hbn
 go_enter Tryz.func127,Tryz.ntmps127
 go_upto_region 1 with fail
 generalize hW:World.alloc _ _=W
 obtain ⟨g,hgg⟩:∃g,g=w.heap.size:=⟨_,rfl⟩
 have HXW:Hid (Ext w W):=hid (by rw [←hW];exact (Ext.refl w).alloc _)
 have HGB:Hid (W.heap[g]?=some (.cells #[.int .i64 0,.int .i64 0,.int .i64 0,.int .i64 0,.int .i64 0] 164 (0,0))):=hid (by rw [←hW,hgg];exact heap_alloc_new w _)
 have HRG:Hid (r<g):=hid (by rw [hgg];exact HH.out.lt)
 have HGN:Hid (w.heap.size≤g):=hid (by omega)
 rw [←hgg]
 clear hW hgg
 go_wp2_with fail
 refine (sgNum_any W r bn 1048576 _ (HH.out.ext HXW.out) hb0 hb1 (by omega) (HG.out.ext HXW.out)).mono ?_
 rintro e w1 ⟨rfl,hr1,hc1⟩
 have HR1:=hid hr1
 have HC1:=hid ((Chg.of_ext HXW.out).trans hc1 (fun _ _ e=>e))
 have HG1:=hid ((hc1.block g (zab HGB.out) (fun e=>by have:=HRG.out;omega)).trans HGB.out)
 clear hr1 hc1
 have HG1E:=hid ((HH.out.et HG.out HC1.out))
 go_wp2_with fail
 refine (sgTime_any w1 r lo _ HR1.out hl0 (by omega) HG1E.out).mono ?_
 rintro e w2 ⟨rfl,hr2,hc2⟩
 have HR2:=hid hr2
 have HG2E:=hid (HR1.out.et HG1E.out hc2)
 have HC2:=hid (HC1.out.trans hc2 (fun _ _ e=>e))
 have HG2:=hid ((hc2.block g (zab HG1.out) (fun e=>by have:=HRG.out;omega)).trans HG1.out)
 clear hr2 hc2
 go_wp2_with fail
 refine (sgTime_any w2 r hi _ HR2.out (by omega) hl2 HG2E.out).mono ?_
 rintro e w3 ⟨rfl,hr3,hc3⟩
 have HR3:=hid hr3
 have HG3E:=hid (HR2.out.et HG2E.out hc3)
 have HC3:=hid (HC2.out.trans hc3 (fun _ _ e=>e))
 have HG3:=hid ((hc3.block g (zab HG2.out) (fun e=>by have:=HRG.out;omega)).trans HG2.out)
 clear hr3 hc3
 go_upto_region 2 with fail
 generalize hW:World.alloc _ _=W4
 obtain ⟨b,hbb⟩:∃b,b=w3.heap.size:=⟨_,rfl⟩
 have HX4:Hid (Ext w3 W4):=hid (by rw [←hW];exact (Ext.refl w3).alloc _)
 have HB4:Hid (W4.heap[b]?=some (.cells #[.int .i64 (at':Int),.int .i64 (bn:Int),.int .i64 lo,.int .i64 hi,.int .i64 0] 164 (0,0))):=hid (by rw [←hW,hbb];exact heap_alloc_new w3 _)
 have HBG:Hid (r<b∧g<b∧w.heap.size≤b):=hid (by have:=HR3.out.lt;have:=zab HG3.out;have:=HGN.out;omega)
 rw [←hbb]
 clear hW hbb
 go_wp2_with fail
 refine (sgNum_any W4 r n 4096 _ (HR3.out.ext HX4.out) hn0 hn1 (by omega) (HG3E.out.ext HX4.out)).mono ?_
 rintro e w5 ⟨rfl,hr5,hc5⟩
 have HR5:=hid hr5
 have HC5:=hid ((HC3.out.trans (Chg.of_ext HX4.out) (fun _ _ e=>e)).trans hc5 (fun _ _ e=>e))
 have HG5:=hid ((hc5.block g (yan (zab HG3.out) HX4.out.size) (fun e=>by have:=HRG.out;omega)).trans ((HX4.out.block (zab HG3.out)).trans HG3.out))
 have HB5:=hid ((hc5.block b (zab HB4.out) (fun e=>by have:=HBG.out;omega)).trans HB4.out)
 clear hr5 hc5
 go_upto_region 3 with (refine zap rfl _ _ _ rfl b 4 _ #[.int .i64 (at':Int),.int .i64 (bn:Int),.int .i64 lo,.int .i64 hi,.int .i64 (n:Int)] _ _ rfl rfl rfl rfl HB5.out (by simp) rfl (show (Tryz.prog.info? 3).map (·.size)=some 1 from by kernel_rfl) ?_;rintro V6 hbV hcV _he;have HB6:=hid hbV;have HC6:=hid hcV;clear hbV hcV _he)
 simp only [Act.put]
 have y2:=zaa HB6.out 2
 have y3:=zaa HB6.out 3
 simp at y2 y3
 have hd0:¬hi<lo:=by omega
 go_wp2_with fail
 try rw [decide_eq_false hd0]
 refine (zbO V6 r).mono ?_
 rintro e w7 ⟨rfl,rfl⟩
 clear hd0 y2 y3
 have HG6:=hid ((HC6.out.block g (zab HG5.out) (fun e=>by have:=HBG.out;omega)).trans HG5.out)
 go_wp2_with (first|(refine zat rfl _ _ rfl _ _ _ _ _ rfl HB6.out Tryz.underlying164 rfl bkS_info ?_)|(refine zai rfl _ _ _ rfl _ _ _ _ rfl rfl HG6.out rfl bkS_info (by simp [Value.oneCell']) ?_;rintro V8 hbV hcV;have HB8:=hid hbV;have HC8:=hid hcV;clear hbV hcV))
 refine yaE (zaZ Tryz.results127 _ _ rfl HB8.out Tryz.underlying164 rfl bkS_info) rfl ?_
 have hCC:Chg (fun k=>k=b∨k=g) w5 V8:=(HC6.out.mono (fun k _ e=>.inl e)).trans (HC8.out.mono (fun k _ e=>.inr e)) (fun _ _ e=>e)
 refine ⟨rfl,?_,?_⟩
 ·exact HR5.out.off HB5.out HG5.out (bk_no_u8 _ _ _ _ _) (bk_no_u8 _ _ _ _ _) hCC (by have:=HBG.out;have:=HRG.out;omega)
 ·refine (HC5.out.trans hCC (fun i hi e=>?_))
  have:=HBG.out
  have:=HGN.out
  omega
theorem zbN {T:Nat→Prop}{w w':World}{g:Option Addr}{size n c:Nat}{xs:List Value}(h:Src w size (.slice g n c) n xs) (hc:Chg T w w') (hn:∀b,g.map (·.block)=some b→¬T b):Src w' size (.slice g n c) n xs:=by
 rcases h with h|⟨ad,c',e,hl,hs,h1⟩
 ·exact .inl h
 ·refine .inr ⟨ad,c',e,hl,fun j u hj=>?_,h1⟩
  have h0:=hs j u hj
  cases e
  have hb:(ad.add j).block=ad.block:=by unfold Addr.add;split<;>rfl
  rw [hc.cell (by rw [hb];exact hb▸yaf w _ h0) (by rw [hb];exact hn _ rfl)]
  exact h0
def offI (L:List SegI) (k:Nat):Nat:=(bodyL (L.take k)).length
theorem take_snocI {L:List SegI}{k:Nat}{x:SegI}(h:L[k]?=some x):L.take (k+1)=L.take k++[x]:=by rw [yao,h];rfl
theorem offI_next {L:List SegI}{k:Nat}{x:SegI}(h:L[k]?=some x):offI L (k+1)=offI L k+x.blk.length:=by
 unfold offI
 rw [take_snocI h,bodyL_snoc,yae]
theorem offI_all {L:List SegI}:offI L L.length=(bodyL L).length:=by unfold offI;rw [List.take_length]
theorem offI_le {L:List SegI}{k:Nat}{x:SegI}(h:L[k]?=some x):offI L k+x.blk.length≤(bodyL L).length:=by
 rw [←offI_next h]
 have e:bodyL L=bodyL (L.take (k+1))++bodyL (L.drop (k+1)):=by unfold bodyL;rw [←List.flatMap_append,yaS]
 rw [e,yae]
 unfold offI
 omega
theorem drop_consI {L:List SegI}{k:Nat}{x:SegI}(h:L[k]?=some x):L.drop k=x::L.drop (k+1):=by
 have hk:=(yad.1 h).1
 rw [yaA hk,(yad.1 h).2]
theorem items_drop {L:List SegI}{k:Nat}{x:SegI}(h:L[k]?=some x):zbb (L.drop k)=varP 1++(bkP x++zbb (L.drop (k+1))):=by
 rw [drop_consI h]
 show itemP x++zbb (L.drop (k+1))=_
 unfold itemP
 rw [yaj]
theorem body_part {L:List SegI}{k:Nat}{x:SegI}(h:L[k]?=some x):((bodyL L).drop (offI L k)).take x.blk.length=x.blk:=by
 have e:bodyL L=bodyL (L.take k)++bodyL (L.drop k):=by unfold bodyL;rw [←List.flatMap_append,yaS]
 unfold offI
 rw [e,List.drop_left,drop_consI h,bodyL_cons,List.take_left]
structure MapAt (w:World) (mb lo:Nat) (L:List SegI) (k:Nat) (M:List (ByteArray×Value)):Prop where
 map:MapIs (fun s:ByteArray=>Value.string s) w mb M
 keys:M.map (·.1)=(zay L).take k
 vals:∀i x,i<k→L[i]?=some x→∃g c,aget M x.name=some (.slice (some ⟨g,0,none⟩) 1 c)∧lo≤g∧Src w 5 (.slice (some ⟨g,0,none⟩) 1 c) 1 (bkC (offI L i) x).toList
theorem MapAt.chg {T:Nat→Prop}{w w':World}{mb lo k:Nat}{L:List SegI}{M:List (ByteArray×Value)}(h:MapAt w mb lo L k M) (hc:Chg T w w') (hm:¬T mb) (hl:∀b,T b→b<lo):MapAt w' mb lo L k M :=
 ⟨h.map.chg hc hm,h.keys,fun i x hi hx=>by
   obtain ⟨g,c,e,h1,h2⟩:=h.vals i x hi hx
   exact ⟨g,c,e,h1,zbN h2 hc (fun b hb e=>by simp at hb;subst hb;have:=hl _ e;omega)⟩⟩
theorem MapAt.ext {w w':World}{mb lo k:Nat}{L:List SegI}{M:List (ByteArray×Value)}(h:MapAt w mb lo L k M) (hx:Ext w w'):MapAt w' mb lo L k M :=
 h.chg (Chg.of_ext (S:=fun _=>False) hx) id (fun _ e=>e.elim)
theorem MapAt.next {w w':World}{mb lo k g c:Nat}{L:List SegI}{M:List (ByteArray×Value)}{x:SegI}(h:MapAt w mb lo L k M) (hn:(zay L).Nodup) (hx:L[k]?=some x) (hg:lo≤g)
 (hs:Src w 5 (.slice (some ⟨g,0,none⟩) 1 c) 1 (bkC (offI L k) x).toList) (hm:MapIs (fun s:ByteArray=>Value.string s) w' mb (aput M x.name (.slice (some ⟨g,0,none⟩) 1 c))) (hc:Chg (·=mb) w w') (hl:mb<lo):MapAt w' mb lo L (k+1) (aput M x.name (.slice (some ⟨g,0,none⟩) 1 c)):=by
 have hxn:(zay L)[k]?=some x.name:=by unfold zay;rw [yar,hx];rfl
 have hkl:=(yad.1 hxn).1
 have hnone:aget M x.name=none:=by
  rw [zaX,h.keys]
  intro hmem
  obtain ⟨i,hi,e⟩:=yaH.1 hmem
  rw [yaB] at hi
  rw [List.getElem_take] at e
  have e2:(zay L)[k]=x.name:=(yad.1 hxn).2
  have:=(List.getElem_inj hn).1 (e.trans e2.symm)
  omega
 refine ⟨hm,?_,fun i y hi hy=>?_⟩
 ·rw [zcs _ hnone,yav,h.keys,yao,hxn];rfl
 ·by_cases hik:i=k
  ·subst hik
   rw [hx] at hy
   cases hy
   exact ⟨g,c,zct _ _ _,hg,zbN hs hc (fun b hb e=>by simp at hb;omega)⟩
  ·obtain ⟨g',c',e,h1,h2⟩:=h.vals i y (by omega) hy
   refine ⟨g',c',?_,h1,zbN h2 hc (fun b hb e=>by simp at hb;omega)⟩
   have hyn:(zay L)[i]?=some y.name:=by unfold zay;rw [yar,hy];rfl
   rw [zbY]
   ·exact e
   ·intro e2
    have hil:=(yad.1 hyn).1
    have e3:(zay L)[i]=(zay L)[k]:=by rw [(yad.1 hyn).2,(yad.1 hxn).2,e2]
    exact hik ((List.getElem_inj hn).1 e3)
theorem elem_sbk:ElemOk Tryz.prog 159 164 5 40 :=
 ⟨Tryz.underlying159,by
   obtain ⟨i0,hi,hz0,hz1,hz2⟩:=info_parts (show (Tryz.prog.info? 164).map (fun i=>(i.zero,i.size,i.bytes))=some (some (.agg #[.int .i64 0,.int .i64 0,.int .i64 0,.int .i64 0,.int .i64 0]),5,40) from by kernel_rfl)
   exact ⟨i0,_,hi,hz0,hz1,hz2,rfl⟩,by decide⟩
theorem bkC_one (at':Nat) (x:SegI):∀u∈(bkC at' x).toList,u.oneCell'=true:=by
 intro u hu
 simp [bkC] at hu
 rcases hu with rfl|rfl|rfl|rfl|rfl<;>rfl
theorem src_bk {W:World}{b at':Nat}{x:SegI}{t:TypeId}{fr:Nat×Nat}(h:W.heap[b]?=some (.cells (bkC at' x) t fr)):Src W 5 (.slice (some ⟨b,0,none⟩) 1 1) 1 (bkC at' x).toList:=by
 refine .inr ⟨_,_,rfl,by simp [bkC],fun j u hj=>?_,bkC_one at' x⟩
 rw [yak,Nat.zero_add,zaa h]
 simpa using hj
def SegAt (w:World) (p:Nat) (L:List SegI):Prop :=
 ∃ba bc na nc mb lo M,w.heap[p]?=some (.cells #[.slice ba (bodyL L).length bc,.slice na L.length nc,.map (some mb)] 162 (0,0))∧Src w 1 (.slice ba (bodyL L).length bc) (bodyL L).length (u8s (bodyL L))∧(bodyL L).length≤bc ∧
  Src w 1 (.slice na L.length nc) L.length (strs (zay L))∧MapAt w mb lo L L.length M
theorem SegAt.ext {w w':World}{p:Nat}{L:List SegI}(h:SegAt w p L) (hx:Ext w w'):SegAt w' p L:=by
 obtain ⟨ba,bc,na,nc,mb,lo,M,h1,h2,h3,h4,h5⟩:=h
 exact ⟨ba,bc,na,nc,mb,lo,M,(hx.block (zab h1)).trans h1,h2.ext hx,h3,h4.ext hx,h5.ext hx⟩
def FootPost (w:World) (F:List UInt8) (at':Nat) (e:Ending) (w':World):Prop:=∃fa fc,e=.returned (.tuple #[.slice fa F.length fc,.int .i64 (at':Int),.bool true])∧MadeTo w 5 1 (.slice fa F.length fc) F.length (u8s F) w'
theorem foot_ok (w:World) (a:Option Addr) (n c:Nat) (C F:List UInt8) (hs:Src w 1 (.slice a n c) n (u8s (C++(sealL 5 F++sealL 6 (le4 (sealL 5 F).length))))) (hnc:n≤c) (hF:F.length≤1000000) (hn:n≤1048576) :
 Calls Tryz.prog 121 #[.slice a n c] w (FootPost w F C.length):=by
 have hln:=zax hs
 rw [yae,yae,zbh 6,le4_len] at hln
 obtain ⟨sn,hsn⟩:∃sn,sn=(sealL 5 F).length:=⟨_,rfl⟩
 obtain ⟨q,hq⟩:∃q,q=n-13:=⟨_,rfl⟩
 obtain ⟨cn,hcn⟩:∃cn,cn=C.length:=⟨_,rfl⟩
 rw [←hsn,←hcn] at hln
 have hq1:q=cn+sn:=by omega
 have hsF:sn=F.length+9:=by rw [hsn,zbh]
 have HE:Hid (Src w 1 (.slice (cutA a c q) (n-q) (c-q)) (n-q) (u8s (sealL 6 (le4 sn)))):=hid (by
  have h:=zbM (k:=q) hs (by omega) hnc
  have e:(C++(sealL 5 F++sealL 6 (le4 (sealL 5 F).length))).drop q=sealL 6 (le4 sn):=by
   rw [←yaj,←hsn]
   exact List.drop_left' (by rw [yae,←hsn,←hcn];omega)
  rw [e] at h
  exact h)
 have HFT:Hid (Src w 1 (.slice (cutA a c cn) (q-cn) (c-cn)) (q-cn) (u8s (sealL 5 F))):=hid (by
  have h:=zde (l:=cn) (h:=q) (m:=c) hs (by omega) (by omega) (by omega) (by omega)
  rw [u8s_drop,zdR] at h
  have e:((C++(sealL 5 F++sealL 6 (le4 (sealL 5 F).length))).drop cn).take (q-cn)=sealL 5 F:=by
   rw [hcn,List.drop_left,←hcn]
   exact List.take_left' (by rw [←hsn];omega)
  rw [e] at h
  exact h)
 have hs1:∀W,(Instr.slice 51 (.slice a n c) (some (.int .i64 (q:Int))) none none).run Tryz.prog W=.ok (.slice (cutA a c q) (n-q) (c-q)) W:=zbi Tryz.underlying51 fr_u8 a n c q (by omega)
 have hs2:∀W,(Instr.slice 51 (.slice a n c) (some (.int .i64 (cn:Int))) (some (.int .i64 (q:Int))) none).run Tryz.prog W=.ok (.slice (cutA a c cn) (q-cn) (c-cn)) W:=zcG Tryz.underlying51 fr_u8 a n c cn q (by omega) (by omega)
 have HO1:=hid (open_any w _ _ _ _ HE.out (by omega) (by omega))
 have HO2:=hid (fun W (hx:Ext w W)=>open_any W _ _ _ _ (HFT.out.ext hx) (by omega) (by omega))
 rw [openR_seal 6 _ (by rw [le4_len];omega)] at HO1
 rw [openR_seal 5 _ (by omega)] at HO2
 have HLE:Hid (leN (le4 sn)=sn):=hid (leN_le4 (by omega))
 have HFL:Hid (F.length+9=sn):=hid hsF.symm
 rw [←hcn]
 generalize cutA a c q=a1 at *
 generalize n-q=n1 at *
 generalize c-q=c1 at *
 generalize cutA a c cn=a2 at *
 generalize q-cn=n2 at *
 generalize c-cn=c2 at *
 have hq2:¬(n:Int)<13:=by omega
 have hq3:(n:Int)-13=(q:Int):=by omega
 have hq4:¬(q:Int)<(sn:Int):=by omega
 have hq5:(q:Int)-(sn:Int)=(cn:Int):=by omega
 have hq6:sn≤1048576:=by omega
 clear hs hln hsn hq hcn hq1 hsF HE HFT
 go_enter Tryz.func121,Tryz.ntmps121
 go_wp2_with fail
 refine HO1.out.mono ?_
 rintro e w1 ⟨a3,c3,rfl,hm3⟩
 dsimp only at hm3 ⊢
 rw [le4_len] at hm3 ⊢
 have HM3:=hid hm3
 clear hm3 hs1
 go_wp2_with fail
 refine (little_any w1 a3 c3 (le4 sn) (HM3.out.row.src (zaH _))).mono ?_
 rintro e w2 ⟨rfl,hx2⟩
 rw [HLE.out]
 have HX2:=hid (HM3.out.ext.trans hx2)
 have hw:IntKind.i64.wrap (sn:Int)=(sn:Int):=IntWalk.i64_in _ (by omega)
 clear hx2
 go_wp2_with fail
 refine (HO2.out w2 HX2.out).mono ?_
 rintro e w4 ⟨a5,c5,rfl,hm5⟩
 dsimp only at hm5 ⊢
 have HM5:=hid (MadeTo.trans HX2.out hm5)
 clear hm5 hs2 hw
 go_wp2_with fail
 go_ret3
 exact ⟨a5,c5,rfl,HM5.out⟩
theorem colEncode' (w:World) (a:Option Addr) (n c:Nat) (l:List Pt) (hl:Src w 3 (.slice a n c) n (pts l)) (hv:colV l=true) :
 Calls Tryz.prog 120 #[.slice a n c] w fun e w'=>∃a c,e=.returned (.tuple #[.slice a (zaO l).length c,.int .i64 0])∧MadeTo w 5 1 (.slice a (zaO l).length c) (zaO l).length (u8s (zaO l)) w':=by
 refine (colEncode_any w a n c l hl hv).mono ?_
 rintro e w' ⟨A,V,S,hA,hV,hS,a',c',rfl,hm⟩
 have hn:=zbI hl
 have e1:sealL 3 (colL n A V S)=zaO l:=by
  unfold zaO colIn timesA zdQ seqsA
  rw [←hA.pack,←hV.pack,←hS.pack,hn]
 rw [e1] at hm ⊢
 exact ⟨a',c',rfl,hm⟩
def BuiAt (w0:World) (ob fb:Nat) (O F:List UInt8) (W:World):Prop :=
 w0.heap.size≤ob∧ob<fb∧Ext w0 W∧∃oa oc fa fc,W.heap[ob]?=some (.cells #[.slice oa O.length oc] 51 (0,0))∧W.heap[fb]?=some (.cells #[.slice fa F.length fc] 51 (0,0)) ∧
  Row W 5 1 (.slice oa O.length oc) O.length (u8s O)∧Row W 5 1 (.slice fa F.length fc) F.length (u8s F) ∧
  (∀g,(Value.slice oa O.length oc).ownBlock=some g→w0.heap.size≤g∧g≠ob∧g≠fb)∧(∀g,(Value.slice fa F.length fc).ownBlock=some g→w0.heap.size≤g∧g≠ob∧g≠fb) ∧
  ∀g,(Value.slice oa O.length oc).ownBlock=some g→(Value.slice fa F.length fc).ownBlock≠some g
theorem BuiAt.ext {w0 W V:World}{ob fb:Nat}{O F:List UInt8}(h:BuiAt w0 ob fb O F W) (hx:Ext W V):BuiAt w0 ob fb O F V:=by
 obtain ⟨h1,h2,h3,oa,oc,fa,fc,b1,b2,r1,r2,o1,o2,o3⟩:=h
 exact ⟨h1,h2,h3.trans hx,oa,oc,fa,fc,(hx.block (zab b1)).trans b1,(hx.block (zab b2)).trans b2,r1.ext hx,r2.ext hx,o1,o2,o3⟩
theorem BuiAt.more {w0 W W1 W2 V:World}{ob fb:Nat}{O F B:List UInt8}{oa fa va:Option Addr}{oc fc vc:Nat}
 (h1:w0.heap.size≤ob) (h2:ob<fb) (h3:Ext w0 W) (b1:W.heap[ob]?=some (.cells #[.slice oa O.length oc] 51 (0,0))) (b2:W.heap[fb]?=some (.cells #[.slice fa F.length fc] 51 (0,0)))
 (r2:Row W 5 1 (.slice fa F.length fc) F.length (u8s F))
 (o1:∀g,(Value.slice oa O.length oc).ownBlock=some g→w0.heap.size≤g∧g≠ob∧g≠fb) (o2:∀g,(Value.slice fa F.length fc).ownBlock=some g→w0.heap.size≤g∧g≠ob∧g≠fb)
 (o3:∀g,(Value.slice oa O.length oc).ownBlock=some g→(Value.slice fa F.length fc).ownBlock≠some g)
 (hx:Ext W W1) (ha:Appended W1 5 1 (.slice oa O.length oc) (O.length+B.length) (u8s O++u8s B) (.slice va (O.length+B.length) vc) W2)
 (hb:V.heap[ob]?=some (.cells #[.slice va (O.length+B.length) vc] 51 (0,0))) (hc:Chg (·=ob) W2 V):BuiAt w0 ob fb (O++B) F V:=by
 have s1:=hx.size
 have s2:=ha.chg.size
 have s3:=h3.size
 have lo:=zab b1
 have lf:=zab b2
 have hloc:∀g,(Value.slice va (O.length+B.length) vc).ownBlock=some g→(Value.slice oa O.length oc).ownBlock=some g∨g=W1.heap.size:=fun g hg=>by
  rcases ha.loc with e|e
  ·exact .inl (e▸hg)
  ·rw [e] at hg;exact .inr (yaG hg).symm
 have hC:Chg (fun k=>(Value.slice oa O.length oc).ownBlock=some k∨k=ob) W V:=((Chg.of_ext hx).trans (ha.chg.mono (fun k _ e=>.inl e)) (fun _ _ e=>e)).trans (hc.mono (fun k _ e=>.inr e)) (fun _ _ e=>e)
 refine ⟨h1,h2,((Chg.of_ext h3).trans hC (fun _ _ e=>e)).ext (fun i hi e=>?_),va,vc,fa,fc,?_,?_,?_,?_,?_,o2,?_⟩
 ·rcases e with e|e
  ·have:=(o1 i e).1;omega
  ·omega
 ·rw [yae];exact hb
 ·refine (hC.block fb lf (fun e=>?_)).trans b2
  rcases e with e|e
  ·exact (o1 fb e).2.2 rfl
  ·omega
 ·rw [yae,zbE]
  refine ha.row.chg hc (fun g hg e=>?_)
  rcases hloc g hg with k|k
  ·exact (o1 g k).2.1 e
  ·omega
 ·refine r2.chg hC (fun g hg e=>?_)
  rcases e with e|e
  ·exact o3 g e hg
  ·exact (o2 g hg).2.1 e
 ·intro g hg
  rw [yae] at hg
  rcases hloc g hg with k|k
  ·exact o1 g k
  ·omega
 ·intro g hg
  rw [yae] at hg
  rcases hloc g hg with k|k
  ·exact o3 g k
  ·intro e
   have:=r2.lt e
   omega
theorem BuiAt.put {w0 W W1 V:World}{ob fb:Nat}{O F F':List UInt8}{va:Option Addr}{vc:Nat}(h:BuiAt w0 ob fb O F W) (hm:MadeTo W 5 1 (.slice va F'.length vc) F'.length (u8s F') W1)
 (hb:V.heap[fb]?=some (.cells #[.slice va F'.length vc] 51 (0,0))) (hc:Chg (·=fb) W1 V):BuiAt w0 ob fb O F' V:=by
 obtain ⟨h1,h2,h3,oa,oc,fa,fc,b1,b2,r1,r2,o1,o2,o3⟩:=h
 have s1:=hm.ext.size
 have s3:=h3.size
 have lo:=zab b1
 have lf:=zab b2
 have hC:Chg (·=fb) W V:=(Chg.of_ext hm.ext).trans hc (fun _ _ e=>e)
 refine ⟨h1,h2,((Chg.of_ext h3).trans hC (fun _ _ e=>e)).ext (fun i hi e=>by omega),oa,oc,va,vc,(hC.block ob lo (fun e=>by omega)).trans b1,hb,r1.chg hC (fun g hg e=>(o1 g hg).2.2 e),hm.row.chg hc (fun g hg e=>?_),o1,fun g hg=>?_,fun g hg e=>?_⟩
 ·have:=hm.own g hg;omega
 ·have:=hm.own g hg;omega
 ·have:=hm.own g e
  have:=r1.lt hg
  omega
theorem BuiAt.foot {w0 W:World}{ob fb:Nat}{O F:List UInt8}(h:BuiAt w0 ob fb O F W):∃fa fc,W.heap[fb]?=some (.cells #[.slice fa F.length fc] 51 (0,0))∧Src W 1 (.slice fa F.length fc) F.length (u8s F)∧F.length≤fc:=by
 obtain ⟨_,_,_,_,_,fa,fc,_,b2,_,r2,_⟩:=h
 exact ⟨fa,fc,b2,r2.src (zaH _),zcj r2⟩
theorem BuiAt.out {w0 W:World}{ob fb:Nat}{O F:List UInt8}(h:BuiAt w0 ob fb O F W):∃oa oc,W.heap[ob]?=some (.cells #[.slice oa O.length oc] 51 (0,0))∧Row W 5 1 (.slice oa O.length oc) O.length (u8s O)∧(∀g,(Value.slice oa O.length oc).ownBlock=some g→w0.heap.size≤g):=by
 obtain ⟨_,_,_,oa,oc,_,_,b1,_,r1,_,o1,_⟩:=h
 exact ⟨oa,oc,b1,r1,fun g hg=>(o1 g hg).1⟩
theorem zdA:(Tryz.prog.info? 51).map (·.size)=some 1:=by kernel_rfl
theorem build1_any (w0 w:World) (ob fb:Nat) (O F:List UInt8) (h:BuiAt w0 ob fb O F w) (hO:O.length≤1048576) (hF:F.length≤1048576) (nm:ByteArray) (a:Option Addr) (n c:Nat) (l:List Pt) (hl:Src w0 3 (.slice a n c) n (pts l)) (hv:colV l=true) :
 Calls Tryz.prog 119 #[.slice a n c,.pointer (some ⟨ob,0,none⟩),.pointer (some ⟨fb,0,none⟩)] w fun e w'=>e=.returned (.tuple #[])∧BuiAt w0 ob fb (O++zaO l) (F++bkP (itemOf (nm,l))) w':=by
 have hln:=zbI hl
 have hlv:=zcr hv
 have hcl:=colBytes_len hlv.2
 have hsp:=span_colV hv
 have HEN:=hid (colEncode' w a n c l (hl.ext h.2.2.1) hv)
 have HL:=hid hl
 have HB:=hid h
 obtain ⟨p0,hp0,_,hlo⟩:=loT_mem hlv.1
 obtain ⟨p1,hp1,_,hhi⟩:=hiT_mem hlv.1
 have HP:=hid (And.intro hp0 hp1)
 have HK:Hid (bkP (itemOf (nm,l))=varP (zaO l).length++(varP (zig p0.t)++(varP (zig p1.t)++varP n))):=hid (by
  unfold bkP itemOf
  simp only
  rw [hlo,hhi,hln])
 rw [hlo,hhi] at hsp
 have hb1:-9223372036854775808≤p0.t∧p0.t≤9223372036854775807:=by omega
 have hb2:-9223372036854775808≤p1.t∧p1.t≤9223372036854775807:=by omega
 have HBB:=hid (And.intro hb1 hb2)
 rw [HK.out]
 have hB:(zaO l).length≤200000:=by omega
 have hn0:0<n:=by omega
 have hn4:n≤4096:=by omega
 have HLN:=hid hln
 have HE0:Hid (0<(zaO l).length):=hid hcl.1
 generalize zaO l=B at *
 clear hl hv h hlv hcl hsp hp0 hp1 hlo hhi hb1 hb2 HK hln
 go_enter Tryz.func119,Tryz.ntmps119
 go_wp2_with fail
 refine HEN.out.mono ?_
 rintro e w1 ⟨ba,bc,rfl,hm1⟩
 have HM1:=hid hm1
 have hB1:=HB.out.ext hm1.ext
 obtain ⟨h1,h2,h3,oa,oc,fa,fc,b1,b2,r1,r2,o1,o2,o3⟩:=hB1
 have HR1:=hid r1
 have HO1:=hid b1
 have HMORE:=hid (fun W1 W2 V va vc (hx:Ext w1 W1) ha hb hc=>BuiAt.more (B:=B) (va:=va) (vc:=vc) h1 h2 h3 b1 b2 r2 o1 o2 o3 hx ha (V:=V) (W2:=W2) hb hc)
 have z1:=zaa b1 0
 simp at z1
 have HOWN:=hid o1
 clear hm1 HEN h1 h2 h3 b1 b2 r1 r2 o1 o2 o3
 obtain ⟨on,hon⟩:∃on,on=O.length:=⟨_,rfl⟩
 obtain ⟨bn,hbn⟩:∃bn,bn=B.length:=⟨_,rfl⟩
 rw [←hon] at z1 hO HR1 HO1 HMORE HOWN
 rw [←hbn] at HM1 HMORE hB HE0 ⊢
 have hb0:0<bn:=HE0.out
 have HON:=hid hon
 have HBN:=hid hbn
 clear hon hbn
 go_upto_region 2 with (first
  | (at_builtin;go_must (refine zah (n:=on) (m:=bn) zcI rfl _ _ rfl rfl rfl HR1.out (HM1.out.row.src (zaH _)) (by unfold maxLen;omega) (by omega) ?_;intro v2 w2 happ;obtain ⟨va,vc,rfl⟩:=happ.row.shape;have HA:=hid happ;have HO2:Hid (w2.heap[ob]?=some (.cells #[.slice oa on oc] 51 (0,0))):=hid ((happ.chg.block ob (zab HO1.out) (fun e=>(HOWN.out ob e).2.1 rfl)).trans HO1.out)))
  | (refine zap rfl _ _ _ rfl ob 0 _ #[.slice va (on+bn) vc] _ _ rfl rfl rfl rfl HO2.out (by simp) rfl zdA ?_;rintro V hbV hcV _he;have HB2:=hid (HMORE.out w1 w2 V va vc (Ext.refl _) HA.out hbV hcV);clear hbV hcV _he))
 obtain ⟨fa,fc,b2,s2,hfc⟩:=HB2.out.foot
 obtain ⟨fn,hfn⟩:∃fn,fn=F.length:=⟨_,rfl⟩
 rw [←hfn] at b2 s2 hfc hF
 have HFN0:=hid hfn
 clear hfn
 have z2:=zaa b2 0
 simp at z2
 have hwb:IntKind.u64.wrap (bn:Int)=(bn:Int):=by rw [IntKind.wrap_u64];omega
 have HPUT:=hid (varPut' V fa fn fc F bn (by omega) s2 hfc (by omega))
 have HF2:=hid b2
 have hl1:=zaQ (u:=bn) (by omega)
 clear b2 s2 hfc z1
 clear HA HMORE HR1 HO1 HOWN happ HO2
 go_wp2_with fail
 refine HPUT.out.mono ?_
 rintro e w3 ⟨va3,vc3,rfl,hm3⟩
 have hn1:(F++varP bn).length=fn+(varP bn).length:=by rw [yae,←HFN0.out]
 obtain ⟨f1,hf1⟩:∃f1,f1=(F++varP bn).length:=⟨_,rfl⟩
 have hf1l:f1≤1048586:=by omega
 have HF3:=hid ((hm3.ext.block (zab HF2.out)).trans HF2.out)
 have HPT:=hid (fun X hb hc=>BuiAt.put (V:=X) HB2.out hm3 hb hc)
 rw [←hf1] at HPT ⊢
 have HFN1:=hid hf1
 clear hm3 hn1 hf1 z2 hwb hl1 HPUT HF2
 go_upto_region 3 with (refine zap rfl _ _ _ rfl fb 0 _ #[.slice va3 f1 vc3] _ _ rfl rfl rfl rfl HF3.out (by simp) rfl zdA ?_;rintro V3 hbV hcV _he;have HB3:=hid (HPT.out V3 hbV hcV);clear hbV hcV _he)
 obtain ⟨fa3,fc3,b3,s3,hfc3⟩:=HB3.out.foot
 rw [←HFN1.out] at b3 s3 hfc3
 have z3:=zaf (T:=fun _=>false) (by have:=zaa b3 0;simpa using this:V3.cell? ⟨fb,0,none⟩=some (.slice fa3 f1 fc3)) rfl
 have HL3:=hid (HL.out.ext HB3.out.2.2.1)
 obtain ⟨j,hj⟩:∃j,j=n-1:=⟨_,rfl⟩
 have hjn:j<n:=by omega
 have hwj:IntKind.i64.wrap ((n:Int)-1)=(j:Int):=by rw [IntWalk.i64_in _ (by omega)];omega
 obtain ⟨pb,po,q0,rfl,hq0,t0,_,_⟩:=zbz HL3.out hn0
 obtain ⟨pb1,po1,q1,e1,hq1,t1,_,_⟩:=zbz HL3.out hjn
 cases e1
 obtain rfl:q0=p0:=by rw [HP.out.1] at hq0;exact (yaG hq0).symm
 obtain rfl:q1=p1:=by have:=HP.out.2;rw [HLN.out,←hj,hq1] at this;exact yaG this
 obtain ⟨x0,hx0⟩:∃x,x=q0.t:=⟨_,rfl⟩
 obtain ⟨x1,hx1⟩:∃x,x=q1.t:=⟨_,rfl⟩
 have HXB:=HBB.out
 rw [←hx0,←hx1] at HXB
 rw [←hx0] at t0
 rw [←hx1] at t1
 have HXB:=hid HXB
 have HX01:=hid (And.intro hx0 hx1)
 have y0:=zaf (T:=fun _=>false) t0 rfl
 have y1:=zaf (T:=fun _=>false) t1 rfl
 simp only [Nat.zero_mul,Nat.add_zero] at y0
 have HPU1:=hid (fun X (hX:Ext V3 X)=>zdO X fa3 f1 fc3 (F++varP bn) x0 HXB.out.1.1 HXB.out.1.2 (s3.ext hX) hfc3 (by omega))
 have HB3':=hid b3
 clear hq0 hq1 hx0 hx1 t0 t1 b3 s3 hj HL HBB HP HL3
 simp only [Act.put]
 refine zao 13 (fun w'=>∃z:Turned,w'=turned V3 (fun _=>false) z.d z.f z.os) (.reads [0,1,2,3,4,6,7,8,9,10,11,12] (.one 5 (.one 13 (.one 14 .done)))) (by kernel_rfl) (by kernel_rfl) (fun _ _ dd _ _ hh=>by cases dd<;>exact hh) ?_ ?_
 ·exact zad (Ext.drewN V3 1)
 refine zak ?_
 simp only [zac,yab,yaa]
 repeat (go_big_quiet_step (fail))
 refine yaF ?_
 clear y0 y1 z3 hwj
 change zaA _ _ _ _ _ _ _ _ (V3.drewN 1)
 have HXd:Hid (Ext V3 (V3.drewN 1)):=hid (Ext.drewN V3 1)
 generalize V3.drewN 1=Wd at HXd ⊢
 refine zae ?_
 simp only [zac,yab,yaa]
 go_wp2_with fail
 refine (HPU1.out Wd HXd.out).mono ?_
 rintro e w4 ⟨va4,vc4,rfl,hm4⟩
 obtain ⟨f2,hf2⟩:∃f2,f2=(F++varP bn++varP (zig x0)).length:=⟨_,rfl⟩
 have hf2l:f2≤1048596:=by
  have:=zaQ (u:=zig x0) (zig_lt HXB.out.1.1 HXB.out.1.2)
  have:=HFN1.out
  rw [hf2,yae];omega
 rw [←hf2] at hm4 ⊢
 have HF2N:=hid hf2
 have HX4:=hid (HXd.out.trans hm4.ext)
 have HM4:=hid hm4
 clear hf2 hm4 HPU1 HXd
 go_wp2_with fail
 refine zal (zad HX4.out) (zae ?_)
 simp only [zac,yab,yaa]
 go_wp2_with fail
 refine (zdO w4 va4 f2 vc4 (F++varP bn++varP (zig x0)) x1 HXB.out.2.1 HXB.out.2.2 (HM4.out.row.src (zaH _)) (zcj HM4.out.row) (by omega)).mono ?_
 rintro e w5 ⟨va5,vc5,rfl,hm5⟩
 obtain ⟨f3,hf3⟩:∃f3,f3=(F++varP bn++varP (zig x0)++varP (zig x1)).length:=⟨_,rfl⟩
 have hf3l:f3≤1048606:=by
  have:=zaQ (u:=zig x1) (zig_lt HXB.out.2.1 HXB.out.2.2)
  have:=HF2N.out
  rw [hf3,yae];omega
 have hmm:=MadeTo.trans HX4.out hm5
 have HF5:=hid ((hmm.ext.block (zab HB3'.out)).trans HB3'.out)
 have HPT5:=hid (fun X hb hc=>BuiAt.put (V:=X) HB3.out hmm hb hc)
 rw [←hf3] at HPT5 ⊢
 have HX5:=hid hmm.ext
 have HF3N:=hid hf3
 clear hf3 hm5 hmm HM4 HX4
 go_wp2_with fail
 refine zal (zad HX5.out) (zae ?_)
 simp only [zac,yab,yaa]
 go_wp2_with (refine zap rfl _ _ _ rfl fb 0 _ #[.slice va5 f3 vc5] _ _ rfl rfl rfl rfl HF5.out (by simp) rfl zdA ?_;rintro V5 hbV hcV _he;have HB5:=hid (HPT5.out V5 hbV hcV);clear hbV hcV _he)
 refine zau (zav ?_)
 obtain ⟨fa6,fc6,b6,s6,hfc6⟩:=HB5.out.foot
 rw [←HF3N.out] at b6 s6 hfc6
 have z6:=zaa b6 0
 simp at z6
 have HPU6:=hid (varPut' V5 fa6 f3 fc6 _ n (by omega) s6 hfc6 (by omega))
 have HF6:=hid b6
 have hwn:IntKind.u64.wrap (n:Int)=(n:Int):=by rw [IntKind.wrap_u64];omega
 clear b6 s6 hfc6
 go_wp2_with fail
 refine HPU6.out.mono ?_
 rintro e w7 ⟨va7,vc7,rfl,hm7⟩
 obtain ⟨f4,hf4⟩:∃f4,f4=(F++varP bn++varP (zig x0)++varP (zig x1)++varP n).length:=⟨_,rfl⟩
 have HF7:=hid ((hm7.ext.block (zab HF6.out)).trans HF6.out)
 have HPT7:=hid (fun X hb hc=>BuiAt.put (V:=X) HB5.out hm7 hb hc)
 rw [←hf4] at HPT7 ⊢
 clear hf4 hm7 hwn z6
 go_wp2_with (refine zap rfl _ _ _ rfl fb 0 _ #[.slice va7 f4 vc7] _ _ rfl rfl rfl rfl HF7.out (by simp) rfl zdA ?_;rintro V7 hbV hcV _he;have HB7:=hid (HPT7.out V7 hbV hcV);clear hbV hcV _he)
 go_end0
 refine ⟨rfl,?_⟩
 have h7:=HB7.out
 rw [HX01.out.1,HX01.out.2,HBN.out] at h7
 simpa only [yaj] using h7
theorem slice_all (a:Option Addr) (n c:Nat) (hnc:n≤c):∀W,(Instr.slice 38 (.slice a n c) (some (.int .i64 0)) (some (.int .i64 (n:Int))) none).run Tryz.prog W=.ok (.slice a n c) W:=by
 intro W
 have hs:∀W,(sizeOf 76).run Tryz.prog W=.ok 3 W:=fun _=>by kernel_rfl
 have e:(if c=0 then a else a.map (·.add 0))=a:=by
  split
  ·rfl
  ·cases a with
   | none=>rfl
   | some x=>simp [Addr.add]
 have hu:Tryz.prog.underlying 38=some (.slice 76):=Tryz.underlying38
 simp [Instr.slice,Instr.sliceBounds,Instr.sliceBound,run_underlying hu,asIntOf,Sem.run_bind,Result.andThen,hs,hnc]
 simpa using e
def addIf (k:Nat) (F B:List UInt8):List UInt8:=if k=0 then F else F++B
theorem blocks_ok (w0 w:World) (ob fb:Nat) (O F:List UInt8) (h:BuiAt w0 ob fb O F w) (hO:O.length≤1048576) (hF:F.length≤1048576) (nm:ByteArray) (a:Option Addr) (n c:Nat) (l:List Pt) (hl:Src w0 3 (.slice a n c) n (pts l)) (hv:colV l=true) (hn:n≤1024) (hnc:n≤c) :
 Calls Tryz.prog 118 #[.slice a n c,.func (.func 119) #[] #[.pointer (some ⟨ob,0,none⟩),.pointer (some ⟨fb,0,none⟩)]] w fun e w'=>e=.returned (.bool true)∧BuiAt w0 ob fb (O++zaO l) (F++bkP (itemOf (nm,l))) w':=by
 have hln:=zbI hl
 have hn0:0<n:=by have:=(zcr hv).1;omega
 have HB1:=hid (fun W (hb:BuiAt w0 ob fb O F W)=>build1_any w0 W ob fb O F hb hO hF nm a n c l hl hv)
 have HVL:=hid (fun W (h:Ext w0 W)=>colValid_any W a n c l (hl.ext h) (by omega))
 rw [hv] at HVL
 have HB:=hid h
 have hsl:=slice_all a n c hnc
 have hmin:min (1024:Int) (n:Int)=(n:Int):=by omega
 have h0n:(0:Int)<(n:Int):=by omega
 clear h hl hv hln
 go_enter Tryz.func118,Tryz.ntmps118
 go_wp2_with fail
 go_loopw [4,5] (fun s4 s5 wr=>∃(k:Nat) (z:Int),s4=.bool false∧s5=.int .i64 z∧z=1024*(k:Int)∧k≤1∧Hid (BuiAt w0 ob fb (addIf k O (zaO l)) (addIf k F (bkP (itemOf (nm,l)))) wr)) (fun _ t _=>2048-(RowKit.intOf t).toNat)
 case atStart=>exact ⟨0,0,rfl,rfl,by omega,by omega,HB⟩
 case round =>
  obtain ⟨k,z,rfl,rfl,hz,hk,HI⟩:=hrel
  obtain hk0|hk1:k=0∨k=1:=by omega
  ·subst hk0
   obtain rfl:z=0:=by omega
   clear hz hk
   have HI0:Hid (BuiAt w0 ob fb O F wr):=HI
   clear HI
   go_wp2_with fail
   refine zao 19 (fun w'=>∃z:Turned,w'=turned wr (fun _=>false) z.d z.f z.os) (.reads [0] (.one 1 (.reads [2,3,4,5,6,7,8,9,10,11,12,13,14,15,16,17,18] (.one 19 .done)))) (by kernel_rfl) (by kernel_rfl) (fun _ _ dd _ _ hh=>by cases dd<;>exact hh) ?_ ?_
   ·exact zad (Ext.drewN wr 1)
   refine zak ?_
   simp only [zac,yab,yaa]
   repeat (go_big_quiet_step (fail))
   refine yaF ?_
   change zaA _ _ _ _ _ _ _ _ (wr.drewN 1)
   have HXd:Hid (Ext wr (wr.drewN 1)):=hid (Ext.drewN wr 1)
   generalize wr.drewN 1=Wd at HXd ⊢
   refine zae ?_
   simp only [zac,yab,yaa]
   go_wp2_with fail
   refine (HVL.out Wd (HI0.out.2.2.1.trans HXd.out)).mono ?_
   rintro e w3 ⟨rfl,hx3⟩
   have HX3:=hid (HXd.out.trans hx3)
   clear hx3 HXd
   go_wp2_with fail
   refine zal (zad HX3.out) (zak ?_)
   simp only [zac,yab,yaa]
   repeat (go_big_quiet_step (fail))
   refine yaF ?_
   clear h0n hmin hsl
   change zaA _ _ _ _ _ _ _ _ w3
   refine zae ?_
   simp only [zac,yab,yaa]
   go_wp2_with fail
   refine zau (zav ?_)
   go_wp2_with fail
   refine (HB1.out w3 (HI0.out.ext HX3.out)).mono ?_
   rintro e w4 ⟨rfl,hb4⟩
   have HB4:=hid hb4
   clear hb4
   go_wp2_with fail
   go_roundw
   case rel=>exact ⟨1,1024,rfl,by go_num,by omega,by omega,HB4⟩
   case measure=>simp [RowKit.intOf]
  ·subst hk1
   obtain rfl:z=1024:=by omega
   have HI1:Hid (BuiAt w0 ob fb (O++zaO l) (F++bkP (itemOf (nm,l))) wr):=HI
   have hge:¬(1024:Int)<(n:Int):=by omega
   clear hz hk HI
   go_wp2_with fail
   go_ret
   exact ⟨rfl,HI1.out⟩
theorem conv_list (w:World) (l:List UInt8):∃c W',(Go.convert 9 51 (.string ⟨l.toArray⟩)).run Tryz.prog w=.ok (.slice (some ⟨w.heap.size,0,none⟩) l.length c) W'∧l.length≤c∧Src W' 1 (.slice (some ⟨w.heap.size,0,none⟩) l.length c) l.length (u8s l)∧Ext w W':=by
 have h:=run_bytes_of_string (P:=Tryz.prog) w 9 51 5 ⟨l.toArray⟩ Tryz.underlying9 Tryz.underlying51 Tryz.underlying5
 have hsz:(⟨l.toArray⟩:ByteArray).size=l.length:=by show l.toArray.size=_;simp
 rw [hsz] at h
 refine ⟨_,_,h,grownCap_ge _ _ _ _,?_,(Ext.refl w).drew.alloc _⟩
 refine .inr ⟨_,_,rfl,by simp [u8s],fun j u hj=>?_,zaH _⟩
 have hb:=heap_alloc_new w.drew (.cells (bytesRow ⟨l.toArray⟩ (grownCap w l.length 0 5)) 5 ((bytesRow ⟨l.toArray⟩ (grownCap w l.length 0 5)).size,(bytesRow ⟨l.toArray⟩ (grownCap w l.length 0 5)).size+1))
 have e:w.drew.heap.size=w.heap.size:=by simp
 rw [e] at hb
 rw [yak,Nat.zero_add,zaa hb]
 have hjl:j<l.length:=by have:=(yad.1 hj).1;simpa [u8s] using this
 unfold bytesRow
 rw [Array.getElem?_append_left (by simpa using hjl)]
 simp [u8s] at hj ⊢
 exact hj
theorem results_tbt {P:Program}{fn:Func}{p u v:Tmp}{ty t:TypeId}{b:Nat}{cells:Array Value}{fr:Nat×Nat}{d:TypeDesc}(h:fn.results=#[.tmp u,.cell p ty,.tmp v]) (tmps:Array Value) (w:World)
 (hp:tmps.getD p undef=.pointer (some ⟨b,0,none⟩)) (hb:w.heap[b]?=some (.cells cells t fr)) (hu:P.underlying ty=some d) (hd:d.isRow=true) (hi:(P.info? ty).map (·.size)=some cells.size) :
 (results fn tmps).run P w=.ok (.tuple #[tmps.getD u undef,.agg cells,tmps.getD v undef]) w:=by
 have:=run_loadVar_mid (P:=P) w b 0 ty cells.toList d (by simpa using World.rangeAt_of_block hb 0 cells.size) hu hd (by simpa using hi)
 have hp':tmps[p]?.getD undef=.pointer (some ⟨b,0,none⟩):=by simpa using hp
 simp only [results,h]
 simp [Sem.run_bind,Result.andThen,hp',asAddr,this]
theorem cols_info:(Tryz.prog.info? 294).map (·.size)=some 3:=by kernel_rfl
theorem u8l_info:(Tryz.prog.info? 51).map (·.size)=some 1:=by kernel_rfl
def PartsPost (w:World) (n:Nat) (A V S:List UInt8) (e:Ending) (w':World):Prop:=∃ga gv gs ca cv cs,e=.returned (.tuple #[.int .i64 (n:Int),.agg #[.slice ga A.length ca,.slice gv V.length cv,.slice gs S.length cs],.bool true]) ∧
 Src w' 1 (.slice ga A.length ca) A.length (u8s A)∧Src w' 1 (.slice gv V.length cv) V.length (u8s V)∧Src w' 1 (.slice gs S.length cs) S.length (u8s S)∧Ext w w'
structure PrR (w:World) (cb:Nat) (A V S:List UInt8) (x0 x1 x2:Value) (k:Nat) (wr:World):Prop where
 box:wr.heap[cb]?=some (.cells #[x0,x1,x2] 294 (0,0))
 new:w.heap.size≤cb
 s0:0<k→∃g c,x0=.slice g A.length c∧Src wr 1 (.slice g A.length c) A.length (u8s A)∧g.map (·.block)≠some cb
 s1:1<k→∃g c,x1=.slice g V.length c∧Src wr 1 (.slice g V.length c) V.length (u8s V)∧g.map (·.block)≠some cb
 s2:2<k→∃g c,x2=.slice g S.length c∧Src wr 1 (.slice g S.length c) S.length (u8s S)∧g.map (·.block)≠some cb
 ext:Ext w wr
theorem colIn_drop (n:Nat) (A V S:List UInt8) (k:Nat) (X:List UInt8) (hk:(k=0∧X=A)∨(k=1∧X=V)∨(k=2∧X=S)):∃R,(colL n A V S).drop (varP n++zaP A V S k).length=txtL X++R:=by
 rcases hk with ⟨rfl,rfl⟩|⟨rfl,rfl⟩|⟨rfl,rfl⟩
 ·refine ⟨txtL V++txtL S,?_⟩
  have e:colL n X V S=(varP n++zaP X V S 0)++(txtL X++(txtL V++txtL S)):=by simp [colL,zaP]
  rw [e,List.drop_left]
 ·refine ⟨txtL S,?_⟩
  have e:colL n A X S=(varP n++zaP A X S 1)++(txtL X++txtL S):=by simp [colL,zaP]
  rw [e,List.drop_left]
 ·refine ⟨[],?_⟩
  have e:colL n A V X=(varP n++zaP A V X 2)++(txtL X++[]):=by simp [colL,zaP]
  rw [e,List.drop_left]
theorem colIn_pos (n:Nat) (A V S:List UInt8) (k:Nat) (hk:k≤3):(varP n++zaP A V S k).length≤(colL n A V S).length:=by
 obtain rfl|rfl|rfl|rfl:k=0∨k=1∨k=2∨k=3:=by omega
 all_goals (unfold colL zaP;simp;try omega)
theorem parts_any (w:World) (a:Option Addr) (m c:Nat) (n:Nat) (A V S:List UInt8) (hs:Src w 1 (.slice a m c) m (u8s (sealL 3 (colL n A V S)))) (hmc:m≤c) (hn:n≤4096) (hA:A.length≤40000) (hV:V.length≤40000) (hS:S.length≤40000) (hg:HasET w) :
 Calls Tryz.prog 196 #[.slice a m c] w (PartsPost w n A V S):=by
 have hL:(colL n A V S).length≤121000:=head_len hA hV hS hn 3
 have hm:m≤121009:=by have:=zax hs;rw [zbh] at this;omega
 have HO:=hid (fun W (hx:Ext w W)=>open_any W a m c _ (hs.ext hx) hmc (by omega))
 rw [openR_seal 3 _ (by omega)] at HO
 have HG:=hid hg
 have HLN:=hid (And.intro hA (And.intro hV hS))
 have hvr:varR (colL n A V S)=(n,(varP n).length,0):=zbu (by omega) _
 have HVR:=hid hvr
 have HPOS:=hid (colIn_pos n A V S)
 have HDR:=hid (colIn_drop n A V S)
 have HHL:=hid (fun k=>head_len (A:=A) (V:=V) (S:=S) hA hV hS hn k)
 have H3:Hid ((varP n++zaP A V S 3).length=(colL n A V S).length):=hid rfl
 obtain ⟨L,hLq⟩:∃L,L=colL n A V S:=⟨_,rfl⟩
 rw [←hLq] at HO hL HVR HPOS HDR H3
 clear hs hmc hm hg hA hV hS hvr hLq
 go_enter Tryz.func196,Tryz.ntmps196
 go_wp2_with fail
 generalize hW:World.alloc _ _=W
 have HX:Hid (Ext w W):=hid (by rw [←hW];exact (Ext.refl w).alloc _)
 have HCB:Hid (W.heap[w.heap.size]?=some (.cells #[.slice none 0 0,.slice none 0 0,.slice none 0 0] 294 (0,0))):=hid (by rw [←hW];exact heap_alloc_new w _)
 clear hW
 obtain ⟨cb,hcb⟩:∃cb,cb=w.heap.size:=⟨_,rfl⟩
 rw [←hcb] at HCB ⊢
 have HNEW:Hid (w.heap.size≤cb):=hid (by omega)
 clear hcb
 refine (HO.out W HX.out).mono ?_
 rintro e w1 ⟨a1,c1,rfl,hm1⟩
 obtain ⟨q,hq⟩:∃q,q=L.length:=⟨_,rfl⟩
 change MadeTo W 5 1 (.slice a1 L.length c1) L.length (u8s L) w1 at hm1
 simp only
 rw [←hq] at hm1 H3 HPOS hL ⊢
 have hqc:q≤c1:=zcj hm1.row
 have HM:=hid hm1
 have HX1:=hid (HX.out.trans hm1.ext)
 have HCB1:=hid ((hm1.ext.block (zab HCB.out)).trans HCB.out)
 have hapt:(Value.slice a1 q c1).ownBlock≠some cb:=fun e=>by have:=hm1.own _ e;have:=zab HCB.out;omega
 have HAPT:=hid hapt
 clear hm1 hq hapt HCB HX
 go_wp2_with fail
 refine (zaB w1 a1 q c1 L (HM.out.row.src (zaH _)) (by omega) (HG.out.ext HX1.out)).mono ?_
 rintro e w2 ⟨rfl,hx2⟩
 rw [HVR.out]
 simp only
 have HX2:=hid (HX1.out.trans hx2)
 have HCB2:=hid ((hx2.block (zab HCB1.out)).trans HCB1.out)
 have HSL:=hid ((HM.out.row.src (zaH _)).ext hx2)
 have hn5:¬(4096:Int)<(n:Int):=by omega
 clear hx2 HX1 HCB1 HM
 go_wp2_with fail
 clear hn5
 obtain ⟨v,hv⟩:∃v,v=(varP n).length:=⟨_,rfl⟩
 have HV0:Hid ((varP n++zaP A V S 0).length=v):=hid (by rw [hv];simp [zaP])
 rw [←hv]
 clear hv
 go_loopw [2,4,9,40] (fun s2 s4 s9 s40 wr=>∃(k p:Nat) (x0 x1 x2:Value),s2=.int .i64 0∧s4=.bool false∧s9=.int .i64 (p:Int)∧s40=.int .i64 (k:Int)∧k≤3∧Hid ((varP n++zaP A V S k).length=p∧PrR w cb A V S x0 x1 x2 k wr∧Chg (·=cb) w2 wr)) (fun _ _ _ t _=>3-(RowKit.intOf t).toNat)
 case atStart=>exact ⟨0,v,_,_,_,rfl,rfl,rfl,rfl,by omega,hid ⟨HV0.out,⟨HCB2.out,HNEW.out,fun h=>absurd h (by omega),fun h=>absurd h (by omega),fun h=>absurd h (by omega),HX2.out⟩,Chg.refl _ _⟩⟩
 case round =>
  obtain ⟨k,p,x0,x1,x2,rfl,rfl,rfl,rfl,hk,HI⟩:=hrel
  clear HV0 HCB2
  obtain hk0|hk0|hk0|hk0:k=0∨k=1∨k=2∨k=3:=by omega
  ·subst hk0
   obtain ⟨R,hR⟩:=HDR.out 0 A (.inl ⟨rfl,rfl⟩)
   rw [HI.out.1] at hR
   have hXl:A.length≤40000:=HLN.out.1
   have htx:=txtR_any (x:=A) (most:=1048576) (by omega) (by omega) R
   have hpq:p≤q:=by rw [←HI.out.1];exact HPOS.out 0 (by omega)
   have hpl:p≤121000:=by rw [←HI.out.1];exact HHL.out 0
   have HS:Hid (Src wr 1 (.slice (cutA a1 c1 p) (q-p) (c1-p)) (q-p) (u8s (txtL A++R))):=hid (by rw [←hR];exact zbM (zbU HSL.out HI.out.2.2 (fun b hb e=>HAPT.out (by subst e;rw [←hb];cases a1<;>rfl))) hpq hqc)
   have hsl:∀W,(Instr.slice 51 (.slice a1 q c1) (some (.int .i64 (p:Int))) none none).run Tryz.prog W=.ok (.slice (cutA a1 c1 p) (q-p) (c1-p)) W:=zbi Tryz.underlying51 fr_u8 a1 q c1 p hpq
   have HVT:=hid (zdd wr (cutA a1 c1 p) (q-p) (c1-p) (txtL A++R) 1048576 (by omega) HS.out (by omega) (by omega) (HG.out.ext HI.out.2.1.ext))
   rw [htx] at HVT
   dsimp only at HVT
   have hnx:(varP n++zaP A V S (0+1)).length=p+(txtL A).length:=by rw [←HI.out.1,texts3_0,←yaj,yae]
   have hul:=txtL_len (x:=A) (by omega)
   obtain ⟨u,hu⟩:∃u,u=(txtL A).length:=⟨_,rfl⟩
   rw [←hu] at HVT hnx hul
   have HNX:=hid hnx
   have hul2:u≤40003:=by omega
   generalize cutA a1 c1 p=ax at hsl HVT
   generalize q-p=qx at hsl HVT
   generalize c1-p=cx at hsl HVT
   clear hR htx HS hnx hul hu
   go_wp2_with fail
   refine HVT.out.mono ?_
   rintro e w3 ⟨rfl,hx3⟩
   obtain ⟨cc,W3,hcv,hcc,hsr,hx4⟩:=conv_list w3 A
   have HX4:=hid (hx3.trans hx4)
   have HSR:=hid hsr
   have HCB4:=hid ((HX4.out.block (zab HI.out.2.1.box)).trans HI.out.2.1.box)
   have HLT:Hid (cb<w3.heap.size):=hid (yan (zab HI.out.2.1.box) hx3.size)
   clear hsl hx3 hsr hx4 hcc
   go_wp2_with (refine zap rfl _ _ _ rfl cb 0 #[x0,x1,x2] #[.slice (some ⟨w3.heap.size,0,none⟩) A.length cc,x1,x2] _ _ rfl rfl rfl rfl HCB4.out (by simp) rfl u8l_info ?_;rintro V5 hbV hcV _he;have HBV:=hid hbV;have HCV:=hid hcV;clear hbV hcV _he)
   go_roundw
   case rel =>
    have hC:Chg (·=cb) wr V5:=(Chg.of_ext HX4.out).trans HCV.out (fun _ _ e=>e)
    have hnw:=HNEW.out
    have hlt:=HLT.out
    refine ⟨0+1,p+u,_,_,_,rfl,rfl,by go_num,by go_num,by omega,hid ⟨HNX.out,⟨HBV.out,HNEW.out,?_,?_,?_,(((Chg.of_ext (S:=(·=cb)) HI.out.2.1.ext).trans hC (fun _ _ e=>e)).ext (fun i hi e=>by omega))⟩,?_⟩⟩
    ·exact fun _=>⟨_,_,rfl,zbU HSR.out HCV.out (fun b hb e=>by simp at hb;omega),by simp;omega⟩
    ·exact fun h=>absurd h (by omega)
    ·exact fun h=>absurd h (by omega)
    ·exact HI.out.2.2.trans hC (fun _ _ e=>e)
   case measure=>simp [RowKit.intOf];try omega
  ·subst hk0
   obtain ⟨R,hR⟩:=HDR.out 1 V (.inr (.inl ⟨rfl,rfl⟩))
   rw [HI.out.1] at hR
   have hXl:V.length≤40000:=HLN.out.2.1
   have htx:=txtR_any (x:=V) (most:=1048576) (by omega) (by omega) R
   have hpq:p≤q:=by rw [←HI.out.1];exact HPOS.out 1 (by omega)
   have hpl:p≤121000:=by rw [←HI.out.1];exact HHL.out 1
   have HS:Hid (Src wr 1 (.slice (cutA a1 c1 p) (q-p) (c1-p)) (q-p) (u8s (txtL V++R))):=hid (by rw [←hR];exact zbM (zbU HSL.out HI.out.2.2 (fun b hb e=>HAPT.out (by subst e;rw [←hb];cases a1<;>rfl))) hpq hqc)
   have hsl:∀W,(Instr.slice 51 (.slice a1 q c1) (some (.int .i64 (p:Int))) none none).run Tryz.prog W=.ok (.slice (cutA a1 c1 p) (q-p) (c1-p)) W:=zbi Tryz.underlying51 fr_u8 a1 q c1 p hpq
   have HVT:=hid (zdd wr (cutA a1 c1 p) (q-p) (c1-p) (txtL V++R) 1048576 (by omega) HS.out (by omega) (by omega) (HG.out.ext HI.out.2.1.ext))
   rw [htx] at HVT
   dsimp only at HVT
   have hnx:(varP n++zaP A V S (1+1)).length=p+(txtL V).length:=by rw [←HI.out.1,texts3_1,←yaj,yae]
   have hul:=txtL_len (x:=V) (by omega)
   obtain ⟨u,hu⟩:∃u,u=(txtL V).length:=⟨_,rfl⟩
   rw [←hu] at HVT hnx hul
   have HNX:=hid hnx
   have hul2:u≤40003:=by omega
   generalize cutA a1 c1 p=ax at hsl HVT
   generalize q-p=qx at hsl HVT
   generalize c1-p=cx at hsl HVT
   clear hR htx HS hnx hul hu
   go_wp2_with fail
   refine HVT.out.mono ?_
   rintro e w3 ⟨rfl,hx3⟩
   obtain ⟨cc,W3,hcv,hcc,hsr,hx4⟩:=conv_list w3 V
   have HX4:=hid (hx3.trans hx4)
   have HSR:=hid hsr
   have HCB4:=hid ((HX4.out.block (zab HI.out.2.1.box)).trans HI.out.2.1.box)
   have HLT:Hid (cb<w3.heap.size):=hid (yan (zab HI.out.2.1.box) hx3.size)
   clear hsl hx3 hsr hx4 hcc
   go_wp2_with (refine zap rfl _ _ _ rfl cb 1 #[x0,x1,x2] #[x0,.slice (some ⟨w3.heap.size,0,none⟩) V.length cc,x2] _ _ rfl rfl rfl rfl HCB4.out (by simp) rfl u8l_info ?_;rintro V5 hbV hcV _he;have HBV:=hid hbV;have HCV:=hid hcV;clear hbV hcV _he)
   go_roundw
   case rel =>
    have hC:Chg (·=cb) wr V5:=(Chg.of_ext HX4.out).trans HCV.out (fun _ _ e=>e)
    have hnw:=HNEW.out
    have hlt:=HLT.out
    refine ⟨1+1,p+u,_,_,_,rfl,rfl,by go_num,by go_num,by omega,hid ⟨HNX.out,⟨HBV.out,HNEW.out,?_,?_,?_,(((Chg.of_ext (S:=(·=cb)) HI.out.2.1.ext).trans hC (fun _ _ e=>e)).ext (fun i hi e=>by omega))⟩,?_⟩⟩
    ·exact fun h=>by obtain ⟨g,c,e,h1,h2⟩:=HI.out.2.1.s0 (by omega);exact ⟨g,c,e,zbU h1 hC (fun b hb e=>h2 (e▸hb)),h2⟩
    ·exact fun _=>⟨_,_,rfl,zbU HSR.out HCV.out (fun b hb e=>by simp at hb;omega),by simp;omega⟩
    ·exact fun h=>absurd h (by omega)
    ·exact HI.out.2.2.trans hC (fun _ _ e=>e)
   case measure=>simp [RowKit.intOf];try omega
  ·subst hk0
   obtain ⟨R,hR⟩:=HDR.out 2 S (.inr (.inr ⟨rfl,rfl⟩))
   rw [HI.out.1] at hR
   have hXl:S.length≤40000:=HLN.out.2.2
   have htx:=txtR_any (x:=S) (most:=1048576) (by omega) (by omega) R
   have hpq:p≤q:=by rw [←HI.out.1];exact HPOS.out 2 (by omega)
   have hpl:p≤121000:=by rw [←HI.out.1];exact HHL.out 2
   have HS:Hid (Src wr 1 (.slice (cutA a1 c1 p) (q-p) (c1-p)) (q-p) (u8s (txtL S++R))):=hid (by rw [←hR];exact zbM (zbU HSL.out HI.out.2.2 (fun b hb e=>HAPT.out (by subst e;rw [←hb];cases a1<;>rfl))) hpq hqc)
   have hsl:∀W,(Instr.slice 51 (.slice a1 q c1) (some (.int .i64 (p:Int))) none none).run Tryz.prog W=.ok (.slice (cutA a1 c1 p) (q-p) (c1-p)) W:=zbi Tryz.underlying51 fr_u8 a1 q c1 p hpq
   have HVT:=hid (zdd wr (cutA a1 c1 p) (q-p) (c1-p) (txtL S++R) 1048576 (by omega) HS.out (by omega) (by omega) (HG.out.ext HI.out.2.1.ext))
   rw [htx] at HVT
   dsimp only at HVT
   have hnx:(varP n++zaP A V S (2+1)).length=p+(txtL S).length:=by rw [←HI.out.1,texts3_2,←yaj,yae]
   have hul:=txtL_len (x:=S) (by omega)
   obtain ⟨u,hu⟩:∃u,u=(txtL S).length:=⟨_,rfl⟩
   rw [←hu] at HVT hnx hul
   have HNX:=hid hnx
   have hul2:u≤40003:=by omega
   generalize cutA a1 c1 p=ax at hsl HVT
   generalize q-p=qx at hsl HVT
   generalize c1-p=cx at hsl HVT
   clear hR htx HS hnx hul hu
   go_wp2_with fail
   refine HVT.out.mono ?_
   rintro e w3 ⟨rfl,hx3⟩
   obtain ⟨cc,W3,hcv,hcc,hsr,hx4⟩:=conv_list w3 S
   have HX4:=hid (hx3.trans hx4)
   have HSR:=hid hsr
   have HCB4:=hid ((HX4.out.block (zab HI.out.2.1.box)).trans HI.out.2.1.box)
   have HLT:Hid (cb<w3.heap.size):=hid (yan (zab HI.out.2.1.box) hx3.size)
   clear hsl hx3 hsr hx4 hcc
   go_wp2_with (refine zap rfl _ _ _ rfl cb 2 #[x0,x1,x2] #[x0,x1,.slice (some ⟨w3.heap.size,0,none⟩) S.length cc] _ _ rfl rfl rfl rfl HCB4.out (by simp) rfl u8l_info ?_;rintro V5 hbV hcV _he;have HBV:=hid hbV;have HCV:=hid hcV;clear hbV hcV _he)
   go_roundw
   case rel =>
    have hC:Chg (·=cb) wr V5:=(Chg.of_ext HX4.out).trans HCV.out (fun _ _ e=>e)
    have hnw:=HNEW.out
    have hlt:=HLT.out
    refine ⟨2+1,p+u,_,_,_,rfl,rfl,by go_num,by go_num,by omega,hid ⟨HNX.out,⟨HBV.out,HNEW.out,?_,?_,?_,(((Chg.of_ext (S:=(·=cb)) HI.out.2.1.ext).trans hC (fun _ _ e=>e)).ext (fun i hi e=>by omega))⟩,?_⟩⟩
    ·exact fun h=>by obtain ⟨g,c,e,h1,h2⟩:=HI.out.2.1.s0 (by omega);exact ⟨g,c,e,zbU h1 hC (fun b hb e=>h2 (e▸hb)),h2⟩
    ·exact fun h=>by obtain ⟨g,c,e,h1,h2⟩:=HI.out.2.1.s1 (by omega);exact ⟨g,c,e,zbU h1 hC (fun b hb e=>h2 (e▸hb)),h2⟩
    ·exact fun _=>⟨_,_,rfl,zbU HSR.out HCV.out (fun b hb e=>by simp at hb;omega),by simp;omega⟩
    ·exact HI.out.2.2.trans hC (fun _ _ e=>e)
   case measure=>simp [RowKit.intOf];try omega
  ·subst hk0
   have hpq:p=q:=by rw [←HI.out.1];exact H3.out
   subst hpq
   obtain ⟨g0,d0,rfl,h0,n0⟩:=HI.out.2.1.s0 (by omega)
   obtain ⟨g1,d1,rfl,h1,n1⟩:=HI.out.2.1.s1 (by omega)
   obtain ⟨g2,d2,rfl,h2,n2⟩:=HI.out.2.1.s2 (by omega)
   have HSS:=hid (And.intro h0 (And.intro h1 h2))
   have HB:=hid HI.out.2.1.box
   have HNE:=hid (And.intro n0 (And.intro n1 n2))
   clear h0 h1 h2 n0 n1 n2
   have hw:IntKind.i64.wrap (n:Int)=(n:Int):=IntWalk.i64_in _ (by omega)
   go_wp2_with fail
   refine zao 9 (fun w'=>w'.heap[cb]?=some (.cells #[.slice g0 A.length d0,.slice g1 V.length d1,.slice g2 S.length d2] 294 (0,0))) (.reads [0,1,2,3,4,5,6,7] (.one 8 (.one 9 .done))) (by kernel_rfl) (by kernel_rfl) (fun _ _ dd _ _ hh=>by cases dd<;>exact hh) ?_ ?_
   ·exact HB.out
   refine zak ?_
   simp only [zac,yab,yaa]
   go_big_quiet_step (fail)
   (go_big_quiet_want;go_big_quiet_op;refine ⟨_,fun _ _=>rfl,?_⟩;go_big_quiet_on)
   (go_big_quiet_want;refine zaV _ _ rfl _ (.agg #[.slice g0 A.length d0,.slice g1 V.length d1,.slice g2 S.length d2]) rfl (fun W hW=>load_box_run hW Tryz.underlying294 rfl cols_info) ?_;go_big_quiet_on;simp only [Act.put,List.setIfInBounds_toArray,List.set_cons_succ,List.set_cons_zero])
   repeat (first|go_big_quiet_step (fail)|(go_big_quiet_want;go_big_quiet_op;refine ⟨_,fun _ _=>rfl,?_⟩;go_big_quiet_on))
   refine yaF ?_
   change zaA _ _ _ _ _ _ _ _ (wr.drewN 1)
   have HXd:Hid (Ext wr (wr.drewN 1)):=hid (Ext.drewN wr 1)
   generalize wr.drewN 1=Wd at HXd ⊢
   have HBD:=hid ((HXd.out.block (zab HB.out)).trans HB.out)
   refine zae ?_
   simp only [zac,yab,yaa]
   go_wp2_with (refine zai rfl _ _ _ rfl _ _ _ _ rfl rfl HBD.out rfl cols_info (by simp [Value.oneCell']) ?_;rintro V5 hbV hcV;have HBV:=hid hbV;have HCV:=hid hcV;clear hbV hcV)
   refine zal HBV.out (zae ?_)
   simp only [zac,yab,yaa]
   go_wp2_with fail
   refine zau (zav ?_)
   go_wp2_with fail
   refine yaE (results_tbt Tryz.results196 _ _ rfl HBV.out Tryz.underlying294 rfl cols_info) rfl ?_
   have hC:Chg (·=cb) wr V5:=(Chg.of_ext HXd.out).trans HCV.out (fun _ _ e=>e)
   have hnw:=HNEW.out
   exact ⟨_,_,_,_,_,_,rfl,zbU HSS.out.1 hC (fun b hb e=>HNE.out.1 (e▸hb)),zbU HSS.out.2.1 hC (fun b hb e=>HNE.out.2.1 (e▸hb)),zbU HSS.out.2.2 hC (fun b hb e=>HNE.out.2.2 (e▸hb)),(((Chg.of_ext (S:=(·=cb)) HI.out.2.1.ext).trans hC (fun _ _ e=>e)).ext (fun i hi e=>by omega))⟩
theorem copy_sized {P:Program}{w:World}{dT e t:TypeId}{g n c size:Nat}{news:List Value}{a:Addr}{cur:Array Value}(ty:TypeId) (hu:P.underlying dT=some (.slice e)) (hs:(P.info? e).map (·.size)=some size)
 (hb:w.heap[g]?=some (.cells cur t (0,0))) (hsz:cur.size=n*size) (hl:news.length=n*size) (hc:∀j u,news[j]?=some u→w.cell? (a.add j)=some u) (h1:∀u∈news,u.oneCell'=true) :
 ∃w',(Builtin.copy_ #[dT,dT] ty #[.slice (some ⟨g,0,none⟩) n n,.slice (some a) n c]).run P w=.ok (goInt n) w'∧w'.heap[g]?=some (.cells news.toArray t (0,0))∧Chg (·=g) w w':=by
 have hld:=run_loadCells_list (P:=P) w a news hc
 have hst:=run_storeCells_at P g 0 t news 0 cur w hb (by omega) h1
 have hm:Nat.min n n=n:=Nat.min_self n
 refine ⟨w.setRow g (cur.toList.take (0+0)++news++cur.toList.drop (0+0+news.length)).toArray,?_,?_,⟨rfl,rfl,rfl,by simp [World.setRow],fun k _ hn=>setRow_other w g k _ hn⟩⟩
 ·cases hq:P.info? e with
  | none=>simp [hq] at hs
  | some i =>
   have hi:i.size=size:=by simpa [hq] using hs
   rw [hl] at hld
   simp [Builtin.copy_,run_underlying hu,Builtin.lenOf,Builtin.firstCells,sizeOf,typeInfo,hq,hi,hm,hld]
   simp at hst
   rw [hst]
   rfl
 ·rw [setRow_heap w g cur _ t (0,0) hb]
  have:cur.toList.drop (0+0+news.length)=[]:=List.drop_eq_nil_of_le (by simp;omega)
  rw [this];simp
theorem pt_info:(Tryz.prog.info? 76).map (fun i=>(i.zero,i.size,i.bytes))=some (some (.agg #[.int .i64 0,.int .i64 0,.int .i64 0]),3,24):=by kernel_rfl
theorem pt_info3:(Tryz.prog.info? 76).map (·.size)=some 3:=by kernel_rfl
theorem make_pts (w:World) (n:Nat) (hn:n≤4096) :
 ∃w' cur,(Instr.makeSlice 38 (.int .i64 (n:Int)) (.int .i64 (n:Int))).run Tryz.prog w=.ok (.slice (some ⟨w.heap.size,0,none⟩) n n) w' ∧
  w'.heap[w.heap.size]?=some (.cells cur 76 (0,0))∧cur.size=n*3∧Ext w w':=by
 obtain ⟨i0,hi,hz0,hz1,hz2⟩:=info_parts pt_info
 obtain ⟨w',h1,h2,h3⟩:=run_make_full (P:=Tryz.prog) w 0 38 76 i0 (.agg #[.int .i64 0,.int .i64 0,.int .i64 0]) 3 Tryz.underlying38 hi hz0 hz1 .i64 .i64 n (by rw [hz2];omega) (by unfold maxLen;omega) (Nat.zero_le _)
 obtain ⟨_,⟨e,_⟩|⟨g,cap,cur,e,_,hb,_,_,h6,_⟩⟩:=h2
 ·cases e
 ·simp only [Value.slice.injEq,Option.some.injEq,Addr.mk.injEq] at e
  obtain ⟨⟨rfl,_⟩,_,rfl⟩:=e
  exact ⟨w',cur,h1,hb,by simpa using h6,(Chg.of_grown h3).ext (fun _ _ e=>by simp at e)⟩
structure ColAt (w:World) (tb vb sb:Nat) (l:List Pt):Prop where
 t:∃a c,w.heap[tb]?=some (.cells #[.slice a l.length c] 39 (0,0))∧Src w 1 (.slice a l.length c) l.length (zints (l.map Pt.t))
 v:∃a c,w.heap[vb]?=some (.cells #[.slice a l.length c] 291 (0,0))∧Src w 1 (.slice a l.length c) l.length (u64s (l.map fun p=>u64N p.v))
 s:∃a c,w.heap[sb]?=some (.cells #[.slice a l.length c] 39 (0,0))∧Src w 1 (.slice a l.length c) l.length (zints (l.map Pt.s))
theorem ColAt.ext {w w':World}{tb vb sb:Nat}{l:List Pt}(h:ColAt w tb vb sb l) (hx:Ext w w'):ColAt w' tb vb sb l:=by
 obtain ⟨⟨a,c,h1,h2⟩,⟨b,d,h3,h4⟩,⟨e,f,h5,h6⟩⟩:=h
 exact ⟨⟨a,c,(hx.block (zab h1)).trans h1,h2.ext hx⟩,⟨b,d,(hx.block (zab h3)).trans h3,h4.ext hx⟩,⟨e,f,(hx.block (zab h5)).trans h5,h6.ext hx⟩⟩
theorem point_any (w:World) (tb vb sb:Nat) (l:List Pt) (i:Nat) (p:Pt) (h:ColAt w tb vb sb l) (hp:l[i]?=some p) (h0:-9223372036854775808≤p.v) (h1:p.v≤9223372036854775807) (hi:i≤4096) :
 Calls Tryz.prog 199 #[.int .i64 (i:Int),.pointer (some ⟨tb,0,none⟩),.pointer (some ⟨vb,0,none⟩),.pointer (some ⟨sb,0,none⟩)] w fun e w'=>e=.returned p.val∧Ext w w':=by
 obtain ⟨⟨ta,tc,t0,t1⟩,⟨va,vc,v0,v1⟩,⟨sa,sc,s0,s1⟩⟩:=h
 have hil:i<l.length:=(yad.1 hp).1
 have hlt:=zab t0
 have hlv:=zab v0
 have hls:=zab s0
 have t0:=zaa t0 0
 have v0:=zaa v0 0
 have s0:=zaa s0 0
 simp at t0 v0 s0
 obtain ⟨bt,ot,zt,rfl,ht,t2⟩:=zcZ t1 hil
 obtain ⟨bv,ov,zv,rfl,hv,v2⟩:=u64s_src v1 hil
 obtain ⟨bs,os,zs,rfl,hs,s2⟩:=zcZ s1 hil
 rw [yar,hp] at ht hv hs
 simp at ht hv hs
 subst ht hv hs
 have hw:=u64N_wrap h0 h1
 obtain ⟨n,hn⟩:∃n,n=l.length:=⟨_,rfl⟩
 rw [←hn] at hil t0 v0 s0
 obtain ⟨pt,pv,ps⟩:=p
 simp only at t2 v2 s2 hw
 have hu:=u64N_lt pv
 generalize u64N pv=u at v2 hw hu
 have hbt:=yaf _ _ t2
 have hbv:=yaf _ _ v2
 have hbs:=yaf _ _ s2
 clear t1 v1 s1 hn hp h0 h1
 unfold Pt.val
 go_enter Tryz.func199,Tryz.ntmps199
 go_wp2_with fail
 generalize hW:World.alloc _ _=W
 obtain ⟨g,hg⟩:∃g,g=w.heap.size:=⟨_,rfl⟩
 have hx:Ext w W:=by rw [←hW];exact (Ext.refl w).alloc _
 have hb:W.heap[g]?=some (.cells #[.int .i64 0,.int .i64 0,.int .i64 0] 76 (0,0)):=by rw [←hW,hg];exact heap_alloc_new w _
 replace t0:=(hx.cell (p:=⟨tb,0,none⟩) hlt).trans t0
 replace v0:=(hx.cell (p:=⟨vb,0,none⟩) hlv).trans v0
 replace s0:=(hx.cell (p:=⟨sb,0,none⟩) hls).trans s0
 replace t2:=(hx.cell (p:=⟨bt,ot+i,none⟩) hbt).trans t2
 replace v2:=(hx.cell (p:=⟨bv,ov+i,none⟩) hbv).trans v2
 replace s2:=(hx.cell (p:=⟨bs,os+i,none⟩) hbs).trans s2
 have HG:=hid hg
 have HX:=hid hx
 have HB:=hid hb
 rw [←hg]
 clear hW hg hx hb hlt hlv hls hbt hbv hbs
 refine zam [] [0,1,2,3,4,5,6,7,8,9,10,11,12,13] [14] (by kernel_rfl) (by kernel_rfl) (fun _ _ dd _ _ hh=>by cases dd<;>exact hh) ?_
 simp only [zac,yab,yaa]
 refine yaF ?_
 repeat (go_big_quiet_step (fail))
 refine yaF ?_
 intro w2 hw'
 have hx2:Ext W w2:=by obtain ⟨k,rfl⟩:=hw';exact Ext.drewN _ _
 have HB2:=hid ((hx2.block (zab HB.out)).trans HB.out)
 have HX2:=hid (HX.out.trans hx2)
 clear hw' hx2 t0 v0 s0 t2 v2 s2
 go_wp2_with (refine zai rfl _ _ _ rfl _ _ _ _ rfl rfl HB2.out rfl pt_info3 (by simp [Value.oneCell']) ?_;rintro V5 hbV hcV;have HBV:=hid hbV;have HCV:=hid hcV;clear hbV hcV)
 refine yaE (zaZ Tryz.results199 _ _ rfl HBV.out Tryz.underlying76 rfl pt_info3) rfl ?_
 exact ⟨rfl,(((Chg.of_ext (S:=(·=g)) HX2.out).trans HCV.out (fun _ _ e=>e)).ext (fun i hi e=>by have:=HG.out;omega))⟩
def PtBlk (w:World) (g n i:Nat) (l:List Pt):Prop:=∃cur,w.heap[g]?=some (.cells cur 76 (0,0))∧cur.size=n*3∧cur.toList.take (i*3)=pts (l.take i)
theorem PtBlk.whole {w:World}{g:Nat}{l:List Pt}(h:PtBlk w g l.length l.length l):w.heap[g]?=some (.cells (pts l).toArray 76 (0,0)):=by
 obtain ⟨cur,h1,h2,h3⟩:=h
 rw [yai (by simp;omega),yai (Nat.le_refl _)] at h3
 rw [h1,←h3]
theorem row_of_pts {w:World}{g:Nat}{l:List Pt}(h:w.heap[g]?=some (.cells (pts l).toArray 76 (0,0))) (hl:l.length≤4096):Row w 76 3 (.slice (some ⟨g,0,none⟩) l.length l.length) l.length (pts l):=by
 refine ⟨zdx l,.inr ⟨g,l.length,_,rfl,Nat.zero_le _,h,Nat.le_refl _,by unfold maxLen;omega,by simp [zdx],?_⟩⟩
 rw [yai (by rw [List.toList_toArray,zdx];exact Nat.le_refl _)]
theorem PtBlk.put {V:World}{g n k:Nat}{l:List Pt}{p:Pt}{cur:Array Value}(hs:cur.size=n*3) (ht:cur.toList.take (k*3)=pts (l.take k)) (hp:l[k]?=some p) (hk:k<n)
 (hb:V.heap[g]?=some (.cells (cur.toList.take (k*3)++p.cells++cur.toList.drop (k*3+3)).toArray 76 (0,0))):PtBlk V g n (k+1) l:=by
 refine ⟨_,hb,by simp [Pt.cells];omega,?_⟩
 have e1:(cur.toList.take (k*3)++p.cells).length=(k+1)*3:=by simp [Pt.cells];omega
 rw [List.toList_toArray,←e1,List.take_left,ht,yao,hp,Option.toList_some,pts_append]
 simp [pts]
theorem pblk_info:(Tryz.prog.info? 314).map (·.size)=some 2:=by kernel_rfl
theorem colPoints_any (w:World) (tb vb sb:Nat) (l:List Pt) (h:ColAt w tb vb sb l) (hl:0<l.length) (hl2:l.length≤4096) (hv:∀p∈l,-9223372036854775808≤p.v∧p.v≤9223372036854775807) :
 Calls Tryz.prog 200 #[.agg #[.int .i64 (l.length:Int),.func (.func 199) #[] #[.pointer (some ⟨tb,0,none⟩),.pointer (some ⟨vb,0,none⟩),.pointer (some ⟨sb,0,none⟩)]]] w fun e w'=>∃g,e=.returned (.slice (some ⟨g,0,none⟩) l.length l.length)∧MadeTo w 76 3 (.slice (some ⟨g,0,none⟩) l.length l.length) l.length (pts l) w':=by
 have HC:=hid h
 have HV:=hid hv
 obtain ⟨n,hn⟩:∃n,n=l.length:=⟨_,rfl⟩
 have HN:=hid hn
 rw [←hn] at hl hl2 ⊢
 clear h hv hn
 go_enter Tryz.func200,Tryz.ntmps200
 go_upto_region 1 with fail
 generalize hW:World.alloc _ _=W
 obtain ⟨bx,hbx⟩:∃bx,bx=w.heap.size:=⟨_,rfl⟩
 have HX:Hid (Ext w W):=hid (by rw [←hW];exact (Ext.refl w).alloc _)
 have HB:Hid (W.heap[bx]?=some (.cells #[.int .i64 (n:Int),.func (.func 199) #[] #[.pointer (some ⟨tb,0,none⟩),.pointer (some ⟨vb,0,none⟩),.pointer (some ⟨sb,0,none⟩)]] 314 (0,0))):=hid (by rw [←hW,hbx];exact heap_alloc_new w _)
 rw [←hbx]
 have HBX:=hid hbx
 clear hW hbx
 have b0:=zaa HB.out 0
 simp at b0
 obtain ⟨w2,cur,hmk,hb2,hsz,hx2⟩:=make_pts W n hl2
 have HX2:=hid (HX.out.trans hx2)
 have HB2:=hid ((hx2.block (zab HB.out)).trans HB.out)
 have HP:Hid (PtBlk w2 W.heap.size n 0 l):=hid ⟨cur,hb2,hsz,by simp [pts]⟩
 have HGB:Hid (bx<W.heap.size):=hid (zab HB.out)
 clear hb2 hsz hx2
 go_wp2_with (refine zcg rfl _ _ _ rfl _ _ _ _ rfl rfl hmk ?_)
 clear hmk b0 HB
 obtain ⟨g,hg⟩:∃g,g=W.heap.size:=⟨_,rfl⟩
 rw [←hg] at HP HGB ⊢
 clear hg
 go_loopw [11] (fun s11 wr=>∃k:Nat,s11=.int .i64 (k:Int)∧k≤n∧Hid (PtBlk wr g n k l∧Chg (·=g) w2 wr)) (fun t _=>n-(RowKit.intOf t).toNat)
 case atStart=>exact ⟨0,rfl,Nat.zero_le _,hid ⟨HP.out,Chg.refl _ _⟩⟩
 case round =>
  obtain ⟨k,rfl,hk,HI⟩:=hrel
  by_cases hlt:k<n
  ·obtain ⟨p,hp⟩:∃p,l[k]?=some p:=⟨_,yac (by have:=HN.out;omega)⟩
   have HPk:=hid hp
   have b1:wr.cell? ⟨bx,1,none⟩=some (.func (.func 199) #[] #[.pointer (some ⟨tb,0,none⟩),.pointer (some ⟨vb,0,none⟩),.pointer (some ⟨sb,0,none⟩)]):=by
    have:=zaa ((HI.out.2.block bx (zab HB2.out) (fun e=>by have:=HGB.out;omega)).trans HB2.out) 1
    simpa using this
   clear hp
   go_wp2_with fail
   have HXR:Hid (Ext w wr):=hid (((Chg.of_ext (S:=(·=g)) HX2.out).trans HI.out.2 (fun _ _ e=>e)).ext (fun i hi e=>by have:=HGB.out;have:=HBX.out;omega))
   refine (point_any wr tb vb sb l k p (HC.out.ext HXR.out) HPk.out (HV.out p (yag HPk.out)).1 (HV.out p (yag HPk.out)).2 (by omega)).mono ?_
   rintro e w3 ⟨rfl,hx3⟩
   obtain ⟨cur3,hb3,hs3,ht3⟩:=HI.out.1
   have HB3:=hid ((hx3.block (zab hb3)).trans hb3)
   have HC3:=hid (And.intro hs3 ht3)
   have HX3:=hid hx3
   have hk3:k*3+3≤cur3.size:=by omega
   clear hx3 hb3 hs3 ht3 b1
   unfold Pt.val
   go_wp2_with (refine zbR rfl _ _ _ rfl g (k*3) cur3 #[.int .i64 p.t,.int .i64 p.v,.int .i64 p.s] (cur3.toList.take (k*3)++p.cells++cur3.toList.drop (k*3+3)).toArray _ rfl rfl HB3.out hk3 (by simp [Pt.cells]) pt_info3 (by simp [Value.oneCell']) ?_;rintro V5 hbV hcV;have HBV:=hid hbV;have HCV:=hid hcV;clear hbV hcV)
   go_roundw
   case rel=>exact ⟨k+1,by go_num,by omega,hid ⟨PtBlk.put HC3.out.1 HC3.out.2 HPk.out hlt HBV.out,HI.out.2.trans ((Chg.of_ext HX3.out).trans HCV.out (fun _ _ e=>e)) (fun _ _ e=>e)⟩⟩
   case measure=>simp [RowKit.intOf];omega
  ·obtain rfl:k=n:=by omega
   have HW:Hid (wr.heap[g]?=some (.cells (pts l).toArray 76 (0,0))):=hid (by
    have h:=HI.out.1
    rw [HN.out] at h
    exact h.whole)
   have HXR:Hid (Ext w wr):=hid (((Chg.of_ext (S:=(·=g)) HX2.out).trans HI.out.2 (fun _ _ e=>e)).ext (fun i hi e=>by have:=HGB.out;have:=HBX.out;omega))
   obtain ⟨w5,cur5,hmk,hb5,hs5,hx5⟩:=make_pts wr k hl2
   have hb5o:=(hx5.block (zab HW.out)).trans HW.out
   have hgne:wr.heap.size≠g:=by have:=zab HW.out;omega
   obtain ⟨w6,hcp,hb6,hc6⟩:=copy_sized (P:=Tryz.prog) (w:=w5) (dT:=38) (e:=76) (n:=k) (c:=k) (size:=3) (news:=pts l) (a:=⟨g,0,none⟩) 3 Tryz.underlying38 pt_info3 hb5 hs5 (by rw [zdx,←HN.out]) (fun j u hj=>by
    rw [yak,Nat.zero_add,zaa hb5o]
    simpa using hj) (zck l)
   have H6:Hid (MadeTo w 76 3 (.slice (some ⟨wr.heap.size,0,none⟩) k k) k (pts l) w6):=hid (by
    have hr:=row_of_pts hb6 (by rw [←HN.out];exact hl2)
    rw [←HN.out] at hr
    refine ⟨hr,fun g' hg'=>?_,?_⟩
    ·have e2:wr.heap.size=g':=yaG hg'
     have:=HXR.out.size;omega
    ·exact ((Chg.of_ext (S:=(·=wr.heap.size)) (HXR.out.trans hx5)).trans hc6 (fun _ _ e=>e)).ext (fun i hi e=>by have:=HXR.out.size;omega))
   clear hb5 hs5 hx5 hb5o hgne hb6 hc6
   go_wp2_with (first|(refine zcg rfl _ _ _ rfl _ _ _ _ rfl rfl hmk ?_)|(at_builtin;go_must (refine wpList_copy_run rfl _ _ _ rfl _ _ _ _ rfl rfl hcp ?_)))
   go_ret
   exact ⟨_,rfl,H6.out⟩
end
section
open Go.RowKit Go.Sort Go.Lib
theorem colDecode_any (w:World) (a:Option Addr) (m c:Nat) (l:List Pt) (hs:Src w 1 (.slice a m c) m (u8s (zaO l))) (hmc:m≤c) (hl:colV l=true) (hv:∀p∈l,-9223372036854775808≤p.v∧p.v≤9223372036854775807) (hg:HasET w) :
 Calls Tryz.prog 146 #[.slice a m c] w fun e w'=>∃g,e=.returned (.tuple #[.slice (some ⟨g,0,none⟩) l.length l.length,.int .i64 0])∧MadeTo w 76 3 (.slice (some ⟨g,0,none⟩) l.length l.length) l.length (pts l) w':=by
 have hll:=zcr hl
 have hcl:=colIn_len hll.2
 have HP:=hid (parts_any w a m c l.length (timesA l) (zdQ l) (seqsA l) hs hmc hll.2 hcl.1 hcl.2.1 hcl.2.2.1 hg)
 have HM:=hid (fun p hp=>colV_mem hl (p:=p) hp)
 have HT:=hid (fun W a m c (h:Src W 1 (.slice a m c) m (u8s (timesA l)))=>ddecode_any W a m c (timesA l) (l.map Pt.t) h (zdn _) (by rw [yaw];exact hll.2) (fun t ht=>by obtain ⟨p,hp,rfl⟩:=yap.1 ht;have:=HM.out p hp;omega))
 have HS:=hid (fun W a m c (h:Src W 1 (.slice a m c) m (u8s (seqsA l)))=>ddecode_any W a m c (seqsA l) (l.map Pt.s) h (zdn _) (by rw [yaw];exact hll.2) (fun t ht=>by obtain ⟨p,hp,rfl⟩:=yap.1 ht;have:=HM.out p hp;omega))
 have HU:=hid (fun W a m c (h:Src W 1 (.slice a m c) m (u8s (zdQ l)))=>xdecode_any W a m c (zdQ l) (l.map fun p:Pt=>u64N p.v) h (zdn (zbL (l.map fun p:Pt=>u64N p.v))) (by rw [yaw];exact hll.2) (fun v hv=>by obtain ⟨p,_,rfl⟩:=yap.1 hv;exact u64N_lt _))
 rw [yaw] at HT HS HU
 have HPT:=hid (fun W tb vb sb (h:ColAt W tb vb sb l)=>colPoints_any W tb vb sb l h hll.1 hll.2 hv)
 have HVL:=hid (fun W a c (h:Src W 3 (.slice a l.length c) l.length (pts l))=>colValid_any W a l.length c l h (by omega))
 rw [hl] at HVL
 have HCA:Hid (∀W tb vb sb,(∃a c,W.heap[tb]?=some (.cells #[.slice a l.length c] 39 (0,0))∧Src W 1 (.slice a l.length c) l.length (zints (l.map Pt.t)))→(∃a c,W.heap[vb]?=some (.cells #[.slice a l.length c] 291 (0,0))∧Src W 1 (.slice a l.length c) l.length (u64s (l.map fun p=>u64N p.v)))→(∃a c,W.heap[sb]?=some (.cells #[.slice a l.length c] 39 (0,0))∧Src W 1 (.slice a l.length c) l.length (zints (l.map Pt.s)))→ColAt W tb vb sb l):=hid (fun W tb vb sb h1 h2 h3=>⟨h1,h2,h3⟩)
 obtain ⟨n,hn⟩:∃n,n=l.length:=⟨_,rfl⟩
 rw [←hn] at HP HT HS HU HPT HVL HCA ⊢
 have hn4:n≤4096:=by omega
 generalize timesA l=A at *
 generalize zdQ l=V at *
 generalize seqsA l=S at *
 clear hs hmc hl hv hg hll hcl hn
 go_enter Tryz.func146,Tryz.ntmps146
 go_wp2_with fail
 refine HP.out.mono ?_
 rintro e w1 ⟨ga,gv,gs,ca,cv,cs,rfl,hA,hV,hS,hx1⟩
 have HX1:=hid hx1
 have HSR:=hid (And.intro hA (And.intro hV hS))
 clear hx1 hA hV hS HP
 go_wp2_with fail
 generalize hW:World.alloc _ _=W1
 obtain ⟨cb,hcb⟩:∃cb,cb=w1.heap.size:=⟨_,rfl⟩
 have HE1:Hid (Ext w1 W1):=hid (by rw [←hW];exact (Ext.refl w1).alloc _)
 have HB1:Hid (W1.heap[cb]?=some (.cells #[.slice ga A.length ca,.slice gv V.length cv,.slice gs S.length cs] 294 (0,0))):=hid (by rw [←hW,hcb];exact heap_alloc_new w1 _)
 rw [←hcb]
 clear hW hcb
 refine (HT.out W1 _ _ _ (HSR.out.1.ext HE1.out)).mono ?_
 rintro e w2 ⟨v,rfl,hm2⟩
 obtain ⟨a2,c2,rfl⟩:=hm2.row.shape
 have HM2:=hid hm2
 have HB2:=hid ((hm2.ext.block (zab HB1.out)).trans HB1.out)
 have hl2:cb<w2.heap.size:=zab HB2.out
 have z2:=zaa HB2.out 1
 simp at z2
 clear hm2 HT
 go_wp2_with fail
 generalize hW:World.alloc _ _=W2
 obtain ⟨tb,htb⟩:∃tb,tb=w2.heap.size:=⟨_,rfl⟩
 have HE2:Hid (Ext w2 W2):=hid (by rw [←hW];exact (Ext.refl w2).alloc _)
 have HTB:Hid (W2.heap[tb]?=some (.cells #[.slice a2 n c2] 39 (0,0))):=hid (by rw [←hW,htb];exact heap_alloc_new w2 _)
 rw [←htb]
 clear hW htb z2 hl2
 refine (HU.out W2 _ _ _ (HSR.out.2.1.ext (HE1.out.trans (HM2.out.ext.trans HE2.out)))).mono ?_
 rintro e w3 ⟨v,rfl,hm3⟩
 obtain ⟨a3,c3,rfl⟩:=hm3.row.shape
 have HM3:=hid hm3
 have HB3:=hid (((HE2.out.trans hm3.ext).block (zab HB2.out)).trans HB2.out)
 have hl3:cb<w3.heap.size:=zab HB3.out
 have z3:=zaa HB3.out 2
 simp at z3
 clear hm3 HU
 go_wp2_with fail
 generalize hW:World.alloc _ _=W3
 obtain ⟨vb,hvb⟩:∃vb,vb=w3.heap.size:=⟨_,rfl⟩
 have HE3:Hid (Ext w3 W3):=hid (by rw [←hW];exact (Ext.refl w3).alloc _)
 have HVB:Hid (W3.heap[vb]?=some (.cells #[.slice a3 n c3] 291 (0,0))):=hid (by rw [←hW,hvb];exact heap_alloc_new w3 _)
 rw [←hvb]
 clear hW hvb z3 hl3
 refine (HS.out W3 _ _ _ (HSR.out.2.2.ext (HE1.out.trans (HM2.out.ext.trans (HE2.out.trans (HM3.out.ext.trans HE3.out)))))).mono ?_
 rintro e w4 ⟨v,rfl,hm4⟩
 obtain ⟨a4,c4,rfl⟩:=hm4.row.shape
 have HM4:=hid hm4
 clear hm4 HS
 go_upto_region 9 with fail
 generalize hW:World.alloc _ _=W4
 obtain ⟨sb,hsb⟩:∃sb,sb=w4.heap.size:=⟨_,rfl⟩
 have HE4:Hid (Ext w4 W4):=hid (by rw [←hW];exact (Ext.refl w4).alloc _)
 have HSB:Hid (W4.heap[sb]?=some (.cells #[.slice a4 n c4] 39 (0,0))):=hid (by rw [←hW,hsb];exact heap_alloc_new w4 _)
 have HX4:Hid (Ext w w4):=hid (HX1.out.trans (HE1.out.trans (HM2.out.ext.trans (HE2.out.trans (HM3.out.ext.trans (HE3.out.trans HM4.out.ext))))))
 have HCA4:Hid (ColAt W4 tb vb sb l):=hid (HCA.out W4 tb vb sb
  ⟨a2,c2,((HM3.out.ext.trans (HE3.out.trans (HM4.out.ext.trans HE4.out))).block (zab HTB.out)).trans HTB.out,(HM2.out.row.src (zdG _)).ext (HE2.out.trans (HM3.out.ext.trans (HE3.out.trans (HM4.out.ext.trans HE4.out))))⟩
  ⟨a3,c3,((HM4.out.ext.trans HE4.out).block (zab HVB.out)).trans HVB.out,(HM3.out.row.src (u64s_one _)).ext (HE3.out.trans (HM4.out.ext.trans HE4.out))⟩
  ⟨a4,c4,HSB.out,(HM4.out.row.src (zdG _)).ext HE4.out⟩)
 rw [←hsb]
 clear hW hsb HCA HB1 HB2 HB3 HTB HVB HSB HSR
 go_wp2_with (first|(refine zai rfl _ _ _ rfl _ _ _ _ rfl rfl (heap_alloc_new _ _) rfl pblk_info (by simp [Value.oneCell']) ?_;rintro V5 hbV hcV;have HBV:=hid hbV;have HE5:=hid (((Ext.refl W4).alloc _).stored hcV (Nat.le_refl _));clear hbV hcV)|(refine zat rfl _ _ rfl _ _ _ _ _ rfl HBV.out Tryz.underlying314 rfl pblk_info ?_))
 refine (HPT.out V5 tb vb sb (HCA4.out.ext HE5.out)).mono ?_
 rintro e w6 ⟨g,rfl,hm⟩
 have HM6:=hid hm
 clear hm
 go_wp2_with fail
 refine (HVL.out w6 _ _ (HM6.out.row.src (zck l))).mono ?_
 rintro e w7 ⟨rfl,hx7⟩
 have HX7:=hid hx7
 clear hx7
 go_wp2_with fail
 go_ret2
 exact ⟨g,rfl,(HM6.out.trans (HX4.out.trans (HE4.out.trans HE5.out))).ext' HX7.out⟩
end
end Go.Proofs.YtlmfhjipbjkcbaaGreatDoor
